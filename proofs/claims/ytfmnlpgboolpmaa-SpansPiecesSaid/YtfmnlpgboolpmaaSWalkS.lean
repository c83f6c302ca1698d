/- Walk: the law SpansPieces. -/
import Derived.Test.YtfmnlpgboolpmaaSWalkR
import Derived.Test.YtfmnlpgboolpmaaSSpecI
import Derived.Test.YtfmnlpgboolpmaaSWalkG
namespace Go.Proofs.Ytfmnlpgboolpmaa
open Go Go.Proofs Go.RowKit Go.Pol Go.Shelf

/-- the end of the piece before -/
def prevE (L : List Sp) (k : Nat) : Int := if k = 0 then -1 else (L.getD (k - 1) (0,0)).1 + (L.getD (k - 1) (0,0)).2
theorem okP_step {L : List Sp} {size : Int} {k : Nat} (hk : k < L.length) (h : okP size (prevE L k) (L.drop k)) :
    (prevE L k ≤ (L.getD k (0,0)).1 ∧ (prevE L k = (L.getD k (0,0)).1 → (L.getD k (0,0)).1 % size = 0)) ∧ okP size (prevE L (k + 1)) (L.drop (k + 1)) := by
  rw [drop_cons (0,0) L k hk] at h
  refine ⟨h.1, ?_⟩
  have : prevE L (k + 1) = (L.getD k (0,0)).1 + (L.getD k (0,0)).2 := by unfold prevE; rw [if_neg (by omega)]; rfl
  rw [this]
  exact h.2

set_option maxRecDepth 100000 in
set_option maxHeartbeats 3200000 in
theorem piecesLaw_any (A : Option Addr) (n cap : Nat) (us : List Sp) (size : Int) (w : World) (hn : us.length = n) (hm : n ≤ cap) (hc : cap ≤ maxLen) (hr : RU w w.heap.size A us) :
    Calls Try.prog 11 #[.slice A n cap, .int .i64 size] w fun e w' => e = .returned (.bool true) ∧ Below w.heap.size w w' := by
  by_cases hlen : 600 < n
  · have hlen' : decide (600 < (n : Int)) = true := by simp; omega
    go_enter Try.func11, Try.ntmps11
    go_wp2_with fail
    refine (awake3_any _).mono ?_
    rintro e w2 ⟨rfl, hb2⟩
    go_wp2_with fail
    go_ret
    exact ⟨rfl, hb2⟩
  have hlen' : decide (600 < (n : Int)) = false := by simp; omega
  have m1 := Nat.le_trans hm hc
  have HC := Lib.hid (spCheck_any A n cap us w hn m1 hr)
  by_cases hz : chkS us = 0
  case neg =>
    generalize chkS us = er at *
    have hz' : (er != 0) = true := by simpa using hz
    clear hz
    go_enter Try.func11, Try.ntmps11
    go_wp2_with fail
    refine HC.out.mono ?_
    rintro e w1 ⟨rfl, hb1⟩
    go_wp2_with fail
    refine (awake3_any _).mono ?_
    rintro e w2 ⟨rfl, hb2⟩
    go_wp2_with fail
    go_ret
    exact ⟨rfl, hb1.trans (hb2.mono hb1.size)⟩
  rw [hz] at HC
  by_cases hs1 : size < 1
  · have hs1' : decide (size < 1) = true := by simpa using hs1
    go_enter Try.func11, Try.ntmps11
    go_wp2_with fail
    refine HC.out.mono ?_
    rintro e w1 ⟨rfl, hb1⟩
    go_wp2_with fail
    refine (awake3_any _).mono ?_
    rintro e w2 ⟨rfl, hb2⟩
    go_wp2_with fail
    go_ret
    exact ⟨rfl, hb1.trans (hb2.mono hb1.size)⟩
  have hs1' : decide (size < 1) = false := by simpa using hs1
  by_cases hs2 : 1024 < size
  · have hs2' : decide (1024 < size) = true := by simpa using hs2
    go_enter Try.func11, Try.ntmps11
    go_wp2_with fail
    refine HC.out.mono ?_
    rintro e w1 ⟨rfl, hb1⟩
    go_wp2_with fail
    refine (awake3_any _).mono ?_
    rintro e w2 ⟨rfl, hb2⟩
    go_wp2_with fail
    go_ret
    exact ⟨rfl, hb1.trans (hb2.mono hb1.size)⟩
  have hs2' : decide (1024 < size) = false := by simpa using hs2
  have hcan := chkS_zero.1 hz
  obtain ⟨hvl, hok, ⟨ha1, ha2⟩, hL1024, hp1024, hpsum⟩ := pieces_ok hcan (size := size) ⟨by omega, by omega⟩
  have T1 := Lib.hid (fun W h => piecesTop_any A n cap us size W hn (by omega) h)
  have T2 := Lib.hid (fun W h => pagesTop_any A n cap us W hn (by omega) h)
  have T3 := Lib.hid (fun W h => countS_any A n cap us W hn m1 h)
  rw [hz, if_pos rfl] at T3
  change Hid (∀ W, RU W W.heap.size A us → Calls _ _ _ W fun e w' => ∃ (lb : Array Value) (K : Nat → Prop), _ ∧ SeqY _ _ lb inA (fun _ => False) K (fsts1 us) w' ∧ _) at T2
  have hn' := Lib.hid hn
  generalize piecesF us size = L at *
  generalize fsts1 us = PL at *
  have T4 := Lib.hid (fun A cap W h1 h2 => ofTop_any A L.length cap L W rfl h1 h2)
  rw [ha1, ha2, if_pos rfl] at T4
  have hsm : Hid (sumS us = PL.length) := Lib.hid hpsum.symm
  obtain ⟨ll, hll⟩ : ∃ ll, L.length = ll := ⟨_, rfl⟩
  obtain ⟨pl, hpl⟩ : ∃ pl, PL.length = pl := ⟨_, rfl⟩
  rw [hpl] at hsm hp1024
  rw [hsm.out] at T3
  rw [hll] at T4 hL1024
  have hll' := Lib.hid hll
  have hpl' := Lib.hid hpl
  have hvl' := Lib.hid hvl
  have hok' := Lib.hid hok
  unfold SpansOwn at T4
  rw [hn] at T4
  clear hz hlen hcan hvl hok ha1 ha2 hpsum hsm hn hll hpl
  have y1 : ((pl : Int) != (pl : Int)) = false := by simp
  go_enter Try.func11, Try.ntmps11
  go_wp2_with fail
  refine HC.out.mono ?_
  rintro e w1 ⟨rfl, hb1⟩
  have r1 := hr.on hb1
  go_wp2_with fail
  refine (T1.out _ r1).mono ?_
  rintro e w2 ⟨lb, K, rfl, hseq, hK, hb2⟩
  have B2 := hb1.trans (hb2.mono hb1.size)
  have r2 := r1.on hb2
  have HL := Lib.hid (lawPieces_any _ lb K L 1024 _ (by rw [hll'.out]; exact hL1024) (by omega) hseq pieces_enters hK)
  rw [hll'.out] at HL
  clear hseq hK T1 HC hb1 hb2 r1
  go_wp2_with fail
  refine HL.out.mono ?_
  rintro e w3 ⟨A3, c3, rfl, u3, m3, x3, hb3⟩
  have B3 := B2.trans (hb3.mono B2.size)
  have r3 := r2.on hb3
  clear HL hb3 B2 r2
  go_wp2_with fail
  refine (T2.out _ r3).mono ?_
  rintro e w4 ⟨lb2, K2, rfl, hseq2, hK2, hb4⟩
  have B4 := B3.trans (hb4.mono B3.size)
  have r4 := r3.on hb4
  have u4 := u3.on hb4
  have HL2 := Lib.hid (lawPages_any _ lb2 K2 PL 1024 _ (by rw [hpl'.out]; exact hp1024) (by omega) hseq2 pages_enters (fun k h => (hK2 k h).2))
  rw [hpl'.out] at HL2
  clear hseq2 hK2 T2 B3 hb4 r3 u3
  go_wp2_with fail
  refine HL2.out.mono ?_
  rintro e w5 ⟨A5, c5, rfl, _, hb5⟩
  have B5 := B4.trans (hb5.mono B4.size)
  have r5 := r4.on hb5
  have u5 := u4.on hb5
  clear HL2 B4 hb5 r4 u4
  go_wp2_with fail
  refine (T3.out _ r5).mono ?_
  rintro e w6 ⟨rfl, hb6⟩
  have B6 := B5.trans (hb6.mono B5.size)
  have r6 := r5.on hb6
  have u6 := u5.on hb6
  clear T3 B5 hb6 r5 u5
  go_wp2_with fail
  refine (T4.out _ _ _ (Nat.le_trans m3 x3) u6).mono ?_
  rintro e w7 ⟨A7, c7, rfl, u7, m7, x7, _, hb7, _⟩
  have B7 := B6.trans (hb7.mono B6.size)
  have r7 := r6.on hb7
  have v7 := u6.on hb7
  clear T4 B6 hb7 r6 u6
  have HS := Lib.hid (sameT_any A7 A n c7 cap us us _ hn'.out (Nat.le_trans m7 x7) rfl u7 r7)
  go_wp2_with fail
  refine HS.out.mono ?_
  rintro e w8 ⟨rfl, hb8⟩
  have B8 := B7.trans (hb8.mono B7.size)
  have u8 := v7.on hb8
  clear HS B7 hb8 r7 v7 u7
  go_wp2_with fail
  go_loopw [13] (fun i wr => ∃ k : Nat, k ≤ ll ∧ i = .int .i64 k ∧ RU wr wr.heap.size A3 L ∧ Hid (okP size (prevE L k) (L.drop k)) ∧ Below w.heap.size w wr) (fun i _ => ll - (intOf i).toNat)
  case atStart => exact ⟨0, by omega, rfl, u8, Lib.hid hok'.out, B8⟩
  case round =>
    clear u8 B8
    obtain ⟨k, hk, rfl, hru, hO, hB⟩ := hrel
    by_cases hlt : k < ll
    · have hlt' : decide ((k : Int) < (ll : Int)) = true := by simpa using hlt
      obtain ⟨b, o, rfl, hbl, hcx, hdx⟩ := RU.at_' hru (k := k) (by have := hll'.out; omega)
      have hvx := hvl'.out (L.getD k (0,0)) (by rw [List.getD_eq_getElem?_getD, List.getElem?_eq_getElem (by have := hll'.out; omega)]; simp)
      have hst := Lib.hid (okP_step (by have := hll'.out; omega) hO.out)
      have hO2 := Lib.hid hst.out.2
      have hst1 := hst.out.1
      have hprev : Hid (0 < k → prevE L k = (L.getD (k - 1) (0,0)).1 + (L.getD (k - 1) (0,0)).2) := Lib.hid (fun h => by unfold prevE; rw [if_neg (by omega)])
      clear hst hO
      generalize hx : L.getD k (0,0) = x at hcx hdx hvx hst1
      clear hx
      obtain ⟨xa, xb⟩ := x
      dsimp only at hcx hdx hvx hst1
      have hvx1 := vld_iff.1 hvx.1
      have hvq := hvx.2
      dsimp only at hvx1 hvq
      have d1 : Int.tdiv xa size = xa / size := Int.tdiv_eq_ediv_of_nonneg (by omega)
      have d2 : Int.tdiv (xa + xb - 1) size = xa / size := by rw [Int.tdiv_eq_ediv_of_nonneg (by omega), ← hvq]
      have dz : (size == 0) = false := by simp; omega
      have dne : (xa / size != xa / size) = false := by simp
      have q1 := fun z : Ext wr => z.cell hcx
      have q2 := fun z : Ext wr => z.cell hdx
      generalize xa / size = Q at *
      clear hvq hvx
      by_cases hk0 : 0 < k
      case neg =>
        have hk0' : decide (0 < (k : Int)) = false := by simp; omega
        have hk1' : decide (0 < k) = false := by simp; omega
        go_upto_region 12 with fail
        simp only [List.append_eq, List.cons_append, List.nil_append]
        refine region_ext (by kernel_rfl) (by kernel_rfl) ?_
        repeat (go_big_quiet_step (fail))
        refine wpQuiet_nil ?_
        rintro w9 ⟨⟨_, hw9⟩, rfl⟩
        have hB9 := hB.trans (hw9.mono hB.size)
        have u9 := hru.on hw9
        go_wp2_with fail
        go_roundw
        case rel => exact ⟨k + 1, by omega, by go_num, u9, hO2, hB9⟩
        case measure => simp [intOf]; omega
      case pos =>
        have hk0' : decide (0 < (k : Int)) = true := by simp; omega
        have hk1' : decide (0 < k) = true := by simp; omega
        obtain ⟨b', o', had, hbl2, hcy, hdy⟩ := RU.at_' hru (k := k - 1) (by have := hll'.out; omega)
        obtain ⟨rfl, rfl⟩ : b = b' ∧ o = o' := by simpa using had
        clear had
        have hvy := vld_iff.1 (hvl'.out (L.getD (k - 1) (0,0)) (by rw [List.getD_eq_getElem?_getD, List.getElem?_eq_getElem (by have := hll'.out; omega)]; simp)).1
        rw [hprev.out hk0] at hst1
        generalize L.getD (k - 1) (0,0) = y at hcy hdy hst1 hvy
        obtain ⟨ya, yb⟩ := y
        dsimp only at hcy hdy hst1 hvy
        have q3 := fun z : Ext wr => z.cell hcy
        have q4 := fun z : Ext wr => z.cell hdy
        have hle : decide (xa ≤ ya + yb - 1) = false := by simp; omega
        by_cases heq : xa = ya + yb
        · have heq' : (xa == ya + yb) = true := by simpa using heq
          have htm : Int.tmod xa size = 0 := by rw [Int.tmod_eq_emod_of_nonneg (by omega)]; exact hst1.2 heq.symm
          clear heq
          go_upto_region 12 with fail
          simp only [List.append_eq, List.cons_append, List.nil_append]
          refine region_ext (by kernel_rfl) (by kernel_rfl) ?_
          repeat (go_big_quiet_step (fail))
          refine wpQuiet_nil ?_
          rintro w9 ⟨⟨_, hw9⟩, rfl⟩
          have hB9 := hB.trans (hw9.mono hB.size)
          have u9 := hru.on hw9
          go_wp2_with fail
          go_roundw
          case rel => exact ⟨k + 1, by omega, by go_num, u9, hO2, hB9⟩
          case measure => simp [intOf]; omega
        · have heq' : (xa == ya + yb) = false := by simpa using heq
          clear heq
          go_upto_region 12 with fail
          simp only [List.append_eq, List.cons_append, List.nil_append]
          refine region_ext (by kernel_rfl) (by kernel_rfl) ?_
          repeat (go_big_quiet_step (fail))
          refine wpQuiet_nil ?_
          rintro w9 ⟨⟨_, hw9⟩, rfl⟩
          have hB9 := hB.trans (hw9.mono hB.size)
          have u9 := hru.on hw9
          go_wp2_with fail
          go_roundw
          case rel => exact ⟨k + 1, by omega, by go_num, u9, hO2, hB9⟩
          case measure => simp [intOf]; omega
    · have hlt' : decide ((k : Int) < (ll : Int)) = false := by simp; omega
      go_wp2_with fail
      refine (awake3_any _).mono ?_
      rintro e w9 ⟨rfl, hb9⟩
      go_wp2_with fail
      go_ret
      exact ⟨rfl, hB.trans (hb9.mono hB.size)⟩
end Go.Proofs.Ytfmnlpgboolpmaa
