/- Merged texts. Walks of layer 13: the reference's span, in, live. Walk of layer 13: the reference's Check. Walk of layer 13: the reference's Groups. Walks of layer 13: the reference's Score, touched, Split. Walks of layer 13: the reference's touched, Split. Walks of layer 13: the law's ints, Example, far. Plain laws for layer 13: the example's values; a sort of Array.insertionSort's kind keeps the size. Walk of layer 13: the law's awake. Opening the arguments of the laws of this seat (a table, a usage, numbers), and closing their rows: all that a law's contract has to say is that it returns true and turns nothing that lay there. Opening the arguments of the laws of layer 13: states, lists of spans, numbers. Plain law for Choose of layer 13: an insertion sort by live pages keeps the order of the numbers. Plain laws for Choose of layer 13: sums over the first of a sorted list are the least. Walks of layer 13: the reference's sets, Cost. Walk of layer 13: the reference's better. Walk of layer 13: the reference's first. -/
import Derived.Test.YtmpakobfedgdbaaRows
import Derived.Carry
import Derived.ChangeSlices
import Derived.RowKit2
import Derived.RowKit3
import Derived.JoinedAt
import Derived.Test.YtmpakobfedgdbaaC4
namespace Go.Proofs.Ytmpakobfedgdbaa
open Go Go.Proofs Go.RowKit Go.Pol Go.Shelf
attribute [local go_sem] Oper.semAt_some Go.Pol.wide_fn Go.Pol.wide_depth Go.Pol.wide_fn' Go.Pol.wide_depth'

theorem span13_any (g : Int) (w : World) (h : 0 ≤ g ∧ g < 64) : Calls Try.prog 34 #[.int .i64 g] w fun e w' => e = .returned (.agg #[.int .i64 (16 * g), .int .i64 16]) ∧ Below w.heap.size w w' := by
  obtain ⟨k, rfl⟩ : ∃ k : Nat, g = (k : Int) := ⟨g.toNat, by omega⟩
  have hm : (k : Int) * 16 = 16 * (k : Int) := Int.mul_comm _ _
  have k0 := Blk.new w 53 #[.int .i64 0, .int .i64 0]
  have hb0 := (Below.refl w.heap.size w).alloc (Nat.le_refl _) (.cells #[.int .i64 0, .int .i64 0] 53)
  have c0 := k0.cell
  have f0 := k0.frozen
  have k1 := Blk.new w 53 #[.int .i64 (16 * (k : Int)), .int .i64 16]
  have hb1 := (Below.refl w.heap.size w).alloc (Nat.le_refl _) (.cells #[.int .i64 (16 * (k : Int)), .int .i64 16] 53)
  have c1 := k1.cell
  go_enter Try.func34, Try.ntmps34
  go_wp2_with fail
  exact bodyPost_ret (v := .agg #[.int .i64 (16 * (k : Int)), .int .i64 16]) (by simp [results, Try.results34, go_sem, c1]) rfl ⟨rfl, hb1⟩
theorem in13_any (v : Int) (A : Option Addr) (n cap : Nat) (bs : List Int) (w : World) (hn : bs.length = n) (hm : n ≤ maxLen) (hr : RI w w.heap.size A bs) :
    Calls Try.prog 49 #[.slice A n cap, .int .i64 v] w fun e w' => e = .returned (.bool (decide (v ∈ bs))) ∧ w' = w := by
  unfold maxLen at hm
  obtain ⟨R, hR⟩ : ∃ R, decide (v ∈ bs) = R := ⟨_, rfl⟩
  rw [hR]
  have hR' := Lib.hid hR
  have hn' := Lib.hid hn
  clear hR hn
  go_enter Try.func49, Try.ntmps49
  go_wp2_with fail
  go_loopw [5] (fun i wr => ∃ k : Nat, k ≤ n ∧ i = .int .i64 k ∧ wr = w ∧ Hid (decide (v ∈ bs.drop k) = R)) (fun i _ => n - (intOf i).toNat)
  case atStart => exact ⟨0, by omega, rfl, rfl, by simpa using hR'⟩
  case round =>
    obtain ⟨k, hk, rfl, hw, hH⟩ := hrel
    have hw' := hw.symm
    clear hw
    subst hw'
    by_cases hlt : k < n
    · have hlt' : decide ((k : Int) < (n : Int)) = true := by simpa using hlt
      obtain ⟨b, o, rfl, _, c1⟩ := hr.at_ (k := k) (by have := hn'.out; omega)
      have hst := hH.out
      rw [Go.Pol.drop_cons 0 bs k (by have := hn'.out; omega)] at hst
      generalize bs.getD k 0 = x at *
      cases hpx : (x == v) with
      | true =>
        have hst' := Lib.hid (show true = R by rw [← hst]; simp at hpx; simp [hpx])
        clear hst hH
        go_wp2_with fail
        go_ret
        exact ⟨ret_bool hst'.out, rfl⟩
      | false =>
        have hst' := Lib.hid (show decide (v ∈ bs.drop (k + 1)) = R by
          rw [← hst]
          have : ¬ v = x := fun e => by rw [e] at hpx; simp at hpx
          simp [this])
        clear hst hH
        go_wp2_with fail
        go_roundw
        case rel => exact ⟨k + 1, by omega, by go_num, by first | rfl | trivial, hst'⟩
        case measure => simp [intOf]; omega
    · obtain rfl : k = n := by omega
      have hlt' : decide ((k : Int) < (k : Int)) = false := by simp
      have hst := hH.out
      rw [List.drop_of_length_le (by have := hn'.out; omega)] at hst
      have hst' := Lib.hid (show false = R by rw [← hst]; simp)
      clear hst hH
      go_wp2_with fail
      go_ret
      exact ⟨ret_bool hst'.out, rfl⟩
theorem ru_one {w : World} {g : Nat} {t : TypeId} {a b : Int} (h : Blk w g t #[.int .i64 a, .int .i64 b]) : RU w w.heap.size (some ⟨g, 0, none⟩) [(a, b)] := fun k hk => by
  obtain rfl : k = 0 := by simp at hk; omega
  exact ⟨g, 0, rfl, h.lt, h.cell 0, h.cell 1⟩
def LiveS (bx : Nat) (v : Value) (W : World) : Prop := W.cell? ⟨bx, 1, none⟩ = some v ∧ True
set_option maxRecDepth 100000 in
set_option maxHeartbeats 1600000 in
theorem live13_any (S : Value) (C L : List Sp) (H : List Int) (g : Int) (w : World) (hS : StIs w S C L H) (hg : 0 ≤ g ∧ g < 64) (hL : Go.Pol.Can L) :
    Calls Try.prog 47 #[S, .int .i64 g] w fun e w' => e = .returned (.int .i64 (grpF L g)) ∧ Below w.heap.size w w' := by
  obtain ⟨A1, A2, A3, n1, c1, n2, c2, n3, c3, rfl, h1, h2, h3, h4, h5, h6, h7, h8, h9⟩ := hS.ex
  obtain ⟨m1, m2, m3⟩ := meet_span hL hg
  have hb0 := (Below.refl w.heap.size w).alloc (Nat.le_refl _) (.cells #[.slice A1 n1 c1, .slice A2 n2 c2, .slice A3 n3 c3] 25)
  have k0 := Blk.new w 25 #[.slice A1 n1 c1, .slice A2 n2 c2, .slice A3 n3 c3]
  have r0 := h6.on hb0
  have HSp := Lib.hid (fun W => span13_any g W hg)
  have HM := Lib.hid (fun A9 c9 W (hr1 : RU W W.heap.size A2 L) (hr2 : RU W W.heap.size A9 [(16 * g, 16)]) => rMeet_any A2 A9 n2 c2 1 c9 L [(16 * g, 16)] W h4 h5 hr1 rfl (by unfold maxLen; omega) hr2)
  have HC := Lib.hid (fun A9 n9 c9 W (hn : (combF 2 L [(16 * g, 16)]).length = n9) (hm : n9 ≤ maxLen) hr => rCount_any A9 n9 c9 (combF 2 L [(16 * g, 16)]) W hn hm hr)
  rw [m1] at HM
  rw [if_pos (chkS_zero.2 m2), m3] at HC
  have hml := m2.len
  generalize combF 2 L [(16 * g, 16)] = M at *
  generalize grpF L g = R at *
  clear h1 h2 h3 h4 h5 h6 h7 h8 h9 hS m1 m2 m3 hL
  go_enter Try.func47, Try.ntmps47
  go_upto_region 1 with fail
  generalize w.alloc (.cells #[.slice A1 n1 c1, .slice A2 n2 c2, .slice A3 n3 c3] 25) = w0 at *
  refine wp_noPanic ?_
  refine wp_region_T (LiveS w.heap.size (.slice A2 n2 c2)) [] (by kernel_rfl) ?_
  have hS : LiveS w.heap.size (.slice A2 n2 c2) w0.drew := ⟨k0.cell 1, trivial⟩
  have hbd : Below w0.heap.size w0 w0.drew := (Below.refl _ _).drew
  have k1 := k0.call hbd
  have r1 := r0.on hbd
  have B1 := hb0.trans (hbd.mono hb0.size)
  generalize w0.drew = w1 at *
  clear k0 r0 hb0 hbd
  refine' wpAnyT_take (i := 0) (v := _) ?hiT0 (by kernel_rfl) ?hQT0 (Or.inl ⟨?hwT0, ?hyT0⟩) hS ?reT0
  case hiT0 => (simp only [List.getElem?_toArray, List.getElem?_cons_zero]; rfl)
  case hQT0 => exact fun _ _ _ h => h
  case hwT0 => rfl
  case hyT0 => (intro wS hSw; obtain ⟨_, _⟩ := hSw; go_simp; (try with_reducible rfl))
  try simp only [Act.put, List.setIfInBounds_toArray, List.set_cons_zero, List.set_cons_succ]
  refine' wpAnyT_take (i := 1) (v := _) ?hiT1 (by kernel_rfl) ?hQT1 (Or.inl ⟨?hwT1, ?hyT1⟩) hS ?reT1
  case hiT1 => (simp only [List.getElem?_toArray, List.getElem?_cons_succ, List.getElem?_cons_zero]; rfl)
  case hQT1 => exact fun _ _ _ h => h
  case hwT1 => rfl
  case hyT1 => (intro wS hSw; obtain ⟨_, _⟩ := hSw; go_simp; (try with_reducible rfl))
  try simp only [Act.put, List.setIfInBounds_toArray, List.set_cons_zero, List.set_cons_succ]
  refine' wpAnyT_take (i := 2) (v := _) ?hiT2 (by kernel_rfl) ?hQT2 (Or.inl ⟨?hwT2, ?hyT2⟩) hS ?reT2
  case hiT2 => (simp only [List.getElem?_toArray, List.getElem?_cons_succ, List.getElem?_cons_zero]; rfl)
  case hQT2 => exact fun _ _ _ h => h
  case hwT2 => rfl
  case hyT2 => (intro wS hSw; obtain ⟨_, _⟩ := hSw; go_simp; (try with_reducible rfl))
  try simp only [Act.put, List.setIfInBounds_toArray, List.set_cons_zero, List.set_cons_succ]
  refine wpAnyT_ready (rs := [3]) (by kernel_rfl) (by simp) ?_
  refine' AllReadyT.cons ?hi3 (fun K hK => ?st3) AllReadyT.nil
  case hi3 => (simp only [List.getElem?_toArray, List.getElem?_cons_succ, List.getElem?_cons_zero]; rfl)
  go_simp
  refine (HSp.out _).mono ?_
  rintro e w2 ⟨rfl, hb2⟩
  have k2 := k1.call hb2
  have r2 := r1.on hb2
  have B2 := B1.trans (hb2.mono B1.size)
  refine hK.out _ _ (fun _ => ⟨k2.cell 1, trivial⟩) (fun hS => ?_)
  clear hK K hb2 k1 r1 B1
  replace hS := hS rfl
  try simp only [Act.put, List.setIfInBounds_toArray, List.set_cons_zero, List.set_cons_succ]
  refine wpAnyT_ready (rs := [4]) (by kernel_rfl) (by simp) ?_
  refine' AllReadyT.cons ?hi4 (fun K hK => ?st4) AllReadyT.nil
  case hi4 => (simp only [List.getElem?_toArray, List.getElem?_cons_succ, List.getElem?_cons_zero]; rfl)
  go_simp
  have kN := Blk.new w2 53 #[.int .i64 (16 * g), .int .i64 16]
  have hb3 : Below w2.heap.size w2 (w2.alloc (.cells #[.int .i64 (16 * g), .int .i64 16] 53)) := (Below.refl _ _).alloc (Nat.le_refl _) _
  have k3 := k2.call hb3
  have r3 := r2.on hb3
  have B3 := B2.trans (hb3.mono B2.size)
  obtain ⟨g2, hg2⟩ : ∃ g2, w2.heap.size = g2 := ⟨_, rfl⟩
  rw [hg2] at kN ⊢
  have HM2 := Lib.hid (HM.out _ 1 _ r3 (ru_one kN))
  refine hK.out _ _ (fun _ => ⟨k3.cell 1, trivial⟩) (fun hS => ?_)
  clear hK K hb3 k2 r2 B2 kN HM
  replace hS := hS rfl
  generalize w2.alloc (.cells #[.int .i64 (16 * g), .int .i64 16] 53) = w3 at *
  try simp only [Act.put, List.setIfInBounds_toArray, List.set_cons_zero, List.set_cons_succ]
  refine wpAnyT_ready (rs := [5]) (by kernel_rfl) (by simp) ?_
  refine' AllReadyT.cons ?hi5 (fun K hK => ?st5) AllReadyT.nil
  case hi5 => (simp only [List.getElem?_toArray, List.getElem?_cons_succ, List.getElem?_cons_zero]; rfl)
  go_simp
  refine HM2.out.mono ?_
  rintro e w4 ⟨A9, c9, rfl, u9, _, _, _, hb4⟩
  have k4 := k3.call hb4
  have B4 := B3.trans (hb4.mono B3.size)
  have HC2 := Lib.hid (HC.out A9 M.length c9 w4 rfl (by unfold maxLen; omega) u9)
  obtain ⟨ml, hml2⟩ : ∃ ml, M.length = ml := ⟨_, rfl⟩
  rw [hml2] at HC2 ⊢
  refine hK.out _ _ (fun _ => ⟨k4.cell 1, trivial⟩) (fun hS => ?_)
  clear hK K hb4 k3 r3 B3 HM2
  replace hS := hS rfl
  try simp only [Act.put, List.setIfInBounds_toArray, List.set_cons_zero, List.set_cons_succ]
  refine' wpAnyT_take (i := 6) (v := _) ?hiT6a (by kernel_rfl) ?hQT6a (Or.inl ⟨?hwT6a, ?hyT6a⟩) hS ?reT6a
  case hiT6a => (simp only [List.getElem?_toArray, List.getElem?_cons_succ, List.getElem?_cons_zero]; rfl)
  case hQT6a => exact fun _ _ _ h => h
  case hwT6a => rfl
  case hyT6a => (intro wS hSw; obtain ⟨_, _⟩ := hSw; go_simp; (try with_reducible rfl))
  try simp only [Act.put, List.setIfInBounds_toArray, List.set_cons_zero, List.set_cons_succ]
  refine' wpAnyT_take (i := 7) (v := _) ?hiT7a (by kernel_rfl) ?hQT7a (Or.inl ⟨?hwT7a, ?hyT7a⟩) hS ?reT7a
  case hiT7a => (simp only [List.getElem?_toArray, List.getElem?_cons_succ, List.getElem?_cons_zero]; rfl)
  case hQT7a => exact fun _ _ _ h => h
  case hwT7a => rfl
  case hyT7a => (intro wS hSw; obtain ⟨_, _⟩ := hSw; go_simp; (try with_reducible rfl))
  try simp only [Act.put, List.setIfInBounds_toArray, List.set_cons_zero, List.set_cons_succ]
  refine' wpAnyT_take (i := 8) (v := _) ?hiT8a (by kernel_rfl) ?hQT8a (Or.inl ⟨?hwT8a, ?hyT8a⟩) hS ?reT8a
  case hiT8a => (simp only [List.getElem?_toArray, List.getElem?_cons_succ, List.getElem?_cons_zero]; rfl)
  case hQT8a => exact fun _ _ _ h => h
  case hwT8a => rfl
  case hyT8a => (intro wS hSw; obtain ⟨_, _⟩ := hSw; go_simp; (try with_reducible rfl))
  try simp only [Act.put, List.setIfInBounds_toArray, List.set_cons_zero, List.set_cons_succ]
  refine' wpAnyT_take (i := 9) (v := _) ?hiT9a (by kernel_rfl) ?hQT9a (Or.inl ⟨?hwT9a, ?hyT9a⟩) hS ?reT9a
  case hiT9a => (simp only [List.getElem?_toArray, List.getElem?_cons_succ, List.getElem?_cons_zero]; rfl)
  case hQT9a => exact fun _ _ _ h => h
  case hwT9a => rfl
  case hyT9a => (intro wS hSw; obtain ⟨_, _⟩ := hSw; go_simp; (try with_reducible rfl))
  try simp only [Act.put, List.setIfInBounds_toArray, List.set_cons_zero, List.set_cons_succ]
  refine' wpAnyT_take (i := 10) (v := _) ?hiT10a (by kernel_rfl) ?hQT10a (Or.inl ⟨?hwT10a, ?hyT10a⟩) hS ?reT10a
  case hiT10a => (simp only [List.getElem?_toArray, List.getElem?_cons_succ, List.getElem?_cons_zero]; rfl)
  case hQT10a => exact fun _ _ _ h => h
  case hwT10a => rfl
  case hyT10a => (intro wS hSw; obtain ⟨_, _⟩ := hSw; go_simp; (try with_reducible rfl))
  try simp only [Act.put, List.setIfInBounds_toArray, List.set_cons_zero, List.set_cons_succ]
  refine wpAnyT_done (by kernel_rfl) ?_ _
  refine noPanic_normal ?_
  go_wp2_with fail
  refine HC2.out.mono ?_
  rintro e w5 ⟨rfl, hb5⟩
  go_wp2_with fail
  go_ret
  exact ⟨rfl, B4.trans (hb5.mono B4.size)⟩
end Go.Proofs.Ytmpakobfedgdbaa
namespace Go.Proofs.Ytmpakobfedgdbaa
open Go Go.Proofs Go.RowKit Go.Pol Go.Shelf
attribute [local go_sem] Oper.semAt_some Go.Pol.wide_fn Go.Pol.wide_depth Go.Pol.wide_fn' Go.Pol.wide_depth'

set_option maxRecDepth 100000 in
set_option maxHeartbeats 3200000 in
theorem rcheck13_any (S : Value) (C L : List Sp) (H : List Int) (w : World) (hS : StIs w S C L H) :
    Calls Try.prog 12 #[S] w fun e w' => e = .returned (.int .i64 (chkH C L H)) ∧ Below w.heap.size w w' := by
  obtain ⟨A1, A2, A3, n1, c1, n2, c2, n3, c3, rfl, h1, h2, h3, h4, h5, h6, h7, h8, h9⟩ := hS.ex
  have hb0 := (Below.refl w.heap.size w).alloc (Nat.le_refl _) (.cells #[.slice A1 n1 c1, .slice A2 n2 c2, .slice A3 n3 c3] 25)
  have k0 := Blk.new w 25 #[.slice A1 n1 c1, .slice A2 n2 c2, .slice A3 n3 c3]
  have H1 := Lib.hid (fun W h => refSpCheck_any A1 n1 c1 C W h1 h2 h)
  have H2 := Lib.hid (fun W h => refSpCheck_any A2 n2 c2 L W h4 h5 h)
  have HM := Lib.hid (fun W (hr1 : RU W W.heap.size A2 L) (hr2 : RU W W.heap.size A1 C) => rMinus_any A2 A1 n2 c2 n1 c1 L C W h4 h5 hr1 h1 h2 hr2)
  have HH := Lib.hid (fun (g : Int) W h => rHas_any A1 n1 c1 C (16 * g) 16 W h1 h2 h)
  obtain ⟨R, hR⟩ : ∃ R, chkH C L H = R := ⟨_, rfl⟩
  rw [hR]
  have hR' := Lib.hid hR
  have r1 := h3.on hb0
  have r2 := h6.on hb0
  have r3 := RI.on h9 hb0
  have hn3 := h7
  have hm3 := h8
  unfold maxLen at hm3
  clear hR h1 h2 h3 h4 h5 h6 h7 h8 h9 hS
  have c0 := k0.cell
  by_cases hc : chkS C = 0
  case neg =>
    have hE : Hid (R = chkS C) := Lib.hid (by rw [← hR'.out, chkH_1 hc])
    have hc' : (chkS C == 0) = false := by simpa using hc
    have hc2 : (chkS C != 0) = true := by simpa using hc
    generalize chkS C = er at *
    clear hc HM HH
    go_enter Try.func12, Try.ntmps12
    go_wp2_with fail
    refine (H1.out _ r1).mono ?_
    rintro e w1 ⟨rfl, hb1⟩
    go_wp2_with fail
    go_ret
    exact ⟨ret_int hE.out.symm, hb0.trans (hb1.mono hb0.size)⟩
  case pos =>
    rw [hc] at H1
    by_cases hl : chkS L = 0
    case neg =>
      have hE : Hid (R = chkS L) := Lib.hid (by rw [← hR'.out, chkH_2 hc hl])
      have hc2 : (chkS L != 0) = true := by simpa using hl
      generalize chkS L = er at *
      clear hc hl HM HH
      go_enter Try.func12, Try.ntmps12
      go_wp2_with fail
      refine (H1.out _ r1).mono ?_
      rintro e w1 ⟨rfl, hb1⟩
      have k1 := k0.call hb1
      have c1 := k1.cell
      have r21 := r2.on hb1
      have B1 := hb0.trans (hb1.mono hb0.size)
      go_wp2_with fail
      refine (H2.out _ r21).mono ?_
      rintro e w2 ⟨rfl, hb2⟩
      go_wp2_with fail
      go_ret
      exact ⟨ret_int hE.out.symm, B1.trans (hb2.mono B1.size)⟩
    case pos =>
      rw [hl] at H2
      have canC := Lib.hid (chkS_zero.1 hc)
      have canL := Lib.hid (chkS_zero.1 hl)
      have hcl := Lib.hid (⟨hc, hl⟩ : chkS C = 0 ∧ chkS L = 0)
      clear hc hl
      go_enter Try.func12, Try.ntmps12
      go_wp2_with fail
      refine (H1.out _ r1).mono ?_
      rintro e w1 ⟨rfl, hb1⟩
      have k1 := k0.call hb1
      have c1 := k1.cell
      have r21 := r2.on hb1
      have B1 := hb0.trans (hb1.mono hb0.size)
      go_wp2_with fail
      refine (H2.out _ r21).mono ?_
      rintro e w2 ⟨rfl, hb2⟩
      have k2 := k1.call hb2
      have q1 := (r1.on hb1).on hb2
      have q2 := r21.on hb2
      have q3 := RI.on (RI.on r3 hb1) hb2
      have B2 := B1.trans (hb2.mono B1.size)
      clear r21 B1 hb1 hb2 k1 c1 r1 r2 r3 hb0 k0 c0
      go_wp2_with fail
      have hst0 : Hid (H.all inG = (H.drop 0).all inG) := Lib.hid rfl
      go_loopw [4] (fun i wr => ∃ k : Nat, k ≤ n3 ∧ i = .int .i64 k ∧ wr = w2 ∧ Hid (H.all inG = (H.drop k).all inG)) (fun i _ => n3 - (intOf i).toNat)
      case atStart => exact ⟨0, by omega, rfl, rfl, hst0⟩
      case round =>
        clear hst0
        obtain ⟨k, hk, rfl, hw, hst⟩ := hrel
        have hw' := hw.symm
        clear hw
        subst hw'
        have c2 := k2.cell
        by_cases hlt : k < n3
        · have hlt' : decide ((k : Int) < (n3 : Int)) = true := by simpa using hlt
          obtain ⟨b, o, rfl, _, c4⟩ := q3.at_ (k := k) (by omega)
          have hst1 := hst.out
          rw [Go.Pol.drop_cons 0 H k (by omega), List.all_cons] at hst1
          generalize H.getD k 0 = x at *
          have hi : inG x = (decide (0 ≤ x) && decide (x < 64)) := rfl
          by_cases hx0 : x < 0
          · as_aux_lemma =>
              have hx0' : decide (x < 0) = true := by simpa using hx0
              have hE : Hid (R = 7) := Lib.hid (by rw [← hR'.out, chkH_3 hcl.out.1 hcl.out.2 (by rw [hst1, hi, decide_eq_false (show ¬ 0 ≤ x by omega)]; rfl)])
              clear hst hst1 hi hx0
              go_wp2_with fail
              go_ret
              exact ⟨ret_int hE.out.symm, B2⟩
          · have hx0' : decide (x < 0) = false := by simpa using hx0
            by_cases hx1 : 64 ≤ x
            · as_aux_lemma =>
                have hx1' : decide (64 ≤ x) = true := by simpa using hx1
                have hE : Hid (R = 7) := Lib.hid (by rw [← hR'.out, chkH_3 hcl.out.1 hcl.out.2 (by rw [hst1, hi, decide_eq_false (show ¬ x < 64 by omega), Bool.and_false]; rfl)])
                clear hst hst1 hi hx0 hx1
                go_wp2_with fail
                go_ret
                exact ⟨ret_int hE.out.symm, B2⟩
            · as_aux_lemma =>
                have hx1' : decide (64 ≤ x) = false := by simpa using hx1
                have hst2 : Hid (H.all inG = (H.drop (k + 1)).all inG) := Lib.hid (by rw [hst1, hi, decide_eq_true (show 0 ≤ x by omega), decide_eq_true (show x < 64 by omega)]; rfl)
                clear hst hst1 hi hx0 hx1
                go_wp2_with fail
                go_roundw
                case rel => exact ⟨k + 1, by omega, by go_num, by first | rfl | trivial, hst2⟩
                case measure => simp [intOf]; omega
        · as_aux_lemma =>
            obtain rfl : k = n3 := by omega
            have hlt' : decide ((k : Int) < (k : Int)) = false := by simp
            have hG : Hid (H.all inG = true) := Lib.hid (by rw [hst.out, List.drop_of_length_le (by omega)]; rfl)
            have c2 := k2.cell
            obtain ⟨e1, e2⟩ := minus_nil canL.out canC.out
            have HM2 := HM.out w2 q2 q1
            rw [e1] at HM2
            clear hst hlt HM e1
            by_cases hsub : subF L C = true
            case neg =>
              have hE : Hid (R = 6) := Lib.hid (by rw [← hR'.out, chkH_4 hcl.out.1 hcl.out.2 hG.out (by simpa using hsub)])
              have hpos : 0 < (combF 3 L C).length := List.length_pos_iff.2 (fun h => hsub (e2.1 h))
              generalize combF 3 L C = M at *
              obtain ⟨ml, hml⟩ : ∃ ml, M.length = ml := ⟨_, rfl⟩
              unfold SpansR at HM2
              rw [hml] at HM2 hpos
              have hp' : decide (0 < (ml : Int)) = true := by rw [decide_eq_true_eq]; omega
              have hp2 : decide (0 < ml) = true := by rw [decide_eq_true_eq]; omega
              have HM3 := Lib.hid HM2
              clear e2 hsub HM2
              go_wp2_with fail
              refine HM3.out.mono ?_
              rintro e w3 ⟨A9, c9, rfl, u9, _, _, _, hb3⟩
              go_wp2_with fail
              go_ret
              exact ⟨ret_int hE.out.symm, B2.trans (hb3.mono B2.size)⟩
            case pos =>
              have hM : combF 3 L C = [] := e2.2 hsub
              rw [hM] at HM2
              have HM3 := Lib.hid HM2
              have hsub' := Lib.hid hsub
              unfold SpansR at HM3
              clear e2 hsub HM2 hM
              go_wp2_with fail
              refine HM3.out.mono ?_
              rintro e w3 ⟨A9, c9, rfl, u9, _, _, _, hb3⟩
              have k3 := k2.call hb3
              have p1 := q1.on hb3
              have p3 := RI.on q3 hb3
              have B3 := B2.trans (hb3.mono B2.size)
              clear hb3 q1 q2 q3 B2 k2 c2 HM3 u9
              go_wp2_with fail
              have hst0 : Hid (hugOk C (-1) H = hugOk C (prevH H 0) (H.drop 0)) := Lib.hid rfl
              go_loopw [7] (fun i wr => ∃ j : Nat, j ≤ k ∧ i = .int .i64 j ∧ Below w3.heap.size w3 wr ∧ Hid (hugOk C (-1) H = hugOk C (prevH H j) (H.drop j))) (fun i _ => k - (intOf i).toNat)
              case atStart => exact ⟨0, by omega, rfl, Below.refl _ _, hst0⟩
              case round =>
                clear hst0
                obtain ⟨j, hj, rfl, hB, hst⟩ := hrel
                have k4 := k3.call hB
                have p4 := p1.on hB
                have p5 := RI.on p3 hB
                have B4 := B3.trans (hB.mono B3.size)
                have c4 := k4.cell
                by_cases hlt : j < k
                · have hlt' : decide ((j : Int) < (k : Int)) = true := by simpa using hlt
                  have hst1 := hst.out
                  rw [Go.Pol.drop_cons 0 H j (by omega)] at hst1
                  have hin := inG_iff.1 (List.all_eq_true.1 hG.out _ (getD_memI (bs := H) (k := j) (by omega)))
                  have hpk : 0 < j → prevH H j = H.getD (j - 1) 0 := fun h => by rw [prevH, if_neg (by omega)]
                  have hp0 : j = 0 → prevH H j = -1 := fun h => by rw [prevH, if_pos h]
                  have hpn : prevH H (j + 1) = H.getD j 0 := by rw [prevH, if_neg (by omega)]; rfl
                  obtain ⟨b, o, hA3, _, c5⟩ := p5.at_ (k := j) (by omega)
                  have c7 : 0 < j → wr.cell? ⟨b, o + (j - 1), none⟩ = some (.int .i64 (H.getD (j - 1) 0)) := fun h => by
                    obtain ⟨b', o', e', _, c6⟩ := p5.at_ (k := j - 1) (by omega)
                    rw [hA3] at e'; cases e'; exact c6
                  generalize H.getD j 0 = x at *
                  generalize H.getD (j - 1) 0 = pr at *
                  have hHx := HH.out x wr p4
                  rw [askS_span canC.out hin] at hHx
                  have hbe : (decide ((0 : Int) = 0) && (cntF C (16 * x, 16) == 16)) = decide (16 ≤ grpF C x) := by
                    have := grpF_bound C x
                    unfold grpF at *
                    rw [Bool.eq_iff_iff]; simp; omega
                  rw [hbe] at hHx
                  clear hbe
                  obtain ⟨hb, hhb⟩ : ∃ hb, decide (16 ≤ grpF C x) = hb := ⟨_, rfl⟩
                  rw [hhb] at hHx
                  have hok1 : hugOk C (-1) H = (hb && decide (prevH H j < x) && hugOk C x (H.drop (j + 1))) := by rw [hst1, hugOk, hhb]
                  have G1 := Lib.hid (fun z : Ext wr => Ext.call (x := z) (span13_any x z.w hin))
                  have G2 := Lib.hid (fun (z : Ext wr) => Ext.call (x := z) (by
                    have := HH.out x z.w (p4.on z.le)
                    rw [askS_span canC.out hin] at this
                    rw [show (decide ((0 : Int) = 0) && (cntF C (16 * x, 16) == 16)) = hb by
                      rw [← hhb]
                      have := grpF_bound C x
                      unfold grpF at *
                      rw [Bool.eq_iff_iff]; simp; omega] at this
                    exact this))
                  have e1 := fun z : Ext wr => (z.blk k4).cell
                  have e2 := fun z : Ext wr => z.cell c5
                  subst hA3
                  have c7' := Lib.hid c7
                  have hok' := Lib.hid hok1
                  have hpk' := Lib.hid hpk
                  have hp0' := Lib.hid hp0
                  have hpn' := Lib.hid hpn
                  clear hst1 hst hHx hhb p4 p5 c7 hok1 hpk hp0 hpn
                  go_upto_region 17 with fail
                  refine region_ext (by kernel_rfl) (by kernel_rfl) ?_
                  repeat (go_big_quiet_step ((first | (go_at_call 34; exact G1.out _) | (go_at_call 33; exact G2.out _))))
                  refine wpQuiet_nil ?_
                  rintro w8 ⟨⟨_, hw8⟩, rfl⟩
                  have k8 := k4.call hw8
                  have B8 := B4.trans (hw8.mono B4.size)
                  have hB8 := hB.trans (hw8.mono hB.size)
                  have e8 := fun z : Ext w8 => (z.blk k8).cell
                  have c58 := (hw8.cell (World.block_lt_of_cell? _ _ c5)).trans c5
                  have e9 := fun z : Ext w8 => z.cell c58
                  clear e1 e2 G1 G2 c4
                  cases hb with
                  | false =>
                    have hE : Hid (R = 6) := Lib.hid (by rw [← hR'.out, chkH_5 hcl.out.1 hcl.out.2 hG.out hsub'.out (by rw [hok'.out]; rfl)])
                    go_upto_region 18 with fail
                    refine region_ext (by kernel_rfl) (by kernel_rfl) ?_
                    repeat (go_big_quiet_step (fail))
                    refine wpQuiet_nil ?_
                    rintro w9 ⟨⟨_, hw9⟩, rfl⟩
                    go_wp2_with fail
                    go_ret
                    exact ⟨ret_int hE.out.symm, B8.trans (hw9.mono B8.size)⟩
                  | true =>
                    by_cases hj0 : j = 0
                    · subst hj0
                      have hst2 : Hid (hugOk C (-1) H = hugOk C (prevH H (0 + 1)) (H.drop (0 + 1))) := Lib.hid (by
                        rw [hok'.out, hpn'.out, hp0'.out rfl, decide_eq_true (show (-1 : Int) < x by omega)]; rfl)
                      go_upto_region 18 with fail
                      refine region_ext (by kernel_rfl) (by kernel_rfl) ?_
                      repeat (go_big_quiet_step (fail))
                      refine wpQuiet_nil ?_
                      rintro w9 ⟨⟨_, hw9⟩, rfl⟩
                      go_wp2_with fail
                      go_roundw
                      case rel => exact ⟨1, by omega, by go_num, hB8.trans (hw9.mono hB8.size), hst2⟩
                      case measure => simp [intOf]; omega
                    · have h4k : 0 < j := by omega
                      have c78 := (hw8.cell (World.block_lt_of_cell? _ _ (c7'.out h4k))).trans (c7'.out h4k)
                      have e10 := fun z : Ext w8 => z.cell c78
                      have h1k : (1 : Int) ≤ (j : Int) := by omega
                      have h2k : 1 ≤ j := by omega
                      have h3k : (j : Int) - 1 < (k : Int) := by omega
                      have h5k : (0 : Int) ≤ (j : Int) - 1 := by omega
                      have h6k : decide (0 < (j : Int)) = true := by rw [decide_eq_true_eq]; omega
                      have h7k : decide (0 < j) = true := by rw [decide_eq_true_eq]; omega
                      have hwj : wrap64 ((j : Int) - 1) = (j : Int) - 1 := by unfold wrap64; omega
                      have hpk2 := Lib.hid (hpk'.out h4k)
                      by_cases hle : x ≤ pr
                      · have hle' : decide (x ≤ pr) = true := by simpa using hle
                        have hE : Hid (R = 6) := Lib.hid (by rw [← hR'.out, chkH_5 hcl.out.1 hcl.out.2 hG.out hsub'.out (by rw [hok'.out, hpk2.out, decide_eq_false (show ¬ pr < x by omega)]; rfl)])
                        clear hle hj0
                        go_upto_region 18 with fail
                        refine region_ext (by kernel_rfl) (by kernel_rfl) ?_
                        repeat (go_big_quiet_step (fail))
                        refine wpQuiet_nil ?_
                        rintro w9 ⟨⟨_, hw9⟩, rfl⟩
                        go_wp2_with fail
                        go_ret
                        exact ⟨ret_int hE.out.symm, B8.trans (hw9.mono B8.size)⟩
                      · have hle' : decide (x ≤ pr) = false := by simpa using hle
                        have hst2 : Hid (hugOk C (-1) H = hugOk C (prevH H (j + 1)) (H.drop (j + 1))) := Lib.hid (by
                          rw [hok'.out, hpn'.out, hpk2.out, decide_eq_true (show pr < x by omega)]; rfl)
                        clear hle hj0
                        go_upto_region 18 with fail
                        refine region_ext (by kernel_rfl) (by kernel_rfl) ?_
                        repeat (go_big_quiet_step (fail))
                        refine wpQuiet_nil ?_
                        rintro w9 ⟨⟨_, hw9⟩, rfl⟩
                        go_wp2_with fail
                        go_roundw
                        case rel => exact ⟨j + 1, by omega, by go_num, hB8.trans (hw9.mono hB8.size), hst2⟩
                        case measure => simp [intOf]; omega
                · as_aux_lemma =>
                    obtain rfl : j = k := by omega
                    have hlt' : decide ((j : Int) < (j : Int)) = false := by simp
                    have hE : Hid (R = 0) := Lib.hid (by
                      rw [← hR'.out, chkH_zero]
                      exact ⟨canC.out, canL.out, List.all_eq_true.1 hG.out, hsub'.out, by rw [hst.out, List.drop_of_length_le (by omega)]; rfl⟩)
                    clear hst
                    go_wp2_with fail
                    go_ret
                    exact ⟨ret_int hE.out.symm, B4⟩
end Go.Proofs.Ytmpakobfedgdbaa
namespace Go.Pol
open Go Go.RowKit
def condG (C L : List Sp) (H : List Int) (least : Int) (g : Nat) : Bool := decide (16 ≤ grpF C (g : Int)) && !decide ((g : Int) ∈ H) && decide (least ≤ grpF L (g : Int))
def groupsN (C L : List Sp) (H : List Int) (least : Int) (k : Nat) : List Int := ((List.range k).filter (condG C L H least)).map fun (g : Nat) => (g : Int)
theorem groupsN_succ (C L : List Sp) (H : List Int) (least : Int) (k : Nat) : groupsN C L H least (k + 1) = groupsN C L H least k ++ if condG C L H least k = true then [(k : Int)] else [] := by
  unfold groupsN
  rw [List.range_succ, List.filter_append, List.map_append]
  congr 1
  cases h : condG C L H least k <;> simp [h]
theorem groupsN_len (C L : List Sp) (H : List Int) (least : Int) (k : Nat) : (groupsN C L H least k).length ≤ k := by
  unfold groupsN
  rw [List.length_map]
  have := List.length_filter_le (condG C L H least) (List.range k)
  rwa [List.length_range] at this
theorem groupsN_eq (C L : List Sp) (H : List Int) (least : Int) : groupsN C L H least 64 = groupsF C L H least := by
  unfold groupsN groupsF wholeF grps
  rw [List.filter_filter, List.filter_map]
  congr 1
  refine List.filter_congr fun g _ => ?_
  unfold condG
  have := grpF_bound C (g : Int)
  simp only [Function.comp]
  rw [show (grpF C (g : Int) == 16) = decide (16 ≤ grpF C (g : Int)) by rw [Bool.eq_iff_iff]; simp; omega]
  cases decide (16 ≤ grpF C (g : Int)) <;> cases decide ((g : Int) ∈ H) <;> cases decide (least ≤ grpF L (g : Int)) <;> rfl
end Go.Pol
namespace Go.Proofs.Ytmpakobfedgdbaa
open Go Go.Proofs Go.RowKit Go.Pol Go.Shelf
attribute [local go_sem] Oper.semAt_some Go.Pol.wide_fn Go.Pol.wide_depth Go.Pol.wide_fn' Go.Pol.wide_depth'

set_option maxRecDepth 100000 in
set_option maxHeartbeats 3200000 in
theorem rgroups13_any (S : Value) (C L : List Sp) (H : List Int) (least : Int) (w : World) (hS : StIs w S C L H) :
    Calls Try.prog 22 #[S, .int .i64 least] w (IntsE (groupsA C L H least) w) := by
  have HC := Lib.hid (fun W (h : StIs W S C L H) => rcheck13_any S C L H W h)
  have HLv := Lib.hid (fun g (hg : 0 ≤ g ∧ g < 64) (hL : Go.Pol.Can L) W (h : StIs W S C L H) => live13_any S C L H g W h hg hL)
  obtain ⟨i0, hi, hz0, hz1, hz2⟩ := info_parts infoIn
  have hS' := hS
  obtain ⟨A1, A2, A3, n1, c1, n2, c2, n3, c3, rfl, h1, h2, h3, h4, h5, h6, h7, h8, h9⟩ := hS.ex
  have hb0 := (Below.refl w.heap.size w).alloc (Nat.le_refl _) (.cells #[.slice A1 n1 c1, .slice A2 n2 c2, .slice A3 n3 c3] 25)
  have k0 := Blk.new w 25 #[.slice A1 n1 c1, .slice A2 n2 c2, .slice A3 n3 c3]
  have s0 := hS'.on hb0
  have HH := Lib.hid (fun (g : Int) W h => rHas_any A1 n1 c1 C (16 * g) 16 W h1 h2 h)
  have HI := Lib.hid (fun (g : Int) W h => in13_any g A3 n3 c3 H W h7 h8 h)
  have hA := Lib.hid (show groupsA C L H least = if chkH C L H ≠ 0 then ([], chkH C L H) else if least < 0 ∨ 16 < least then ([], 2) else (groupsF C L H least, 0) from rfl)
  have hcan := Lib.hid (fun h : chkH C L H = 0 => (⟨(chkH_zero.1 h).1, (chkH_zero.1 h).2.1⟩ : Go.Pol.Can C ∧ Go.Pol.Can L))
  generalize groupsA C L H least = R at *
  generalize chkH C L H = er at *
  have c0 := k0.cell
  clear hS hS' h1 h2 h4 h5 h7 h8 h3 h6 h9
  by_cases h0 : er = 0
  case neg =>
    have h0' : (er == 0) = false := by simpa using h0
    have h0'' : (er != 0) = true := by simpa using h0
    have hA' : Hid (R = ([], er)) := Lib.hid (by rw [hA.out, if_pos h0])
    clear hA h0
    go_enter Try.func22, Try.ntmps22
    go_wp2_with fail
    refine (HC.out _ s0).mono ?_
    rintro e w1 ⟨rfl, hb1⟩
    go_wp2_with fail
    go_ret2
    rw [hA'.out]
    exact IntsE.err (hb0.trans (hb1.mono hb0.size))
  case pos =>
    subst h0
    obtain ⟨canC, canL⟩ := hcan.out rfl
    have hA1 : Hid (R = if least < 0 ∨ 16 < least then ([], 2) else (groupsF C L H least, 0)) := Lib.hid (by rw [hA.out, if_neg (by simp)])
    clear hA hcan
    by_cases hl0 : least < 0
    · have hl0' : decide (least < 0) = true := by simpa using hl0
      have hA2 : Hid (R = ([], 2)) := Lib.hid (by rw [hA1.out, if_pos (.inl hl0)])
      clear hA1 hl0
      go_enter Try.func22, Try.ntmps22
      go_wp2_with fail
      refine (HC.out _ s0).mono ?_
      rintro e w1 ⟨rfl, hb1⟩
      go_wp2_with fail
      go_ret2
      rw [hA2.out]
      exact IntsE.err (hb0.trans (hb1.mono hb0.size))
    have hl0' : decide (least < 0) = false := by simpa using hl0
    by_cases hl1 : 16 < least
    · have hl1' : decide (16 < least) = true := by simpa using hl1
      have hA2 : Hid (R = ([], 2)) := Lib.hid (by rw [hA1.out, if_pos (.inr hl1)])
      clear hA1 hl0 hl1
      go_enter Try.func22, Try.ntmps22
      go_wp2_with fail
      refine (HC.out _ s0).mono ?_
      rintro e w1 ⟨rfl, hb1⟩
      go_wp2_with fail
      go_ret2
      rw [hA2.out]
      exact IntsE.err (hb0.trans (hb1.mono hb0.size))
    have hl1' : decide (16 < least) = false := by simpa using hl1
    have hA2 : Hid (R = (groupsN C L H least 64, 0)) := Lib.hid (by rw [hA1.out, if_neg (by omega), groupsN_eq])
    clear hA1 hl0 hl1
    go_enter Try.func22, Try.ntmps22
    go_wp2_with fail
    refine (HC.out _ s0).mono ?_
    rintro e w1 ⟨rfl, hb1⟩
    have k1 := k0.call hb1
    have s1 := s0.on hb1
    have B1 := hb0.trans (hb1.mono hb0.size)
    clear HC k0 s0 hb0 hb1 c0
    go_wp2_with fail
    have hG0 : groupsN C L H least 0 = [] := rfl
    go_loopw [7, 8] (fun v i wr => ∃ (k : Nat) (l : List Int), k ≤ 64 ∧ i = .int .i64 k ∧ Hid (groupsN C L H least k = l) ∧ l.length ≤ k ∧ wr.ownsRow w1.heap.size 3 1 v l.length (l.map (Value.int .i64)) ∧ Below w1.heap.size w1 wr) (fun _ i _ => 64 - (intOf i).toNat)
    case atStart => exact ⟨0, [], by omega, rfl, Lib.hid hG0, by simp, World.ownsRow_nil _ _ _ _, Below.refl _ _⟩
    case round =>
      clear hG0
      obtain ⟨k, l, hk, rfl, hfl, hlk, hrow, hB⟩ := hrel
      have k2 := k1.call hB
      have s2 := s1.on hB
      have B2 := B1.trans (hB.mono B1.size)
      by_cases hlt : k < 64
      · have hlt' : decide ((k : Int) < 64) = true := by rw [decide_eq_true_eq]; omega
        have hg : 0 ≤ (k : Int) ∧ (k : Int) < 64 := by omega
        have hsu := Lib.hid (groupsN_succ C L H least k)
        rw [hfl.out] at hsu
        obtain ⟨hb, hhb⟩ : ∃ hb, decide (16 ≤ grpF C (k : Int)) = hb := ⟨_, rfl⟩
        have G1 := Lib.hid (fun z : Ext wr => Ext.call (x := z) (span13_any (k : Int) z.w hg))
        have G2 := Lib.hid (fun (z : Ext wr) => Ext.call (x := z) (by
          have s3 := s2.on z.le
          obtain ⟨_, _, _, _, _, _, _, _, _, e, _, _, u, _⟩ := s3.ex
          cases e
          have := HH.out (k : Int) z.w u
          rw [askS_span canC hg] at this
          rw [show (decide ((0 : Int) = 0) && (cntF C (16 * (k : Int), 16) == 16)) = hb by
            rw [← hhb]
            have := grpF_bound C (k : Int)
            unfold grpF at *
            rw [Bool.eq_iff_iff]; simp; omega] at this
          exact this))
        have e1 := fun z : Ext wr => (z.blk k2).cell
        go_upto_region 10 with fail
        refine region_ext (by kernel_rfl) (by kernel_rfl) ?_
        repeat (go_big_quiet_step ((first | (go_at_call 34; exact G1.out _) | (go_at_call 33; exact G2.out _))))
        refine wpQuiet_nil ?_
        rintro w8 ⟨⟨_, hw8⟩, rfl⟩
        have k8 := k2.call hw8
        have s8 := s2.on hw8
        have c8 := k8.cell
        have hB8 := hB.trans (hw8.mono hB.size)
        have hrow8 := ownsRow_call hrow hw8
        clear e1 G1 G2
        have hcond : condG C L H least k = (hb && !decide ((k : Int) ∈ H) && decide (least ≤ grpF L (k : Int))) := by unfold condG; rw [hhb]
        have hcond' := Lib.hid hcond
        clear hcond hhb
        cases hb with
        | false =>
          have hsu2 : Hid (groupsN C L H least (k + 1) = l) := Lib.hid (by rw [hsu.out, hcond'.out]; simp)
          clear hsu
          go_wp2_with fail
          go_roundw
          case rel => exact ⟨k + 1, l, by omega, by go_num, hsu2, by omega, hrow8, hB8⟩
          case measure => simp [intOf]; omega
        | true =>
          have HI8 := Lib.hid (by
            obtain ⟨_, _, _, _, _, _, _, _, _, e, _, _, _, _, _, _, _, _, u⟩ := s8.ex
            cases e
            exact HI.out (k : Int) w8 u)
          have HL8 := Lib.hid (HLv.out (k : Int) hg canL w8 s8)
          by_cases hin : (k : Int) ∈ H
          · rw [decide_eq_true hin] at HI8 hcond'
            have hsu2 : Hid (groupsN C L H least (k + 1) = l) := Lib.hid (by rw [hsu.out, hcond'.out]; simp)
            clear hsu hin hcond'
            go_wp2_with fail
            refine HI8.out.mono ?_
            rintro e w9 ⟨rfl, hw9⟩
            have hw9' := hw9.symm
            clear hw9
            subst hw9'
            go_wp2_with fail
            go_roundw
            case rel => exact ⟨k + 1, l, by omega, by go_num, hsu2, by omega, hrow8, hB8⟩
            case measure => simp [intOf]; omega
          · rw [decide_eq_false hin] at HI8 hcond'
            clear hin
            generalize grpF L (k : Int) = lv at *
            by_cases hlv : least ≤ lv
            · have hlv' : decide (least ≤ lv) = true := by simpa using hlv
              have hsu2 : Hid (groupsN C L H least (k + 1) = l ++ [(k : Int)]) := Lib.hid (by rw [hsu.out, hcond'.out, hlv']; simp)
              clear hsu hcond' hlv
              go_wp2_with fail
              refine HI8.out.mono ?_
              rintro e w9 ⟨rfl, hw9⟩
              have hw9' := hw9.symm
              clear hw9
              subst hw9'
              go_wp2_with fail
              refine HL8.out.mono ?_
              rintro e w9 ⟨rfl, hb9⟩
              have hrow9 := ownsRow_call hrow8 hb9
              have hB9 := hB8.trans (hb9.mono hB8.size)
              obtain ⟨ll, hll⟩ : ∃ ll, l.length = ll := ⟨_, rfl⟩
              rw [hll] at hrow9 hlk
              have kN := Blk.new w9 3 #[.int .i64 (k : Int)]
              have hbN : Below w9.heap.size w9 (w9.alloc (.cells #[.int .i64 (k : Int)] 3)) := (Below.refl _ _).alloc (Nat.le_refl _) _
              clear hrow8 hrow c8
              go_wp2_with (refine wpList_append_own _ rfl (.tmp 53) (.tmp 55) 23 rfl w1.heap.size 3 i0 (.int .i64 0) 1 8 Try.underlying23 hi hz0 hz1 hz2 rfl (by decide) _ ll (l.map (Value.int .i64)) rfl (hrow9.alloc _) ⟨w9.heap.size, 0, none⟩ 1 1 [.int .i64 (k : Int)] rfl rfl (news_i kN) ints_one (by unfold maxLen; omega) (by omega) (by have := hB9.size; simp; omega) ?_; intro v' w7 hown' hgrow _; rw [show l.map (Value.int .i64) ++ [Value.int .i64 (k : Int)] = (l ++ [(k : Int)]).map (Value.int .i64) by simp] at hown')
              go_roundw
              case rel => exact ⟨k + 1, l ++ [(k : Int)], by omega, by go_num, hsu2, by rw [List.length_append, List.length_singleton, hll]; omega, by rw [List.length_append, List.length_singleton, hll]; exact hown', (hB9.trans (hbN.mono hB9.size)).grown hgrow (by have := hB9.size; simp; omega) (fun g hg => by have := (hrow9.lt g hg).1; omega)⟩
              case measure => simp [intOf]; omega
            · have hlv' : decide (least ≤ lv) = false := by simpa using hlv
              have hsu2 : Hid (groupsN C L H least (k + 1) = l) := Lib.hid (by rw [hsu.out, hcond'.out, hlv']; simp)
              clear hsu hcond' hlv
              go_wp2_with fail
              refine HI8.out.mono ?_
              rintro e w9 ⟨rfl, hw9⟩
              have hw9' := hw9.symm
              clear hw9
              subst hw9'
              go_wp2_with fail
              refine HL8.out.mono ?_
              rintro e w9 ⟨rfl, hb9⟩
              have hrow9 := ownsRow_call hrow8 hb9
              have hB9 := hB8.trans (hb9.mono hB8.size)
              go_wp2_with fail
              go_roundw
              case rel => exact ⟨k + 1, l, by omega, by go_num, hsu2, by omega, hrow9, hB9⟩
              case measure => simp [intOf]; omega
      · obtain rfl : k = 64 := by omega
        have hlt' : decide (((64 : Nat) : Int) < 64) = false := by decide
        rw [hfl.out] at hA2
        obtain ⟨A', cap', rfl, hru⟩ := own_RIx hrow rfl
        go_wp2_with fail
        go_ret2
        rw [hA2.out]
        exact ⟨A', cap', rfl, hru, B2⟩
end Go.Proofs.Ytmpakobfedgdbaa
namespace Go.Pol
open Go Go.RowKit
theorem huge_len {C L : List Sp} {H : List Int} (h : chkH C L H = 0) : H.length ≤ 64 := by
  obtain ⟨_, _, h3, _, h5⟩ := chkH_zero.1 h
  have := huge_grps h3 h5
  rw [← this]
  refine Nat.le_trans (List.length_filter_le _ _) ?_
  simp [grps]
theorem groupsF_zero (C L : List Sp) (H : List Int) : groupsF C L H 0 = wholeF C H := by
  unfold groupsF
  rw [List.filter_eq_self]
  intro g _
  have := grpF_bound L g
  rw [decide_eq_true_eq]; omega
theorem idleF_snoc (L : List Sp) (l : List Int) (g : Int) : idleF L (l ++ [g]) = idleF L l + (16 - grpF L g) := by simp [idleF]
theorem idleF_bound (L : List Sp) : ∀ (l : List Int), 0 ≤ idleF L l ∧ idleF L l ≤ 16 * l.length
  | [] => by simp [idleF]
  | x :: r => by
    have h1 := grpF_bound L x
    have h2 := idleF_bound L r
    simp only [idleF, List.map_cons, List.sum_cons, List.length_cons] at h2 ⊢
    omega
/-- the huge groups that have a page of a set -/
def touchF (ps : List Sp) (H : List Int) : List Int := H.filter fun g => decide (0 < grpF ps g)
theorem touchF_snoc (ps : List Sp) (l : List Int) (g : Int) : touchF ps (l ++ [g]) = touchF ps l ++ if decide (0 < grpF ps g) = true then [g] else [] := by
  unfold touchF
  rw [List.filter_append]
  congr 1
  cases h : decide (0 < grpF ps g) <;> simp [h]
theorem touchF_len (ps : List Sp) (l : List Int) : (touchF ps l).length ≤ l.length := List.length_filter_le _ _
/-- what the reference's Split answers -/
def splitB (C L : List Sp) (H : List Int) (ps : List Sp) : List Int × Int :=
  if chkH C L H ≠ 0 then ([], chkH C L H) else if chkS ps ≠ 0 then ([], chkS ps) else if subF ps C = false then ([], 4) else (touchF ps H, 0)
end Go.Pol
namespace Go.Proofs.Ytmpakobfedgdbaa
open Go Go.Proofs Go.RowKit Go.Pol Go.Shelf
attribute [local go_sem] Oper.semAt_some Go.Pol.wide_fn Go.Pol.wide_depth Go.Pol.wide_fn' Go.Pol.wide_depth'

theorem StIs.parts {w : World} {A1 A2 A3 : Option Addr} {n1 c1 n2 c2 n3 c3 : Nat} {C L : List Sp} {H : List Int} (h : StIs w (.agg #[.slice A1 n1 c1, .slice A2 n2 c2, .slice A3 n3 c3]) C L H) : RU w w.heap.size A1 C ∧ RU w w.heap.size A2 L ∧ RI w w.heap.size A3 H := by
  obtain ⟨_, _, _, _, _, _, _, _, _, e, _, _, u, _, _, v, _, _, z⟩ := h.ex
  cases e
  exact ⟨u, v, z⟩
set_option maxRecDepth 100000 in
set_option maxHeartbeats 3200000 in
theorem rscore13_any (S : Value) (C L : List Sp) (H : List Int) (w : World) (hS : StIs w S C L H) :
    Calls Try.prog 24 #[S] w fun e w' => e = .returned (.tuple #[.int .i64 (scoreA C L H).1, .int .i64 (scoreA C L H).2.1, .int .i64 (scoreA C L H).2.2.1, .int .i64 (scoreA C L H).2.2.2]) ∧ Below w.heap.size w w' := by
  have HG := Lib.hid (fun W (h : StIs W S C L H) => rgroups13_any S C L H 0 W h)
  have HLv := Lib.hid (fun g (hg : 0 ≤ g ∧ g < 64) (hL : Go.Pol.Can L) W (h : StIs W S C L H) => live13_any S C L H g W h hg hL)
  have hS' := hS
  obtain ⟨A1, A2, A3, n1, c1, n2, c2, n3, c3, rfl, h1, h2, h3, h4, h5, h6, h7, h8, h9⟩ := hS.ex
  have hb0 := (Below.refl w.heap.size w).alloc (Nat.le_refl _) (.cells #[.slice A1 n1 c1, .slice A2 n2 c2, .slice A3 n3 c3] 25)
  have k0 := Blk.new w 25 #[.slice A1 n1 c1, .slice A2 n2 c2, .slice A3 n3 c3]
  have s0 := hS'.on hb0
  have hA := Lib.hid (show scoreA C L H = if chkH C L H ≠ 0 then (0, 0, 0, chkH C L H) else ((H.length : Int), ((wholeF C H).length : Int), idleF L H, 0) from rfl)
  have hGA := Lib.hid (show groupsA C L H 0 = if chkH C L H ≠ 0 then ([], chkH C L H) else (wholeF C H, 0) by
    unfold groupsA; rw [groupsF_zero, if_neg (show ¬ ((0 : Int) < 0 ∨ (16 : Int) < 0) by omega)])
  have hcan := Lib.hid (fun h : chkH C L H = 0 => (⟨(chkH_zero.1 h).2.1, (chkH_zero.1 h).2.2.1, huge_len h⟩ : Go.Pol.Can L ∧ (∀ g ∈ H, inG g = true) ∧ H.length ≤ 64))
  generalize scoreA C L H = R at *
  generalize groupsA C L H 0 = Q at *
  generalize chkH C L H = er at *
  have c0 := k0.cell
  have hn3 := h7
  clear hS hS' h1 h2 h4 h5 h7 h8 h3 h6 h9
  by_cases h0 : er = 0
  case neg =>
    have h0'' : (er != 0) = true := by simpa using h0
    have hA' : Hid (R = (0, 0, 0, er)) := Lib.hid (by rw [hA.out, if_pos h0])
    have hQ : Q = ([], er) := by rw [hGA.out, if_pos h0]
    subst hQ
    unfold IntsE at HG
    clear hA hGA h0
    go_enter Try.func24, Try.ntmps24
    go_wp2_with fail
    refine (HG.out _ s0).mono ?_
    rintro e w1 ⟨A9, c9, rfl, u9, hb1⟩
    go_wp2_with fail
    exact bodyPost_ret (v := .tuple #[.int .i64 0, .int .i64 0, .int .i64 0, .int .i64 er]) (by simp [results, Try.results24, go_sem]) rfl ⟨by rw [hA'.out], hb0.trans (hb1.mono hb0.size)⟩
  case pos =>
    subst h0
    obtain ⟨canL, hin, hH64⟩ := hcan.out rfl
    have hQ : Q = (wholeF C H, 0) := by rw [hGA.out, if_neg (by simp)]
    subst hQ
    have hA1 : Hid (R = ((H.length : Int), ((wholeF C H).length : Int), idleF L H, 0)) := Lib.hid (by rw [hA.out, if_neg (by simp)])
    have hin' := Lib.hid hin
    generalize wholeF C H = WF at *
    unfold IntsE at HG
    obtain ⟨wl, hwl⟩ : ∃ wl, WF.length = wl := ⟨_, rfl⟩
    simp only [hwl] at HG
    rw [hwl, hn3] at hA1
    clear hA hGA hcan hin hwl
    rw [hn3] at hH64
    go_enter Try.func24, Try.ntmps24
    go_wp2_with fail
    refine (HG.out _ s0).mono ?_
    rintro e w1 ⟨A9, c9, rfl, u9, hb1⟩
    have k1 := k0.call hb1
    have s1 := s0.on hb1
    have B1 := hb0.trans (hb1.mono hb0.size)
    clear HG k0 s0 hb0 hb1 c0 u9
    go_wp2_with fail
    go_loopw [8, 9] (fun v i wr => ∃ k : Nat, k ≤ n3 ∧ i = .int .i64 k ∧ v = .int .i64 (idleF L (H.take k)) ∧ Below w1.heap.size w1 wr) (fun _ i _ => n3 - (intOf i).toNat)
    case atStart => exact ⟨0, by omega, rfl, by simp [idleF], Below.refl _ _⟩
    case round =>
      obtain ⟨k, hk, rfl, hvv, hB⟩ := hrel
      have k2 := k1.call hB
      have s2 := s1.on hB
      have B2 := B1.trans (hB.mono B1.size)
      have c2 := k2.cell
      have hbnd := idleF_bound L (H.take k)
      rw [List.length_take] at hbnd
      by_cases hlt : k < n3
      · have hlt' : decide ((k : Int) < (n3 : Int)) = true := by simpa using hlt
        have hts := take_snocI H k (by omega)
        have hsn := idleF_snoc L (H.take k) (H.getD k 0)
        rw [← hts] at hsn
        have hg := inG_iff.1 (hin'.out _ (getD_memI (bs := H) (k := k) (by omega)))
        obtain ⟨b, o, hA3, _, c5⟩ := s2.parts.2.2.at_ (k := k) (by omega)
        generalize H.getD k 0 = x at *
        generalize idleF L (H.take k) = id0 at *
        have hsn' := Lib.hid hsn
        have G1 := Lib.hid (fun z : Ext wr => Ext.call (x := z) (HLv.out x hg canL z.w (s2.on z.le)))
        have hlb := grpF_bound L x
        generalize grpF L x = lx at *
        have e1 := fun z : Ext wr => (z.blk k2).cell
        have e2 := fun z : Ext wr => z.cell c5
        subst hA3
        subst hvv
        clear hsn hts
        go_upto_region 8 with fail
        refine region_ext (by kernel_rfl) (by kernel_rfl) ?_
        repeat (go_big_quiet_step ((go_at_call 47; exact G1.out _)))
        refine wpQuiet_nil ?_
        rintro w8 ⟨⟨_, hw8⟩, rfl⟩
        go_wp2_with fail
        go_roundw
        case rel => exact ⟨k + 1, by omega, by go_num, by rw [hsn'.out]; congr 1; omega, hB.trans (hw8.mono hB.size)⟩
        case measure => simp [intOf]; omega
      · obtain rfl : k = n3 := by omega
        have hlt' : decide ((k : Int) < (k : Int)) = false := by simp
        rw [List.take_of_length_le (by omega)] at hvv
        subst hvv
        go_wp2_with fail
        exact bodyPost_ret (v := .tuple #[.int .i64 k, .int .i64 wl, .int .i64 (idleF L H), .int .i64 0]) (by simp [results, Try.results24, go_sem]) rfl ⟨by rw [hA1.out], B2⟩
end Go.Proofs.Ytmpakobfedgdbaa
namespace Go.Proofs.Ytmpakobfedgdbaa
open Go Go.Proofs Go.RowKit Go.Pol Go.Shelf
attribute [local go_sem] Oper.semAt_some Go.Pol.wide_fn Go.Pol.wide_depth Go.Pol.wide_fn' Go.Pol.wide_depth'

def IntsO (l : List Int) (w : World) (e : Ending) (w' : World) : Prop := ∃ (A : Option Addr) (cap : Nat), e = .returned (.slice A l.length cap) ∧ RI w' w'.heap.size A l ∧ Below w.heap.size w w'
set_option maxRecDepth 100000 in
set_option maxHeartbeats 3200000 in
theorem touched13_any (S : Value) (C L : List Sp) (H : List Int) (A : Option Addr) (n cap : Nat) (ps : List Sp) (w : World) (hS : StIs w S C L H) (hin : ∀ g ∈ H, inG g = true) (h64 : H.length ≤ 64) (hn : ps.length = n) (hm : n ≤ maxLen) (hr : RU w w.heap.size A ps) (hc : Go.Pol.Can ps) :
    Calls Try.prog 32 #[S, .slice A n cap] w (IntsO (touchF ps H) w) := by
  have HM := Lib.hid (fun (g : Int) W h => rMeets_any A n cap ps (16 * g) 16 W hn hm h)
  obtain ⟨i0, hi, hz0, hz1, hz2⟩ := info_parts infoIn
  have hS' := hS
  obtain ⟨A1, A2, A3, n1, c1, n2, c2, n3, c3, rfl, h1, h2, h3, h4, h5, h6, h7, h8, h9⟩ := hS.ex
  have hb0 := (Below.refl w.heap.size w).alloc (Nat.le_refl _) (.cells #[.slice A1 n1 c1, .slice A2 n2 c2, .slice A3 n3 c3] 25)
  have k0 := Blk.new w 25 #[.slice A1 n1 c1, .slice A2 n2 c2, .slice A3 n3 c3]
  have s0 := hS'.on hb0
  have r0 := hr.on hb0
  have hn3 := h7
  obtain ⟨R, hR⟩ : ∃ R, touchF ps H = R := ⟨_, rfl⟩
  rw [hR]
  have hR' := Lib.hid hR
  have hin' := Lib.hid hin
  rw [hn3] at h64
  clear hS hS' h1 h2 h4 h5 h7 h8 h3 h6 h9 hR hin hr hn
  go_enter Try.func32, Try.ntmps32
  go_upto_region 1 with fail
  generalize w.alloc (.cells #[.slice A1 n1 c1, .slice A2 n2 c2, .slice A3 n3 c3] 25) = w1 at *
  go_wp2_with fail
  have ht0 : touchF ps (H.take 0) = [] := rfl
  go_loopw [5, 6] (fun v i wr => ∃ (k : Nat) (l : List Int), k ≤ n3 ∧ i = .int .i64 k ∧ Hid (touchF ps (H.take k) = l) ∧ l.length ≤ k ∧ wr.ownsRow w1.heap.size 3 1 v l.length (l.map (Value.int .i64)) ∧ Below w1.heap.size w1 wr) (fun _ i _ => n3 - (intOf i).toNat)
  case atStart => exact ⟨0, [], by omega, rfl, Lib.hid ht0, by simp, World.ownsRow_nil _ _ _ _, Below.refl _ _⟩
  case round =>
    clear ht0
    obtain ⟨k, l, hk, rfl, hfl, hlk, hrow, hB⟩ := hrel
    have k2 := k0.call hB
    have s2 := s0.on hB
    have r2 := r0.on hB
    have B2 := hb0.trans (hB.mono hb0.size)
    have c2 := k2.cell
    by_cases hlt : k < n3
    · have hlt' : decide ((k : Int) < (n3 : Int)) = true := by simpa using hlt
      have hts := take_snocI H k (by omega)
      have hsn := touchF_snoc ps (H.take k) (H.getD k 0)
      rw [← hts, hfl.out] at hsn
      have hg := inG_iff.1 (hin'.out _ (getD_memI (bs := H) (k := k) (by omega)))
      obtain ⟨b, o, rfl, _, c5⟩ := s2.parts.2.2.at_ (k := k) (by omega)
      generalize H.getD k 0 = x at *
      have hsn' := Lib.hid hsn
      have HSp := Lib.hid (span13_any x wr hg)
      have HM2 := fun W h => HM.out x W h
      rw [askS_span hc hg] at HM2
      obtain ⟨tb, htb⟩ : ∃ tb, decide (0 < grpF ps x) = tb := ⟨_, rfl⟩
      rw [show (decide ((0 : Int) = 0) && decide (0 < cntF ps (16 * x, 16))) = tb by rw [← htb, Bool.eq_iff_iff, Bool.and_eq_true, decide_eq_true_iff, decide_eq_true_iff, decide_eq_true_iff]; exact ⟨fun h => h.2, fun h => ⟨rfl, h⟩⟩] at HM2
      rw [htb] at hsn'
      have HM3 := Lib.hid HM2
      clear hsn hts htb HM2
      go_wp2_with fail
      refine HSp.out.mono ?_
      rintro e w3 ⟨rfl, hb3⟩
      have r3 := r2.on hb3
      have k3 := k2.call hb3
      have hB3 := hB.trans (hb3.mono hB.size)
      have hrow3 := ownsRow_call hrow hb3
      have d5 := (hb3.cell (World.block_lt_of_cell? _ _ c5)).trans c5
      go_wp2_with fail
      refine (HM3.out _ r3).mono ?_
      rintro e w4 ⟨rfl, hb4⟩
      have k4 := k3.call hb4
      have c4 := k4.cell
      have hB4 := hB3.trans (hb4.mono hB3.size)
      have hrow4 := ownsRow_call hrow3 hb4
      have d6 := (hb4.cell (World.block_lt_of_cell? _ _ d5)).trans d5
      clear hrow hrow3 c2 c5 d5 r2 r3
      cases tb with
      | false =>
        have hsu2 : Hid (touchF ps (H.take (k + 1)) = l) := Lib.hid (by rw [hsn'.out]; simp)
        clear hsn'
        go_wp2_with fail
        go_roundw
        case rel => exact ⟨k + 1, l, by omega, by go_num, hsu2, by omega, hrow4, hB4⟩
        case measure => simp [intOf]; omega
      | true =>
        have hsu2 : Hid (touchF ps (H.take (k + 1)) = l ++ [x]) := Lib.hid (by rw [hsn'.out]; simp)
        clear hsn'
        obtain ⟨ll, hll⟩ : ∃ ll, l.length = ll := ⟨_, rfl⟩
        rw [hll] at hrow4 hlk
        have kN := Blk.new w4 3 #[.int .i64 x]
        have hbN : Below w4.heap.size w4 (w4.alloc (.cells #[.int .i64 x] 3)) := (Below.refl _ _).alloc (Nat.le_refl _) _
        go_wp2_with (refine wpList_append_own _ rfl (.tmp 28) (.tmp 34) 23 rfl w1.heap.size 3 i0 (.int .i64 0) 1 8 Try.underlying23 hi hz0 hz1 hz2 rfl (by decide) _ ll (l.map (Value.int .i64)) rfl (hrow4.alloc _) ⟨w4.heap.size, 0, none⟩ 1 1 [.int .i64 x] rfl rfl (news_i kN) ints_one (by unfold maxLen; omega) (by omega) (by have := hB4.size; simp; omega) ?_; intro v' w7 hown' hgrow _; rw [show l.map (Value.int .i64) ++ [Value.int .i64 x] = (l ++ [x]).map (Value.int .i64) by simp] at hown')
        go_roundw
        case rel => exact ⟨k + 1, l ++ [x], by omega, by go_num, hsu2, by rw [List.length_append, List.length_singleton, hll]; omega, by rw [List.length_append, List.length_singleton, hll]; exact hown', (hB4.trans (hbN.mono hB4.size)).grown hgrow (by have := hB4.size; simp; omega) (fun g hg => by have := (hrow4.lt g hg).1; omega)⟩
        case measure => simp [intOf]; omega
    · obtain rfl : k = n3 := by omega
      have hlt' : decide ((k : Int) < (k : Int)) = false := by simp
      have hR2 : R = l := by rw [← hR'.out, ← hfl.out, List.take_of_length_le (by omega)]
      obtain ⟨A', cap', rfl, hru⟩ := own_RIx hrow rfl
      subst hR2
      go_wp2_with fail
      go_ret
      exact ⟨A', cap', rfl, hru, B2⟩
set_option maxRecDepth 100000 in
set_option maxHeartbeats 3200000 in
theorem rsplit13_any (S : Value) (C L : List Sp) (H : List Int) (A : Option Addr) (n cap : Nat) (ps : List Sp) (w : World) (hS : StIs w S C L H) (hn : ps.length = n) (hm : n ≤ maxLen) (hr : RU w w.heap.size A ps) :
    Calls Try.prog 10 #[S, .slice A n cap] w (IntsE (splitB C L H ps) w) := by
  have HCk := Lib.hid (fun W (h : StIs W S C L H) => rcheck13_any S C L H W h)
  have HP := Lib.hid (fun W h => refSpCheck_any A n cap ps W hn hm h)
  have HT := Lib.hid (fun W (h : StIs W S C L H) hin h64 hr hc => touched13_any S C L H A n cap ps W h hin h64 hn hm hr hc)
  have hS' := hS
  obtain ⟨A1, A2, A3, n1, c1, n2, c2, n3, c3, rfl, h1, h2, h3, h4, h5, h6, h7, h8, h9⟩ := hS.ex
  have HM := Lib.hid (fun W (hr1 : RU W W.heap.size A ps) (hr2 : RU W W.heap.size A1 C) => rMinus_any A A1 n cap n1 c1 ps C W hn hm hr1 h1 h2 hr2)
  have hb0 := (Below.refl w.heap.size w).alloc (Nat.le_refl _) (.cells #[.slice A1 n1 c1, .slice A2 n2 c2, .slice A3 n3 c3] 25)
  have k0 := Blk.new w 25 #[.slice A1 n1 c1, .slice A2 n2 c2, .slice A3 n3 c3]
  have s0 := hS'.on hb0
  have r0 := hr.on hb0
  have hA := Lib.hid (show splitB C L H ps = if chkH C L H ≠ 0 then ([], chkH C L H) else if chkS ps ≠ 0 then ([], chkS ps) else if subF ps C = false then ([], 4) else (touchF ps H, 0) from rfl)
  have hcan := Lib.hid (fun h : chkH C L H = 0 => (⟨(chkH_zero.1 h).1, (chkH_zero.1 h).2.2.1, huge_len h⟩ : Go.Pol.Can C ∧ (∀ g ∈ H, inG g = true) ∧ H.length ≤ 64))
  generalize splitB C L H ps = R at *
  generalize chkH C L H = er at *
  have c0 := k0.cell
  clear hS hS' h1 h2 h4 h5 h7 h8 h3 h6 h9 hn hr
  by_cases h0 : er = 0
  case neg =>
    have h0' : (er == 0) = false := by simpa using h0
    have h0'' : (er != 0) = true := by simpa using h0
    have hA' : Hid (R = ([], er)) := Lib.hid (by rw [hA.out, if_pos h0])
    clear hA h0
    go_enter Try.func10, Try.ntmps10
    go_wp2_with fail
    refine (HCk.out _ s0).mono ?_
    rintro e w1 ⟨rfl, hb1⟩
    go_wp2_with fail
    go_ret2
    rw [hA'.out]
    exact IntsE.err (hb0.trans (hb1.mono hb0.size))
  case pos =>
    subst h0
    obtain ⟨canC, hin, h64⟩ := hcan.out rfl
    have hA1 : Hid (R = if chkS ps ≠ 0 then ([], chkS ps) else if subF ps C = false then ([], 4) else (touchF ps H, 0)) := Lib.hid (by rw [hA.out, if_neg (by simp)])
    clear hA hcan
    by_cases hc : chkS ps = 0
    case neg =>
      have hc2 : (chkS ps != 0) = true := by simpa using hc
      have hA' : Hid (R = ([], chkS ps)) := Lib.hid (by rw [hA1.out, if_pos hc])
      generalize chkS ps = ec at *
      clear hA1 hc
      go_enter Try.func10, Try.ntmps10
      go_wp2_with fail
      refine (HCk.out _ s0).mono ?_
      rintro e w1 ⟨rfl, hb1⟩
      have B1 := hb0.trans (hb1.mono hb0.size)
      have r1 := r0.on hb1
      go_wp2_with fail
      refine (HP.out _ r1).mono ?_
      rintro e w2 ⟨rfl, hb2⟩
      go_wp2_with fail
      go_ret2
      rw [hA'.out]
      exact IntsE.err (B1.trans (hb2.mono B1.size))
    case pos =>
      rw [hc] at HP
      have hcan := chkS_zero.1 hc
      have hA2 : Hid (R = if subF ps C = false then ([], 4) else (touchF ps H, 0)) := Lib.hid (by rw [hA1.out, if_neg (by simp [hc])])
      obtain ⟨e1, e2⟩ := minus_nil hcan canC
      rw [e1] at HM
      clear hA1 hc e1
      by_cases hsub : subF ps C = true
      case neg =>
        have hA' : Hid (R = ([], 4)) := Lib.hid (by rw [hA2.out, if_pos (by simpa using hsub)])
        have hpos : 0 < (combF 3 ps C).length := List.length_pos_iff.2 (fun h => hsub (e2.1 h))
        generalize combF 3 ps C = M at *
        obtain ⟨ml, hml⟩ : ∃ ml, M.length = ml := ⟨_, rfl⟩
        unfold SpansR at HM
        rw [hml] at HM hpos
        have hp' : decide (0 < (ml : Int)) = true := by rw [decide_eq_true_eq]; omega
        have hp2 : decide (0 < ml) = true := by rw [decide_eq_true_eq]; omega
        clear e2 hsub hA2
        go_enter Try.func10, Try.ntmps10
        go_wp2_with fail
        refine (HCk.out _ s0).mono ?_
        rintro e w1 ⟨rfl, hb1⟩
        have B1 := hb0.trans (hb1.mono hb0.size)
        have r1 := r0.on hb1
        have k1 := k0.call hb1
        have s1 := s0.on hb1
        go_wp2_with fail
        refine (HP.out _ r1).mono ?_
        rintro e w2 ⟨rfl, hb2⟩
        have B2 := B1.trans (hb2.mono B1.size)
        have r2 := r1.on hb2
        have k2 := k1.call hb2
        have s2 := s1.on hb2
        have c2 := k2.cell
        clear k1 s1 r1 c0 k0 s0 r0
        go_wp2_with fail
        refine (HM.out _ r2 s2.parts.1).mono ?_
        rintro e w3 ⟨A9, c9, rfl, u9, _, _, _, hb3⟩
        go_wp2_with fail
        go_ret2
        rw [hA'.out]
        exact IntsE.err (B2.trans (hb3.mono B2.size))
      case pos =>
        have hM : combF 3 ps C = [] := e2.2 hsub
        rw [hM] at HM
        unfold SpansR at HM
        have hA' : Hid (R = (touchF ps H, 0)) := Lib.hid (by rw [hA2.out, if_neg (by rw [hsub]; decide)])
        have HT2 := Lib.hid (fun W h hr => HT.out W h hin h64 hr hcan)
        unfold IntsO at HT2
        generalize touchF ps H = TF at *
        clear e2 hsub hM hA2 HT hin h64
        go_enter Try.func10, Try.ntmps10
        go_wp2_with fail
        refine (HCk.out _ s0).mono ?_
        rintro e w1 ⟨rfl, hb1⟩
        have B1 := hb0.trans (hb1.mono hb0.size)
        have r1 := r0.on hb1
        have k1 := k0.call hb1
        have s1 := s0.on hb1
        go_wp2_with fail
        refine (HP.out _ r1).mono ?_
        rintro e w2 ⟨rfl, hb2⟩
        have B2 := B1.trans (hb2.mono B1.size)
        have r2 := r1.on hb2
        have k2 := k1.call hb2
        have s2 := s1.on hb2
        have c2 := k2.cell
        clear k1 s1 r1 c0 k0 s0 r0
        go_wp2_with fail
        refine (HM.out _ r2 s2.parts.1).mono ?_
        rintro e w3 ⟨A9, c9, rfl, u9, _, _, _, hb3⟩
        have B3 := B2.trans (hb3.mono B2.size)
        have r3 := r2.on hb3
        have k3 := k2.call hb3
        have s3 := s2.on hb3
        have c3 := k3.cell
        clear c2 k2 s2 r2
        go_wp2_with fail
        refine (HT2.out _ s3 r3).mono ?_
        rintro e w4 ⟨A8, c8, rfl, u8, hb4⟩
        go_wp2_with fail
        go_ret2
        rw [hA'.out]
        exact ⟨A8, c8, rfl, u8, B3.trans (hb4.mono B3.size)⟩
end Go.Proofs.Ytmpakobfedgdbaa
namespace Go.Pol
open Go Go.RowKit
def exC13 : List Sp := [(0, 48)]
def exL13 : List Sp := [(0, 10), (16, 14)]
def exH13 : List Int := [0, 1]
end Go.Pol
namespace Go.Proofs.Ytmpakobfedgdbaa
open Go Go.Proofs Go.RowKit Go.Pol Go.Shelf
attribute [local go_sem] Oper.semAt_some Go.Pol.wide_fn Go.Pol.wide_depth Go.Pol.wide_fn' Go.Pol.wide_depth'

theorem ints13_any (A B : Option Addr) (n cap cap' : Nat) (xs : List Int) (w : World) (hn : xs.length = n) (hm : n ≤ 1000000) (hr : RI w w.heap.size A xs) (hs : RI w w.heap.size B xs) :
    Calls Try.prog 11 #[.slice A n cap, .slice B n cap'] w fun e w' => e = .returned (.bool true) ∧ Below w.heap.size w w' := by
  have hn' := Lib.hid hn
  clear hn
  have hne : ((n : Int) != n) = false := by simp
  go_enter Try.func11, Try.ntmps11
  go_wp2_with fail
  go_loopw [5] (fun i wr => ∃ k : Nat, k ≤ n ∧ i = .int .i64 k ∧ Below w.heap.size w wr) (fun i _ => n - (intOf i).toNat)
  case atStart => exact ⟨0, by omega, rfl, Below.refl _ _⟩
  case round =>
    obtain ⟨k, hk, rfl, hB⟩ := hrel
    by_cases hlt : k < n
    · have hlt' : decide ((k : Int) < (n : Int)) = true := by simp; omega
      obtain ⟨b, o, rfl, hbl, hc⟩ := (hr.below hB).at_ (k := k) (by have := hn'.out; omega)
      obtain ⟨b2, o2, rfl, hbl2, hc2⟩ := (hs.below hB).at_ (k := k) (by have := hn'.out; omega)
      generalize xs.getD k 0 = x at *
      have q1 := fun z : Ext wr => z.cell hc
      have q2 := fun z : Ext wr => z.cell hc2
      have hxx : (x != x) = false := by simp
      go_upto_region 6 with fail
      refine region_ext (by kernel_rfl) (by kernel_rfl) ?_
      repeat (go_big_quiet_step (fail))
      refine wpQuiet_nil ?_
      rintro w1 ⟨⟨_, hw1⟩, rfl⟩
      go_wp2_with fail
      go_roundw
      case rel => exact ⟨k + 1, by omega, by go_num, hB.trans (hw1.mono hB.size)⟩
      case measure => simp [intOf]; omega
    · have hlt' : decide ((k : Int) < (n : Int)) = false := by simp; omega
      go_wp2_with fail
      go_ret
      exact ⟨rfl, hB⟩
/-- is a state more than is looked at? -/
def farP (n1 n2 n3 : Nat) (most : Int) : Bool := decide (520 < n1) || decide (520 < n2) || (decide (most < (n3 : Int)) && decide (n3 ≤ 64)) || decide (70 < n3)
set_option maxHeartbeats 1600000 in
theorem far13_any (A1 A2 A3 : Option Addr) (n1 c1 n2 c2 n3 c3 : Nat) (most : Int) (w : World) :
    Calls Try.prog 7 #[.agg #[.slice A1 n1 c1, .slice A2 n2 c2, .slice A3 n3 c3], .int .i64 most] w fun e w' => e = .returned (.bool (farP n1 n2 n3 most)) ∧ Below w.heap.size w w' := by
  have hb0 := (Below.refl w.heap.size w).alloc (Nat.le_refl _) (.cells #[.slice A1 n1 c1, .slice A2 n2 c2, .slice A3 n3 c3] 25)
  have k0 := Blk.new w 25 #[.slice A1 n1 c1, .slice A2 n2 c2, .slice A3 n3 c3]
  have c0 := k0.cell
  have e1 : decide (520 < (n1 : Int)) = decide (520 < n1) := by rw [Bool.eq_iff_iff]; simp; omega
  have e2 : decide (520 < (n2 : Int)) = decide (520 < n2) := by rw [Bool.eq_iff_iff]; simp; omega
  have e3 : decide ((n3 : Int) ≤ 64) = decide (n3 ≤ 64) := by rw [Bool.eq_iff_iff]; simp; omega
  have e4 : decide (70 < (n3 : Int)) = decide (70 < n3) := by rw [Bool.eq_iff_iff]; simp; omega
  have hF := Lib.hid (show farP n1 n2 n3 most = (decide (520 < n1) || decide (520 < n2) || (decide (most < (n3 : Int)) && decide (n3 ≤ 64)) || decide (70 < n3)) from rfl)
  generalize farP n1 n2 n3 most = R at *
  rw [← e1, ← e2, ← e3, ← e4] at hF
  clear e1 e2 e3 e4
  cases b1 : decide (520 < (n1 : Int)) <;> cases b2 : decide (520 < (n2 : Int)) <;> cases b3 : decide (most < (n3 : Int)) <;> cases b4 : decide ((n3 : Int) ≤ 64) <;> cases b5 : decide (70 < (n3 : Int)) <;> (
    rw [b1, b2, b3, b4, b5] at hF
    go_enter Try.func7, Try.ntmps7
    go_wp2_with fail
    go_ret
    exact ⟨ret_bool (by rw [hF.out]; rfl), hb0⟩)
theorem ru_blk {w : World} {g : Nat} {t : TypeId} (us : List Sp) {cs : Array Value} (h : Blk w g t cs) (hc : cs.toList = spCells us) : RU w w.heap.size (some ⟨g, 0, none⟩) us := fun k hk => by
  have := spCells_at us k hk
  refine ⟨g, 0, rfl, h.lt, ?_, ?_⟩
  · rw [h.cell, Nat.zero_add, ← Array.getElem?_toList, hc]; exact this.1
  · rw [h.cell, Nat.zero_add, ← Array.getElem?_toList, hc]; exact this.2
theorem ri_blk {w : World} {g : Nat} {t : TypeId} (us : List Int) {cs : Array Value} (h : Blk w g t cs) (hc : cs.toList = us.map (Value.int .i64)) : RI w w.heap.size (some ⟨g, 0, none⟩) us := by
  intro k hk
  rw [List.length_map] at hk
  refine ⟨g, 0, rfl, h.lt, ?_⟩
  rw [h.cell, Nat.zero_add, ← Array.getElem?_toList, hc]
  rw [List.getElem?_map, List.getElem?_eq_getElem hk]; simp
theorem example13_any (w : World) : Calls Try.prog 26 #[] w fun e w' => ∃ S, e = .returned S ∧ StIs w' S exC13 exL13 exH13 ∧ Below w.heap.size w w' := by
  have hSt : ∀ (W : World) (s : Nat) (B : Below s w W), w.heap.size = s → Blk W (s + 1) 53 #[.int .i64 0, .int .i64 48] → Blk W (s + 1 + 1) 53 #[.int .i64 0, .int .i64 10, .int .i64 16, .int .i64 14] → Blk W (s + 1 + 1 + 1) 3 #[.int .i64 0, .int .i64 1] →
      StIs W (.agg #[.slice (some ⟨s + 1, 0, none⟩) 1 1, .slice (some ⟨s + 1 + 1, 0, none⟩) 2 2, .slice (some ⟨s + 1 + 1 + 1, 0, none⟩) 2 2]) exC13 exL13 exH13 := fun W s B _ k1 k2 k3 =>
    ⟨_, _, _, _, _, _, _, _, _, rfl, rfl, by unfold maxLen; omega, ru_blk exC13 k1 rfl, rfl, by unfold maxLen; omega, ru_blk exL13 k2 rfl, rfl, by unfold maxLen; omega, ri_blk exH13 k3 rfl⟩
  have hSt' := Lib.hid hSt
  obtain ⟨W4, hW4⟩ : ∃ W4, ((((w.alloc (.cells #[.slice (some ⟨w.heap.size + 1, 0, none⟩) 1 1, .slice (some ⟨w.heap.size + 1 + 1, 0, none⟩) 2 2, .slice (some ⟨w.heap.size + 1 + 1 + 1, 0, none⟩) 2 2] 25)).alloc (.cells #[.int .i64 0, .int .i64 48] 53)).alloc
    (.cells #[.int .i64 0, .int .i64 10, .int .i64 16, .int .i64 14] 53)).alloc (.cells #[.int .i64 0, .int .i64 1] 3)) = W4 := ⟨_, rfl⟩
  have hB : Below w.heap.size w W4 := by rw [← hW4]; exact ((((Below.refl w.heap.size w).alloc (Nat.le_refl _) _).alloc (by simp) _).alloc (by simp; omega) _).alloc (by simp; omega) _
  have k0 : Blk W4 w.heap.size 25 #[.slice (some ⟨w.heap.size + 1, 0, none⟩) 1 1, .slice (some ⟨w.heap.size + 1 + 1, 0, none⟩) 2 2, .slice (some ⟨w.heap.size + 1 + 1 + 1, 0, none⟩) 2 2] := by
    rw [← hW4]; exact (((Blk.new _ _ _).alloc _).alloc _).alloc _
  have k1 : Blk W4 (w.heap.size + 1) 53 #[.int .i64 0, .int .i64 48] := by
    rw [← hW4]; have := Blk.new (w.alloc (.cells #[.slice (some ⟨w.heap.size + 1, 0, none⟩) 1 1, .slice (some ⟨w.heap.size + 1 + 1, 0, none⟩) 2 2, .slice (some ⟨w.heap.size + 1 + 1 + 1, 0, none⟩) 2 2] 25)) 53 #[.int .i64 0, .int .i64 48]
    rw [World.size_alloc] at this; exact (this.alloc _).alloc _
  have k2 : Blk W4 (w.heap.size + 1 + 1) 53 #[.int .i64 0, .int .i64 10, .int .i64 16, .int .i64 14] := by
    rw [← hW4]; have := Blk.new ((w.alloc (.cells #[.slice (some ⟨w.heap.size + 1, 0, none⟩) 1 1, .slice (some ⟨w.heap.size + 1 + 1, 0, none⟩) 2 2, .slice (some ⟨w.heap.size + 1 + 1 + 1, 0, none⟩) 2 2] 25)).alloc (.cells #[.int .i64 0, .int .i64 48] 53)) 53 #[.int .i64 0, .int .i64 10, .int .i64 16, .int .i64 14]
    rw [World.size_alloc, World.size_alloc] at this; exact this.alloc _
  have k3 : Blk W4 (w.heap.size + 1 + 1 + 1) 3 #[.int .i64 0, .int .i64 1] := by
    rw [← hW4]; have := Blk.new (((w.alloc (.cells #[.slice (some ⟨w.heap.size + 1, 0, none⟩) 1 1, .slice (some ⟨w.heap.size + 1 + 1, 0, none⟩) 2 2, .slice (some ⟨w.heap.size + 1 + 1 + 1, 0, none⟩) 2 2] 25)).alloc (.cells #[.int .i64 0, .int .i64 48] 53)).alloc (.cells #[.int .i64 0, .int .i64 10, .int .i64 16, .int .i64 14] 53)) 3 #[.int .i64 0, .int .i64 1]
    rw [World.size_alloc, World.size_alloc, World.size_alloc] at this; exact this
  have hW4' := Lib.hid hW4
  have hst := Lib.hid (hSt W4 w.heap.size hB rfl k1 k2 k3)
  have c0 := k0.cell
  clear hSt hSt' hW4 k1 k2 k3
  go_enter Try.func26, Try.ntmps26
  go_wp2_with fail
  rw [hW4'.out]
  exact bodyPost_ret (v := .agg #[.slice (some ⟨w.heap.size + 1, 0, none⟩) 1 1, .slice (some ⟨w.heap.size + 1 + 1, 0, none⟩) 2 2, .slice (some ⟨w.heap.size + 1 + 1 + 1, 0, none⟩) 2 2]) (by simp [results, Try.results26, go_sem, c0]) rfl ⟨_, rfl, hst.out, hB⟩
end Go.Proofs.Ytmpakobfedgdbaa
namespace Go.Pol
open Go
def exO13 : List Gp := [(0, 16, 10, true), (1, 16, 14, true)]
theorem ex13_groups : groupsA exC13 exL13 exH13 0 = ([2], 0) := by decide +kernel
theorem ex13_score : scoreA exC13 exL13 exH13 = (2, 1, 8, 0) := by decide +kernel
theorem ex13_split : splitA exC13 exL13 exH13 [(8, 13)] = ([0, 1], 0) := by decide +kernel
theorem ex13_huge : (gsH exC13 exL13 exH13).filter hugeP = exO13 := by decide +kernel
theorem ex13_choose17 : chooseA exC13 exL13 exH13 17 exO13 = ([(10, 6), (32, 11)], 0) := by decide +kernel
theorem ex13_choose23 : chooseA exC13 exL13 exH13 23 exO13 = ([(10, 6), (30, 17)], 0) := by decide +kernel
theorem insInner_size {α : Type} [Inhabited α] (lt : α → α → Bool) (a : Nat) : ∀ (j : Nat) (d : Array α), (Sort.insInner lt a j d).size = d.size
  | 0, _ => rfl
  | j + 1, d => by
    rw [Sort.insInner]
    split
    · rw [insInner_size lt a j, Sort.size_swp]
    · rfl
theorem insOuter_size {α : Type} [Inhabited α] (lt : α → α → Bool) (a b : Nat) : ∀ (k i : Nat) (d : Array α), b - i ≤ k → (Sort.insOuter lt a b i d).size = d.size
  | 0, i, d, h => by rw [Sort.insOuter, if_neg (by omega)]
  | k + 1, i, d, h => by
    rw [Sort.insOuter]
    split
    · rw [insOuter_size lt a b k (i + 1) _ (by omega), insInner_size]
    · rfl
theorem insSort_size {α : Type} [Inhabited α] (lt : α → α → Bool) (a b : Nat) (d : Array α) : (Sort.insertionSort lt d a b).size = d.size := insOuter_size lt a b _ _ d (Nat.le_refl _)
end Go.Pol
namespace Go.Proofs.Ytmpakobfedgdbaa
open Go Go.Proofs Go.RowKit Go.Pol
theorem ex13_ord : (Sort.insertionSort ltL exO13.toArray 0 2).toList = exO13 := by
  simp [Sort.insertionSort, Sort.insOuter, Sort.insInner, ltL, exO13]
end Go.Proofs.Ytmpakobfedgdbaa
namespace Go.Proofs.Ytmpakobfedgdbaa
open Go Go.Proofs Go.RowKit Go.Pol Go.Shelf
attribute [local go_sem] Oper.semAt_some Go.Pol.wide_fn Go.Pol.wide_depth Go.Pol.wide_fn' Go.Pol.wide_depth'

theorem exChoose_any (S : Value) (n : Int) (R : List Sp × Int) (hR : chooseA exC13 exL13 exH13 n exO13 = R) (w : World) (hS : StIs w S exC13 exL13 exH13) : Calls Try.prog 13 #[S, .int .i64 n] w (SpE R w) := by
  have h := choose_anyF S exC13 exL13 exH13 n (fun d => Sort.insertionSort ltL d 0 2) exO13 w hS (fun _ => by rw [ex13_huge]; exact stable20 2 (by omega)) (fun d => insSort_size _ _ _ d) (by rw [ex13_huge]; exact ex13_ord) (by rw [ex13_huge])
  rw [hR] at h; exact h
theorem exGroups_any (S : Value) (w : World) (hS : StIs w S exC13 exL13 exH13) : Calls Try.prog 21 #[S, .int .i64 0] w (IntsE ([2], 0) w) := by
  have h := groups_any S exC13 exL13 exH13 0 w hS
  rw [ex13_groups] at h; exact h
theorem exScore_any (S : Value) (w : World) (hS : StIs w S exC13 exL13 exH13) : Calls Try.prog 23 #[S] w fun e w' => e = .returned (.tuple #[.int .i64 2, .int .i64 1, .int .i64 8, .int .i64 0]) ∧ Below w.heap.size w w' := by
  have h := score_any S exC13 exL13 exH13 w hS
  rw [ex13_score] at h; exact h
theorem exSplit_any (S : Value) (A : Option Addr) (w : World) (hS : StIs w S exC13 exL13 exH13) (hr : RU w w.heap.size A [(8, 13)]) : Calls Try.prog 9 #[S, .slice A 1 1] w (IntsE ([0, 1], 0) w) := by
  have h := split_any S exC13 exL13 exH13 A 1 1 [(8, 13)] w hS rfl (by unfold maxLen; omega) hr
  rw [ex13_split] at h; exact h
set_option maxRecDepth 100000 in
set_option maxHeartbeats 3200000 in
theorem awake13_any (w : World) : Calls Try.prog 8 #[] w fun e w' => e = .returned (.bool true) ∧ Below w.heap.size w w' := by
  obtain ⟨s, hs⟩ : ∃ s, w.heap.size = s := ⟨_, rfl⟩
  have hs' := Lib.hid hs
  have B0 : Hid (Below s w w ∧ s ≤ w.heap.size) := Lib.hid ⟨Below.refl _ _, by omega⟩
  clear hs
  go_enter Try.func8, Try.ntmps8
  go_wp2_with fail
  refine (example13_any _).mono ?_
  rintro e w1 ⟨S1, rfl, s1, hb1⟩
  go_wp2_with fail
  refine (exGroups_any S1 _ s1).mono ?_
  rintro e w2 ⟨O2, c2, rfl, u2, hb2⟩
  have B2 := hb1.trans (hb2.mono hb1.size)
  clear s1 hb1 hb2
  go_wp2_with fail
  refine (example13_any _).mono ?_
  rintro e w3 ⟨S3, rfl, s3, hb3⟩
  go_wp2_with fail
  refine (exScore_any S3 _ s3).mono ?_
  rintro e w4 ⟨rfl, hb4⟩
  have b34 := hb3.trans (hb4.mono hb3.size)
  have B4 := B2.trans (b34.mono B2.size)
  have u4 := RI.on u2 b34
  clear s3 hb3 hb4 b34 B2 u2
  go_wp2_with fail
  refine (example13_any _).mono ?_
  rintro e w5 ⟨S5, rfl, s5, hb5⟩
  have kP := Blk.new w5 53 #[.int .i64 8, .int .i64 13]
  have hbP : Below w5.heap.size w5 (w5.alloc (.cells #[.int .i64 8, .int .i64 13] 53)) := (Below.refl _ _).alloc (Nat.le_refl _) _
  have sP := s5.on hbP
  have rP := ru_blk [(8, 13)] kP rfl
  go_wp2_with fail
  refine (exSplit_any S5 _ _ sP rP).mono ?_
  rintro e w6 ⟨O6, c6, rfl, u6, hb6⟩
  have b56 := hb5.trans ((hbP.trans (hb6.mono hbP.size)).mono hb5.size)
  have B6 := B4.trans (b56.mono B4.size)
  have v4 := RI.on u4 b56
  clear s5 hb5 hb6 hbP kP sP rP b56 B4 u4
  go_wp2_with fail
  refine (example13_any _).mono ?_
  rintro e w7 ⟨S7, rfl, s7, hb7⟩
  go_wp2_with fail
  refine (exChoose_any S7 17 _ ex13_choose17 _ s7).mono ?_
  rintro e w8 ⟨O8, c8, rfl, u8, _, _, hb8⟩
  have b78 := hb7.trans (hb8.mono hb7.size)
  have B8 := B6.trans (b78.mono B6.size)
  have p4 := RI.on v4 b78
  have p6 := RI.on u6 b78
  clear s7 hb7 hb8 b78 B6 v4 u6
  go_wp2_with fail
  refine (example13_any _).mono ?_
  rintro e w9 ⟨S9, rfl, s9, hb9⟩
  go_wp2_with fail
  refine (exChoose_any S9 23 _ ex13_choose23 _ s9).mono ?_
  rintro e w10 ⟨O10, c10, rfl, u10, _, _, hb10⟩
  have b910 := hb9.trans (hb10.mono hb9.size)
  have B10 := B8.trans (b910.mono B8.size)
  have q4 := RI.on p4 b910
  have q6 := RI.on p6 b910
  have q8 := u8.on b910
  clear s9 hb9 hb10 b910 B8 p4 p6 u8
  have k1 := Blk.new w10 3 #[.int .i64 2]
  have hbA : Below w10.heap.size w10 (w10.alloc (.cells #[.int .i64 2] 3)) := (Below.refl _ _).alloc (Nat.le_refl _) _
  have x4 := RI.on q4 hbA
  have x6 := RI.on q6 hbA
  have x8 := q8.on hbA
  have x10 := u10.on hbA
  have BA := B10.trans (hbA.mono B10.size)
  have y1 := ri_blk [2] k1 rfl
  have HI1 := Lib.hid (ints13_any O2 _ 1 c2 1 [2] _ rfl (by omega) x4 y1)
  clear q4 q6 q8 u10 hbA k1 x4 y1
  go_wp2_with fail
  refine HI1.out.mono ?_
  rintro e w11 ⟨rfl, hb11⟩
  have B11 := BA.trans (hb11.mono BA.size)
  have z6 := RI.on x6 hb11
  have z8 := x8.on hb11
  have z10 := x10.on hb11
  clear hb11 x6 x8 x10 BA HI1
  have k2 := Blk.new w11 3 #[.int .i64 0, .int .i64 1]
  have hbB : Below w11.heap.size w11 (w11.alloc (.cells #[.int .i64 0, .int .i64 1] 3)) := (Below.refl _ _).alloc (Nat.le_refl _) _
  have x6 := RI.on z6 hbB
  have x8 := z8.on hbB
  have x10 := z10.on hbB
  have BB := B11.trans (hbB.mono B11.size)
  have y2 := ri_blk [0, 1] k2 rfl
  have HI2 := Lib.hid (ints13_any O6 _ 2 c6 2 [0, 1] _ rfl (by omega) x6 y2)
  clear z6 z8 z10 hbB k2 x6 y2 B11
  go_wp2_with fail
  refine HI2.out.mono ?_
  rintro e w12 ⟨rfl, hb12⟩
  have B12 := BB.trans (hb12.mono BB.size)
  have z8 := x8.on hb12
  have z10 := x10.on hb12
  clear hb12 x8 x10 BB HI2
  have k3 := Blk.new w12 53 #[.int .i64 10, .int .i64 6, .int .i64 32, .int .i64 11]
  have hbC : Below w12.heap.size w12 (w12.alloc (.cells #[.int .i64 10, .int .i64 6, .int .i64 32, .int .i64 11] 53)) := (Below.refl _ _).alloc (Nat.le_refl _) _
  have x8 := z8.on hbC
  have x10 := z10.on hbC
  have BC := B12.trans (hbC.mono B12.size)
  have y3 := ru_blk [(10, 6), (32, 11)] k3 rfl
  have HI3 := Lib.hid (sameT_any O8 _ 2 c8 2 [(10, 6), (32, 11)] [(10, 6), (32, 11)] _ rfl (by unfold maxLen; omega) rfl x8 y3)
  clear z8 z10 hbC k3 x8 y3 B12
  go_wp2_with fail
  refine HI3.out.mono ?_
  rintro e w13 ⟨rfl, hb13⟩
  have B13 := BC.trans (hb13.mono BC.size)
  have z10 := x10.on hb13
  clear hb13 x10 BC HI3
  have k4 := Blk.new w13 53 #[.int .i64 10, .int .i64 6, .int .i64 30, .int .i64 17]
  have hbD : Below w13.heap.size w13 (w13.alloc (.cells #[.int .i64 10, .int .i64 6, .int .i64 30, .int .i64 17] 53)) := (Below.refl _ _).alloc (Nat.le_refl _) _
  have x10 := z10.on hbD
  have BD := B13.trans (hbD.mono B13.size)
  have y4 := ru_blk [(10, 6), (30, 17)] k4 rfl
  have HI4 := Lib.hid (sameT_any O10 _ 2 c10 2 [(10, 6), (30, 17)] [(10, 6), (30, 17)] _ rfl (by unfold maxLen; omega) rfl x10 y4)
  clear z10 hbD k4 x10 y4 B13
  go_wp2_with fail
  refine HI4.out.mono ?_
  rintro e w14 ⟨rfl, hb14⟩
  go_wp2_with fail
  go_ret
  exact ⟨rfl, BD.trans (hb14.mono BD.size)⟩
end Go.Proofs.Ytmpakobfedgdbaa
namespace Go.Pol
open Go Go.RowKit Go.ChangeShapes Go.WideShapes Go.Deep
section
variable {H : Type} {enc : TypeId × Value → H} {P : Program}
/-- The row's last step where the call turned nothing that lay there. -/
theorem post_of_below {f : Func} {s : ChangeSpec} {apart fresh handsOn again : Bool} {W W' : World} {args : Array Value} {v : Value} {ds gs : List (DataW H)} {before pa pv : List MemPlace}
    (hW : DataW.Whole enc P f.params.toList s.vars apart W args.toList ds gs before)
    (hres : ∀ (b : Nat) (sp : Nat → Bool) (hd : Bool), DataW.TrodAll enc P W' b sp hd f.resultTypes.toList (v.resultList f.resultTypes.size) (s.fn H (ds ++ gs)).results [])
    (hargs : ∀ sp : Nat → Bool, (∀ p ∈ before, sp p.block = true) → DataW.TrodAll enc P W' 0 sp true f.params.toList args.toList (s.fn H (ds ++ gs)).args pa)
    (hvars : ∀ sp : Nat → Bool, (∀ p ∈ before, sp p.block = true) → DataW.TrodVars enc P W' sp s.vars (s.fn H (ds ++ gs)).vars pv)
    (hps : before = pa ++ pv) (hb : Below W.heap.size W W')
    (hok : ∀ (j : Nat) (t : TypeId) (r : Value), f.resultTypes[j]? = some t → (v.resultList f.resultTypes.size)[j]? = some r → Value.okWide P W' .any 0 t r) :
    s.post enc P f apart fresh handsOn again W args v W' := by
  have hlt : ∀ p ∈ before, p.block < W.heap.size := fun p hp => hW.lt p hp
  have hold : ∀ p ∈ before, (fun b => decide (b < W.heap.size)) p.block = true := fun p hp => by simpa using hlt p hp
  refine ⟨ds, gs, before, [], pa, pv, hW, hres _ _ _, hargs _ hold, hvars _ hold, World.keptBut_mono (fun p hp => ⟨hp, ?_⟩) (hb.frame (· ∈ before)), fun _ => ?_⟩
  · rw [hps, List.mem_append] at hp
    exact Or.inr hp
  · obtain ⟨_, _, _, _, _, hz, hn⟩ := hW
    refine ⟨hok, _, _, ([] ++ pa) ++ pv, ⟨[] ++ pa, pv, trodAll_append (hargs _ (fun _ _ => rfl)) (hres _ _ _), hvars _ (fun _ _ => rfl), rfl, ?_, ?_⟩, ?_⟩
    · intro b off hp
      have hin : MemPlace.cell b off ∈ before := by rw [hps]; simpa using hp
      rw [hb.frozen (hlt _ hin)]
      exact hz b off hin
    · intro ha
      have := hn ha
      rw [hps] at this
      simpa using this
    · intro p hp _
      rw [hps]
      simpa using hp
end
section
variable {H : Type} {enc : TypeId × Value → H} {P : Program} {w : World} {base : Nat} {spare : Nat → Bool} {held : Bool}
theorem open_agg1 {r : Reach} {b0 : Nat} {t : TypeId} {f0 : Field} {v : Value} {d : DataW H} {p : List MemPlace} (hs : P.underlying t = some (.struct #[f0])) (hone : oneCellFields P #[f0] = true) (hC : P.cellsOf t = 1)
    (hv : Value.okWide P w r b0 t v) (h : DataW.Trod enc P w base spare held t v d p) :
    ∃ (v0 : Value) (y0 : DataW H × List MemPlace) (n : Nat), v = .agg #[v0] ∧ d = .agg [y0.1] ∧ p = y0.2 ∧ DataW.trod enc P w base spare held n f0.type [v0] = some y0 := by
  obtain ⟨cs, rfl, hsz⟩ := okWide_struct hs hv
  obtain ⟨l⟩ := cs
  match l, hsz.trans hC with
  | [c0], _ =>
    obtain ⟨fuel, hf⟩ := h
    obtain ⟨xs, n, _, hx, _, hlen, hg⟩ := DataW.trod_struct hs hf
    obtain ⟨o0, k0⟩ := hone_of hone 0 f0 rfl
    match xs, hlen with
    | [y0], _ =>
      simp only [Prod.mk.injEq] at hx
      exact ⟨c0, y0, n, rfl, by simpa using hx.1, by simpa using hx.2, by simpa [Value.cells, o0, k0] using hg 0 f0 rfl⟩
/-- A slice of integers that came in reads as a list. -/
theorem openI {t e : TypeId} {fuel : Nat} {v : Value} {x : DataW H × List MemPlace} (ht : P.underlying t = some (.slice e)) (he : P.underlying e = some (.int .i64)) (hc : P.cellsOf e = 1)
    (h : DataW.trod enc P w base (fun _ => true) held fuel t [v] = some x) : ∃ (A : Option Addr) (n cap : Nat) (xs : List Int), v = .slice A n cap ∧ xs.length = n ∧ n ≤ maxLen ∧ RI w w.heap.size A xs ∧ ∀ x ∈ xs, (Lit.int .i64 x).wf = true := by
  rcases open_ints ht he hc h with ⟨hcs, _⟩ | ⟨a, len, cap, zs, hcs, _, hl, hm, hz, _, hcell, hwf⟩
  · simp only [List.cons.injEq, and_true] at hcs
    exact ⟨none, 0, 0, [], hcs, rfl, by unfold maxLen; omega, RI.nil, by simp⟩
  · simp only [List.cons.injEq, and_true] at hcs
    simp only [if_true] at hz
    refine ⟨some a, len, cap, zs.take len, hcs, by simp; omega, by omega, ?_, fun x hx => hwf x (List.mem_of_mem_take hx)⟩
    intro k hk
    have hk' : k < len := by simp at hk; omega
    have h1 := hcell k (by omega)
    obtain ⟨b, off, spot⟩ := a
    have hspot : spot = none := by simpa [Addr.add] using World.cell?_spot (hcell 0 (by omega))
    subst hspot
    rw [add_plain] at h1
    refine ⟨b, off, rfl, World.block_lt_of_cell? _ _ h1, ?_⟩
    rw [h1]
    simp [List.getD_eq_getElem?_getD, show k < zs.length by omega]
theorem open_slice_fields {t e : TypeId} {fs : Array Field} {fuel : Nat} {cs : List Value} {x : DataW H × List MemPlace} (ht : P.underlying t = some (.slice e)) (he : P.underlying e = some (.struct fs))
    (hone : oneCellFields P fs = true) (hC : P.cellsOf e = fs.size) (h : DataW.trod enc P w base spare held fuel t cs = some x) :
    (cs = [.slice none 0 0] ∧ x = (.nil, [])) ∨
    ∃ (a : Addr) (len cap m : Nat) (D : Nat → DataW H) (Pl : Nat → List MemPlace), cs = [.slice (some a) len cap] ∧ base ≤ a.block ∧ len ≤ cap ∧ cap ≤ maxLen ∧ m = (if spare a.block then cap else len) ∧
      x = (.slice ((List.range len).map D) ((List.range (m - len)).map fun j => D (len + j)), MemPlace.row a (m * fs.size) ++ (List.range m).flatMap Pl) ∧
      ∀ i, i < m → ∃ (ys : List (DataW H × List MemPlace)) (n : Nat), D i = .agg (ys.map (·.1)) ∧ Pl i = ys.flatMap (·.2) ∧ ys.length = fs.size ∧
        ∀ (j : Nat) (f : Field), fs[j]? = some f → ∃ (v : Value) (y : DataW H × List MemPlace), w.cell? (a.add (i * fs.size + j)) = some v ∧ ys[j]? = some y ∧ DataW.trod enc P w base spare held n f.type [v] = some y := by
  rcases open_slice ht h with h0 | ⟨a, len, cap, m, n, D, Pl, hcs, hb, hl, hm, hmm, hx, hi⟩
  · exact .inl h0
  · refine .inr ⟨a, len, cap, m, D, Pl, hcs, hb, hl, hm, hmm, by rw [hC] at hx; exact hx, fun i him => ?_⟩
    obtain ⟨cs', hc, ht'⟩ := hi i him
    rw [hC] at hc
    obtain ⟨ys, n', hn', hy, hlen, hyl, hf⟩ := DataW.trod_struct he ht'
    obtain ⟨_, hcl, hat⟩ := World.cells?_some hc
    simp only [Prod.mk.injEq] at hy
    refine ⟨ys, n', hy.1, hy.2, hyl, fun j f hj => ?_⟩
    obtain ⟨ho, hk⟩ := hone_of hone j f hj
    have hjl : j < fs.size := (Array.getElem?_eq_some_iff.1 hj).1
    have hcell := hat j hjl
    have hv : cs'[j]? = some (cs'[j]'(by omega)) := List.getElem?_eq_getElem (by omega)
    have h1 := hf j f hj
    rw [ho, hk] at h1
    have hone' : (cs'.drop j).take 1 = [cs'[j]'(by omega)] := by
      rw [List.drop_eq_getElem_cons (by omega)]
      rfl
    rw [hone'] at h1
    have hys : ys[j]? = some (ys[j]'(by omega)) := List.getElem?_eq_getElem (by omega)
    refine ⟨_, _, ?_, hys, h1.trans hys⟩
    rw [← Go.Deep.add_add, hcell, hv]
/-- A slice of pairs of integers that came in reads as a list. -/
theorem openU {t e : TypeId} {f0 f1 : Field} {fuel : Nat} {v : Value} {x : DataW H × List MemPlace} (ht : P.underlying t = some (.slice e)) (he : P.underlying e = some (.struct #[f0, f1])) (hone : oneCellFields P #[f0, f1] = true) (hC : P.cellsOf e = 2)
    (h0 : P.underlying f0.type = some (.int .i64)) (h1 : P.underlying f1.type = some (.int .i64))
    (h : DataW.trod enc P w base (fun _ => true) held fuel t [v] = some x) : ∃ (A : Option Addr) (n cap : Nat) (us : List (Int × Int)), v = .slice A n cap ∧ us.length = n ∧ n ≤ maxLen ∧ RU w w.heap.size A us := by
  rcases open_slice_fields ht he hone hC h with ⟨hcs, _⟩ | ⟨a, len, cap, m, D, Pl, hcs, _, hl, hm, hmm, _, hi⟩
  · simp only [List.cons.injEq, and_true] at hcs
    exact ⟨none, 0, 0, [], hcs, rfl, by unfold maxLen; omega, RU.nil⟩
  · simp only [List.cons.injEq, and_true] at hcs
    simp only [if_true] at hmm
    have each : ∀ i, i < len → ∃ p q : Int, w.cell? (a.add (i * 2)) = some (.int .i64 p) ∧ w.cell? (a.add (i * 2 + 1)) = some (.int .i64 q) := by
      intro i hil
      obtain ⟨ys, n, _, _, _, hf⟩ := hi i (by omega)
      obtain ⟨v0, y0, c0, _, t0⟩ := hf 0 f0 rfl
      obtain ⟨v1, y1, c1, _, t1⟩ := hf 1 f1 rfl
      obtain ⟨p, e0, _⟩ := DataW.trod_int h0 t0
      obtain ⟨q, e1, _⟩ := DataW.trod_int h1 t1
      simp only [List.cons.injEq, and_true] at e0 e1
      subst e0; subst e1
      exact ⟨p, q, c0, c1⟩
    obtain ⟨f, hf⟩ := Classical.axiomOfChoice (r := fun (i : Nat) (pq : Int × Int) => i < len → w.cell? (a.add (i * 2)) = some (.int .i64 pq.1) ∧ w.cell? (a.add (i * 2 + 1)) = some (.int .i64 pq.2)) (fun i => by
      by_cases hil : i < len
      · obtain ⟨p, q, c0, c1⟩ := each i hil
        exact ⟨(p, q), fun _ => ⟨c0, c1⟩⟩
      · exact ⟨(0, 0), fun h => absurd h hil⟩)
    refine ⟨some a, len, cap, (List.range len).map f, hcs, by simp, by omega, ?_⟩
    intro k hk
    have hk' : k < len := by simpa using hk
    obtain ⟨c0, c1⟩ := hf k hk'
    obtain ⟨b, off, spot⟩ := a
    have hspot : spot = none := by
      obtain ⟨c0', _⟩ := hf 0 (by omega)
      simpa [Addr.add] using World.cell?_spot c0'
    subst hspot
    rw [add_plain] at c0 c1
    have e : ((List.range len).map f).getD k (0, 0) = f k := by simp [List.getD_eq_getElem?_getD, hk']
    refine ⟨b, off, rfl, World.block_lt_of_cell? _ _ c0, ?_, ?_⟩
    · rw [e]; exact c0
    · rw [e, Nat.add_assoc]; exact c1
end
end Go.Pol
namespace Go.Proofs.Ytmpakobfedgdbaa
open Go Go.Proofs Go.RowKit Go.Pol Go.ChangeShapes Go.WideShapes Go.Deep

theorem own_ : ownKnob Try.prog.godebug = none := by kernel_rfl
theorem laidOut_ : laidOutB Try.prog = true := by kernel_rfl
set_option maxRecDepth 100000 in
theorem okWide_i64 {w : World} {r : Reach} {b0 : Nat} {v : Value} (h : Value.okWide Try.prog w r b0 3 v) : ∃ n : Int, v = .int .i64 n := okWide_int Try.underlying3 h
theorem spStruct : ∃ f0 f1 : Field, Try.prog.underlying 53 = some (.struct #[f0, f1]) ∧ oneCellFields Try.prog #[f0, f1] = true ∧ f0.type = 3 ∧ f1.type = 3 := ⟨_, _, Try.underlying53, by kernel_rfl, rfl, rfl⟩
set_option maxRecDepth 100000 in
/-- a list of spans that came in -/
theorem openSps {H : Type} {enc : TypeId × Value → H} {w : World} {base : Nat} {held : Bool} {v : Value} {fuel : Nat} {x : DataW H × List MemPlace} (h : DataW.trod enc Try.prog w base (fun _ => true) held fuel 22 v.cells.toList = some x) (hv : Value.okWide Try.prog w .any base 22 v) :
    ∃ (A : Option Addr) (n cap : Nat) (us : List Sp), v = .slice A n cap ∧ us.length = n ∧ n ≤ cap ∧ cap ≤ maxLen ∧ (A = none → cap = 0) ∧ RU w w.heap.size A us := by
  obtain ⟨f0, f1, hs, hone, t0, t1⟩ := spStruct
  obtain ⟨A, n, cap, rfl⟩ := okWide_slice Try.underlying22 hv
  obtain ⟨A', n', cap', us, e, h1, h2, h3⟩ := openU Try.underlying22 hs hone (by kernel_rfl) (by rw [t0]; exact Try.underlying3) (by rw [t1]; exact Try.underlying3) h
  cases e
  rcases open_slice_fields Try.underlying22 hs hone (by kernel_rfl) h with ⟨hcs, _⟩ | ⟨a, len, cap', m, D, Pl, hcs, _, hl, hm, _⟩
  · have e : Value.slice A n cap = .slice none 0 0 := by simpa [Value.cells] using hcs
    cases e
    exact ⟨_, _, _, us, rfl, h1, Nat.le_refl _, by unfold maxLen; omega, fun _ => rfl, h3⟩
  · have e : Value.slice A n cap = .slice (some a) len cap' := by simpa [Value.cells] using hcs
    cases e
    exact ⟨_, _, _, us, rfl, h1, hl, hm, fun e => (by cases e), h3⟩
section
variable {H : Type} {enc : TypeId × Value → H} {w : World} {base b0 : Nat} {held : Bool} {r : Reach} {v : Value} {d : DataW H} {p : List MemPlace}
theorem stCells : Try.prog.cellsOf 25 = 3 := by kernel_rfl
theorem spsCells : Try.prog.cellsOf 22 = 1 := by kernel_rfl
theorem insCells : Try.prog.cellsOf 23 = 1 := by kernel_rfl
theorem intCells : Try.prog.cellsOf 3 = 1 := by kernel_rfl
set_option maxRecDepth 100000 in
/-- a state that came in -/
theorem openState (hv : Value.okWide Try.prog w r b0 25 v) (h : DataW.Trod enc Try.prog w base (fun _ => true) held 25 v d p) :
    ∃ (A1 A2 A3 : Option Addr) (n1 c1 n2 c2 n3 c3 : Nat) (C L : List Sp) (Hu : List Int), v = .agg #[.slice A1 n1 c1, .slice A2 n2 c2, .slice A3 n3 c3] ∧ C.length = n1 ∧ n1 ≤ maxLen ∧ RU w w.heap.size A1 C ∧
      L.length = n2 ∧ n2 ≤ maxLen ∧ RU w w.heap.size A2 L ∧ Hu.length = n3 ∧ n3 ≤ maxLen ∧ RI w w.heap.size A3 Hu := by
  obtain ⟨f0, f1, hs, hone, t0, t1⟩ := spStruct
  obtain ⟨cs, rfl, hsz⟩ := okWide_struct Try.underlying25 hv
  obtain ⟨l⟩ := cs
  obtain ⟨fuel, hf⟩ := h
  obtain ⟨xs, m, _, hx, hl, hlen, hg⟩ := DataW.trod_struct Try.underlying25 hf
  rw [stCells] at hsz
  match l, hsz with
  | [c0, c1, c2], _ =>
    have g0 : DataW.trod enc Try.prog w base (fun _ => true) held m 22 [c0] = xs[0]? := by have := hg 0 _ rfl; simpa [Value.cells, spsCells] using this
    have g1 : DataW.trod enc Try.prog w base (fun _ => true) held m 22 [c1] = xs[1]? := by have := hg 1 _ rfl; simpa [Value.cells, spsCells] using this
    have g2 : DataW.trod enc Try.prog w base (fun _ => true) held m 23 [c2] = xs[2]? := by have := hg 2 _ rfl; simpa [Value.cells, spsCells, insCells] using this
    match xs, hlen with
    | [y0, y1, y2], _ =>
      obtain ⟨A1, n1, c1, C, rfl, a1, a2, a3⟩ := openU Try.underlying22 hs hone (by kernel_rfl) (by rw [t0]; exact Try.underlying3) (by rw [t1]; exact Try.underlying3) (g0.trans rfl)
      obtain ⟨A2, n2, c2, L, rfl, b1, b2, b3⟩ := openU Try.underlying22 hs hone (by kernel_rfl) (by rw [t0]; exact Try.underlying3) (by rw [t1]; exact Try.underlying3) (g1.trans rfl)
      obtain ⟨A3, n3, c3, Hu, rfl, d1, d2, d3, _⟩ := openI Try.underlying23 Try.underlying3 intCells (g2.trans rfl)
      exact ⟨A1, A2, A3, n1, c1, n2, c2, n3, c3, C, L, Hu, rfl, a1, a2, a3, b1, b2, b3, d1, d2, d3⟩
end
end Go.Proofs.Ytmpakobfedgdbaa
namespace Go.Pol
open Go
/-- fewer live pages, or as many and a lesser number -/
def ltX (x y : Gp) : Bool := decide (x.2.2.1 < y.2.2.1) || (decide (x.2.2.1 = y.2.2.1) && decide (x.1 < y.1))
/-- those with as many live pages are in the order of their numbers -/
def Inv (d : Array Gp) : Prop := ∀ i j, i < j → j < d.size → d[i]!.2.2.1 = d[j]!.2.2.1 → d[i]!.1 < d[j]!.1
theorem ltX_inv {d : Array Gp} (h : Inv d) {j : Nat} (hj : j + 1 < d.size) : ltX d[j + 1]! d[j]! = Go.Proofs.Ytmpakobfedgdbaa.ltL d[j + 1]! d[j]! := by
  unfold ltX Go.Proofs.Ytmpakobfedgdbaa.ltL
  have := h j (j + 1) (by omega) hj
  by_cases h1 : d[j + 1]!.2.2.1 = d[j]!.2.2.1
  · have := this h1.symm
    rw [decide_eq_false (show ¬ d[j + 1]!.1 < d[j]!.1 by omega)]; simp
  · simp [h1]
theorem inv_swp {d : Array Gp} (h : Inv d) {j : Nat} (hj : j + 1 < d.size) (hl : d[j + 1]!.2.2.1 < d[j]!.2.2.1) : Inv (Sort.swp d (j + 1) j) := by
  have g1 : (Sort.swp d (j + 1) j)[j + 1]! = d[j]! := Sort.swp_left d _ _ hj (by omega)
  have g2 : (Sort.swp d (j + 1) j)[j]! = d[j + 1]! := Sort.swp_right d _ _ (by omega)
  have g3 : ∀ k, k ≠ j + 1 → k ≠ j → (Sort.swp d (j + 1) j)[k]! = d[k]! := fun k a b => Sort.swp_other d _ _ k a b
  intro p q hpq hq he
  rw [Sort.size_swp] at hq
  by_cases p1 : p = j
  · subst p1
    by_cases q1 : q = p + 1
    · subst q1
      rw [g1, g2] at he
      omega
    · rw [g2, g3 q q1 (by omega)] at he ⊢
      exact h _ _ (by omega) hq he
  · by_cases p2 : p = j + 1
    · subst p2
      rw [g1, g3 q (by omega) (by omega)] at he ⊢
      exact h _ _ (by omega) hq he
    · rw [g3 p p2 p1] at he ⊢
      by_cases q1 : q = j + 1
      · subst q1
        rw [g1] at he ⊢
        exact h _ _ (by omega) (by omega) he
      · by_cases q2 : q = j
        · subst q2
          rw [g2] at he ⊢
          exact h _ _ (by omega) hj he
        · rw [g3 q q1 q2] at he ⊢
          exact h _ _ hpq hq he
theorem insInner_X (a : Nat) : ∀ (j : Nat) (d : Array Gp), j < d.size → Inv d → Sort.insInner ltX a j d = Sort.insInner Go.Proofs.Ytmpakobfedgdbaa.ltL a j d ∧ Inv (Sort.insInner Go.Proofs.Ytmpakobfedgdbaa.ltL a j d)
  | 0, d, _, h => ⟨rfl, h⟩
  | j + 1, d, hj, h => by
    rw [Sort.insInner, Sort.insInner, ltX_inv h hj]
    split
    · rename_i hc
      have hl : d[j + 1]!.2.2.1 < d[j]!.2.2.1 := by
        simp only [Bool.and_eq_true, Go.Proofs.Ytmpakobfedgdbaa.ltL, decide_eq_true_eq] at hc
        exact hc.2
      exact insInner_X a j _ (by rw [Sort.size_swp]; omega) (inv_swp h hj hl)
    · exact ⟨rfl, h⟩
theorem insOuter_X (a b : Nat) : ∀ (k i : Nat) (d : Array Gp), b - i ≤ k → b ≤ d.size → Inv d → Sort.insOuter ltX a b i d = Sort.insOuter Go.Proofs.Ytmpakobfedgdbaa.ltL a b i d
  | 0, i, d, h, _, _ => by rw [Sort.insOuter.eq_def ltX a b i d, Sort.insOuter.eq_def Go.Proofs.Ytmpakobfedgdbaa.ltL a b i d, if_neg (by omega), if_neg (by omega)]
  | k + 1, i, d, h, hb, hI => by
    rw [Sort.insOuter.eq_def ltX a b i d, Sort.insOuter.eq_def Go.Proofs.Ytmpakobfedgdbaa.ltL a b i d]
    by_cases hi : i < b
    · rw [if_pos hi, if_pos hi]
      obtain ⟨e, hI2⟩ := insInner_X a i d (by omega) hI
      rw [e]
      exact insOuter_X a b k (i + 1) _ (by omega) (by rw [insInner_size]; exact hb) hI2
    · rw [if_neg hi, if_neg hi]
theorem ltX_swo : Sort.SWO ltX where
  irrefl x := by simp [ltX]
  trans x y z h1 h2 := by
    simp only [ltX, Bool.or_eq_true, Bool.and_eq_true, decide_eq_true_eq] at *
    omega
  ntrans x y z h1 h2 := by
    simp only [ltX, Bool.or_eq_false_iff, Bool.and_eq_false_iff, decide_eq_false_iff_not] at *
    omega
/-- the sorted list -/
theorem insSort_X (l : List Gp) (h : l.Pairwise (fun a b => a.1 < b.1)) : (Sort.insertionSort Go.Proofs.Ytmpakobfedgdbaa.ltL l.toArray 0 l.length).toList.Perm l ∧
    (Sort.insertionSort Go.Proofs.Ytmpakobfedgdbaa.ltL l.toArray 0 l.length).toList.Pairwise (fun a b => ltX b a = false) := by
  have hI : Inv l.toArray := by
    intro i j hij hj _
    have hj' : j < l.length := by simpa using hj
    rw [getElem!_pos _ i (by simp; omega), getElem!_pos _ j (by simpa using hj)]
    exact List.pairwise_iff_getElem.1 h i j (by omega) hj' hij
  have he : Sort.insertionSort ltX l.toArray 0 l.length = Sort.insertionSort Go.Proofs.Ytmpakobfedgdbaa.ltL l.toArray 0 l.length := by
    unfold Sort.insertionSort
    exact insOuter_X 0 l.length _ _ _ (Nat.le_refl _) (by simp) hI
  obtain ⟨hp, hs⟩ := Sort.insertionSort_holds ltX_swo l.toArray 0 l.length (Nat.zero_le _) (by simp)
  rw [he] at hp hs
  generalize Sort.insertionSort Go.Proofs.Ytmpakobfedgdbaa.ltL l.toArray 0 l.length = d at *
  obtain ⟨d⟩ := d
  obtain ⟨h1, _, h3⟩ := hp
  have h1' : d.length = l.length := by simpa using h1
  refine ⟨?_, ?_⟩
  · have e1 : (d.toArray.extract 0 l.length).toList = d := by simp [← h1']
    have e2 : (l.toArray.extract 0 l.length).toList = l := by simp
    rw [e1, e2] at h3; exact h3
  · rw [List.pairwise_iff_getElem]
    intro i j hi hj hij
    have := hs i j (Nat.zero_le _) hij (by rw [← h1']; exact hj)
    rw [getElem!_pos _ j (by simpa using hj), getElem!_pos _ i (by simpa using hi)] at this
    simpa using this
end Go.Pol
namespace Go.Pol
open Go
def sumF (f : Int → Int) (l : List Int) : Int := (l.map f).sum
theorem sumF_cons (f : Int → Int) (a : Int) (l : List Int) : sumF f (a :: l) = f a + sumF f l := by simp [sumF]
theorem sumF_append (f : Int → Int) (a b : List Int) : sumF f (a ++ b) = sumF f a + sumF f b := by simp [sumF]
theorem sumF_perm {f : Int → Int} {a b : List Int} (h : a.Perm b) : sumF f a = sumF f b := by
  induction h with
  | nil => rfl
  | cons x _ ih => rw [sumF_cons, sumF_cons, ih]
  | swap x y l => rw [sumF_cons, sumF_cons, sumF_cons, sumF_cons]; omega
  | trans _ _ h1 h2 => rw [h1, h2]
theorem sub_min {f : Int → Int} {s os : List Int} (h : s.Sublist os) : os.Pairwise (fun a b => f a ≤ f b) → sumF f (os.take s.length) ≤ sumF f s := by
  induction h with
  | slnil => intro _; simp [sumF]
  | @cons s os a h ih =>
    intro hp
    obtain ⟨h1, h2⟩ := List.pairwise_cons.1 hp
    have hi := ih h2
    have hle := h.length_le
    cases hs : s.length with
    | zero =>
      have : s = [] := List.eq_nil_of_length_eq_zero hs
      subst this; simp [sumF]
    | succ k =>
      rw [hs] at hi hle
      have e : os.take (k + 1) = os.take k ++ [os[k]'(by omega)] := by
        rw [List.take_add_one, List.getElem?_eq_getElem (by omega)]; rfl
      rw [e, sumF_append] at hi
      rw [List.take_succ_cons, sumF_cons]
      have hk := h1 (os[k]'(by omega)) (List.getElem_mem _)
      have : sumF f [os[k]'(by omega)] = f (os[k]'(by omega)) := by simp [sumF]
      omega
  | @cons_cons s os a h ih =>
    intro hp
    obtain ⟨_, h2⟩ := List.pairwise_cons.1 hp
    have := ih h2
    rw [List.length_cons, List.take_succ_cons, sumF_cons, sumF_cons]
    omega
theorem perm_of_mem {a b : List Int} (ha : a.Nodup) (hb : b.Nodup) (h : ∀ x, x ∈ a ↔ x ∈ b) : a.Perm b := (List.perm_ext_iff_of_nodup ha hb).2 h
theorem set_min {f : Int → Int} {U os : List Int} (hp : os.Pairwise (fun a b => f a ≤ f b)) (hn : os.Nodup) (hU : U.Nodup) (hs : ∀ x ∈ U, x ∈ os) : sumF f (os.take U.length) ≤ sumF f U := by
  have hq : (os.filter fun x => decide (x ∈ U)).Perm U := perm_of_mem (hn.filter _) hU fun x => by
    rw [List.mem_filter, decide_eq_true_eq]
    exact ⟨fun h => h.2, fun h => ⟨hs x h, h⟩⟩
  have := sub_min (f := f) (List.filter_sublist (l := os) (p := fun x => decide (x ∈ U))) hp
  rw [hq.length_eq, sumF_perm hq] at this
  exact this
/-- fewer live pages, or as many and a lesser number -/
def ltG (f : Int → Int) (a b : Int) : Prop := f a < f b ∨ (f a = f b ∧ a < b)
theorem ltG_le {f : Int → Int} {os : List Int} (h : os.Pairwise (ltG f)) : os.Pairwise (fun a b => f a ≤ f b) := h.imp fun h => by rcases h with h | h <;> omega
theorem ltG_nodup {f : Int → Int} {os : List Int} (h : os.Pairwise (ltG f)) : os.Nodup := h.imp fun h => by
  rcases h with h | h
  · intro e; rw [e] at h; omega
  · omega
/-- a set of as many with the least sum: where it differs, the first of the list has the lesser number -/
theorem tie_min {f : Int → Int} {U os : List Int} (hp : os.Pairwise (ltG f)) (hU : U.Nodup) (hs : ∀ x ∈ U, x ∈ os) (he : sumF f U = sumF f (os.take U.length))
    {x y : Int} (hx : x ∈ U) (hx2 : x ∉ os.take U.length) (hy : y ∈ os.take U.length) (hy2 : y ∉ U) : y < x := by
  have hxo := hs x hx
  have hsplit : os.take U.length ++ os.drop U.length = os := List.take_append_drop _ _
  have hxd : x ∈ os.drop U.length := by
    rw [← hsplit] at hxo
    exact (List.mem_append.1 hxo).resolve_left hx2
  have hpp := hp
  rw [← hsplit, List.pairwise_append] at hpp
  have hlt := hpp.2.2 y hy x hxd
  rcases hlt with hlt | hlt
  · exfalso
    have hy3 : y ∈ os := List.mem_of_mem_take hy
    have hn : (y :: U.erase x).Nodup := List.nodup_cons.2 ⟨fun h => hy2 (List.mem_of_mem_erase h), hU.erase x⟩
    have hm := set_min (U := y :: U.erase x) (ltG_le hp) (ltG_nodup hp) hn (fun z hz => by
      rcases List.mem_cons.1 hz with rfl | hz
      · exact hy3
      · exact hs z (List.mem_of_mem_erase hz))
    have hperm := List.perm_cons_erase hx
    have hl : (y :: U.erase x).length = U.length := by rw [hperm.length_eq]; simp
    rw [hl, sumF_cons] at hm
    have h2 := sumF_perm (f := f) hperm
    rw [sumF_cons] at h2
    omega
  · exact hlt.2
end Go.Pol
namespace Go.Pol
open Go
/-- the pages of a list -/
def inL (l : List Int) (p : Nat) : Bool := decide ((p : Int) ∈ l)
/-- what a choice costs -/
def liveS (L : List Sp) (l : List Int) : Int := (l.map fun g => grpF L g).sum
theorem liveS_snoc (L : List Sp) (l : List Int) (g : Int) : liveS L (l ++ [g]) = liveS L l + grpF L g := by simp [liveS]
theorem liveS_bound (L : List Sp) : ∀ (l : List Int), 0 ≤ liveS L l ∧ liveS L l ≤ 16 * l.length
  | [] => by simp [liveS]
  | x :: r => by
    have h1 := grpF_bound L x
    have h2 := liveS_bound L r
    simp only [liveS, List.map_cons, List.sum_cons, List.length_cons] at h2 ⊢
    omega
end Go.Pol
namespace Go.Proofs.Ytmpakobfedgdbaa
open Go Go.Proofs Go.RowKit Go.Pol Go.Shelf
attribute [local go_sem] Oper.semAt_some Go.Pol.wide_fn Go.Pol.wide_depth Go.Pol.wide_fn' Go.Pol.wide_depth'

set_option maxRecDepth 100000 in
set_option maxHeartbeats 1600000 in
theorem sets13_any (A : Option Addr) (n cap : Nat) (l : List Int) (w : World) (hn : l.length = n) (hm : n ≤ 100000) (hr : RI w w.heap.size A l) (hl : ∀ p ∈ l, 0 ≤ p ∧ p < 1024) :
    Calls Try.prog 44 #[.slice A n cap] w (SpansO w (setA (inL l))) := by
  have HSet := Lib.hid (fun cs f W h => refSet_any cs f W h)
  have hb0 := (Below.refl w.heap.size w).alloc (Nat.le_refl _) (.cells Try.zeroCells39 39)
  have kM := Blk.new w 39 Try.zeroCells39
  have hZ := zeros_are
  have hn' := Lib.hid hn
  have hl' := Lib.hid hl
  clear hn hl
  obtain ⟨R, hR⟩ : ∃ R, setA (inL l) = R := ⟨_, rfl⟩
  rw [hR]
  have hR' := Lib.hid hR
  clear hR
  obtain ⟨s, hs⟩ : ∃ s, w.heap.size = s := ⟨_, rfl⟩
  rw [hs] at hb0 kM
  have hr0 : RI w s A l := by rw [← hs]; exact hr
  have hs' := Lib.hid hs
  go_enter Try.func44, Try.ntmps44
  go_upto_region 2 with fail
  generalize w.alloc (.cells Try.zeroCells39 39) = w0 at *
  generalize Try.zeroCells39 = Z at *
  clear hr
  go_wp2_with fail
  go_loopw [4] (fun i wr => ∃ (j : Nat) (cs : Array Value), j ≤ n ∧ i = .int .i64 j ∧ Blk wr s 39 cs ∧ MarksAre cs (inL (l.take j)) ∧ Below s w wr) (fun i _ => n - (intOf i).toNat)
  case atStart => exact ⟨0, Z, by omega, rfl, kM, ⟨hZ.size, fun k hk => by rw [hZ.at_ k hk]; simp [inL]⟩, hb0⟩
  case round =>
    obtain ⟨j, cs, hj, rfl, kM, hM, hB⟩ := hrel
    have hwl := kM.lt
    by_cases hlt : j < n
    · have hlt' : decide ((j : Int) < (n : Int)) = true := by simpa using hlt
      have hts := take_snocI l j (by have := hn'.out; omega)
      have hx := hl'.out _ (getD_memI (bs := l) (k := j) (by have := hn'.out; omega))
      obtain ⟨b, o, rfl, hbl, hc⟩ := (hr0.below hB).at_ (k := j) (by have := hn'.out; omega)
      generalize l.getD j 0 = x at *
      obtain ⟨p, rfl⟩ : ∃ p : Nat, x = (p : Int) := ⟨x.toNat, by omega⟩
      have hst := Lib.hid (hM.set (g := inL (l.take (j + 1))) p (by omega) true (by rw [hts, inL]; simp) (fun q hq => by
        rw [hts]; unfold inL
        have : ¬ (q : Int) = (p : Int) := by omega
        simp [this]))
      have hold := (kM.cell p).trans (hM.at_ p (by omega))
      generalize inL (l.take j) p = B0 at hold
      have fM := kM.frozen
      clear hM hts
      go_wp2_with fail
      have hf4 : Far (fun k => k = s) wr (wr.setCell ⟨s, p, none⟩ (.bool true)) := Far.setCell (T := fun k => k = s) (p := ⟨s, p, none⟩) (Far.refl _ _) (fun _ => rfl) _
      go_roundw
      case rel => exact ⟨j + 1, _, by omega, by go_num, kM.set_ _ _, hst.out, hB.setCell (p := ⟨s, p, none⟩) (by simp) _⟩
      case measure => simp [intOf]; omega
    · obtain rfl : j = n := by omega
      have hlt' : decide ((j : Int) < (j : Int)) = false := by simp
      rw [List.take_of_length_le (by have := hn'.out; omega)] at hM
      have HS := HSet.out cs _ wr hM
      rw [hR'.out] at HS
      have HS2 := Lib.hid HS
      have hsz := hM.size
      clear HS HSet hM
      go_wp2_with (refine wpList_load_mid rfl 39 (.tmp 3) rfl s 0 rfl cs.toList _ (rangeAt_blk kM) Try.underlying39 rfl (by rw [Array.length_toList, hsz]; kernel_rfl) ?_; rw [Array.toArray_toList])
      refine HS2.out.mono ?_
      rintro e w8 ⟨A9, c9, rfl, u9, m1, m2, m3, hb8⟩
      go_wp2_with fail
      go_ret
      exact ⟨A9, c9, rfl, u9, m1, m2, fun b o e => by have := m3 b o e; have := hs'.out; omega, by rw [hs'.out]; exact hB.trans (hb8.mono (by omega))⟩
set_option maxRecDepth 100000 in
set_option maxHeartbeats 1600000 in
theorem cost13_any (S : Value) (C L : List Sp) (H : List Int) (A : Option Addr) (n cap : Nat) (ps : List Sp) (w : World) (hS : StIs w S C L H) (hL : Go.Pol.Can L) (hin : ∀ g ∈ H, inG g = true) (h64 : H.length ≤ 64) (hn : ps.length = n) (hm : n ≤ maxLen) (hr : RU w w.heap.size A ps) (hc : Go.Pol.Can ps) :
    Calls Try.prog 19 #[S, .slice A n cap] w fun e w' => e = .returned (.tuple #[.int .i64 ((touchF ps H).length : Int), .int .i64 (liveS L (touchF ps H))]) ∧ Below w.heap.size w w' := by
  have HT := Lib.hid (fun W (h : StIs W S C L H) hr => touched13_any S C L H A n cap ps W h hin h64 hn hm hr hc)
  have HLv := Lib.hid (fun g (hg : 0 ≤ g ∧ g < 64) W (h : StIs W S C L H) => live13_any S C L H g W h hg hL)
  have hmem : Hid (∀ g ∈ touchF ps H, 0 ≤ g ∧ g < 64) := Lib.hid (fun g hg => inG_iff.1 (hin g (List.mem_filter.1 hg).1))
  have hlen : (touchF ps H).length ≤ 64 := Nat.le_trans (touchF_len _ _) h64
  have hS' := hS
  obtain ⟨A1, A2, A3, n1, c1, n2, c2, n3, c3, rfl, h1, h2, h3, h4, h5, h6, h7, h8, h9⟩ := hS.ex
  have hb0 := (Below.refl w.heap.size w).alloc (Nat.le_refl _) (.cells #[.slice A1 n1 c1, .slice A2 n2 c2, .slice A3 n3 c3] 25)
  have k0 := Blk.new w 25 #[.slice A1 n1 c1, .slice A2 n2 c2, .slice A3 n3 c3]
  have s0 := hS'.on hb0
  have r0 := hr.on hb0
  have c0 := k0.cell
  generalize touchF ps H = T at *
  unfold IntsO at HT
  obtain ⟨tl, htl⟩ : ∃ tl, T.length = tl := ⟨_, rfl⟩
  rw [htl] at HT hlen ⊢
  have htl' := Lib.hid htl
  clear hS hS' h1 h2 h3 h4 h5 h6 h7 h8 h9 hr hn hin h64 htl
  go_enter Try.func19, Try.ntmps19
  go_wp2_with fail
  refine (HT.out _ s0 r0).mono ?_
  rintro e w1 ⟨A9, c9, rfl, u9, hb1⟩
  have k1 := k0.call hb1
  have s1 := s0.on hb1
  have B1 := hb0.trans (hb1.mono hb0.size)
  clear hb0 hb1 k0 s0 c0 r0 HT
  go_wp2_with fail
  go_loopw [7, 8] (fun v i wr => ∃ k : Nat, k ≤ tl ∧ i = .int .i64 k ∧ v = .int .i64 (liveS L (T.take k)) ∧ Below w1.heap.size w1 wr) (fun _ i _ => tl - (intOf i).toNat)
  case atStart => exact ⟨0, by omega, rfl, by simp [liveS], Below.refl _ _⟩
  case round =>
    obtain ⟨k, hk, rfl, hvv, hB⟩ := hrel
    have k2 := k1.call hB
    have s2 := s1.on hB
    have u2 := RI.on u9 hB
    have B2 := B1.trans (hB.mono B1.size)
    have hbnd := liveS_bound L (T.take k)
    rw [List.length_take] at hbnd
    by_cases hlt : k < tl
    · have hlt' : decide ((k : Int) < (tl : Int)) = true := by simpa using hlt
      have hts := take_snocI T k (by have := htl'.out; omega)
      have hsn := liveS_snoc L (T.take k) (T.getD k 0)
      rw [← hts] at hsn
      have hg := hmem.out _ (getD_memI (bs := T) (k := k) (by have := htl'.out; omega))
      obtain ⟨b, o, hA3, _, c5⟩ := u2.at_ (k := k) (by have := htl'.out; omega)
      generalize T.getD k 0 = x at *
      generalize liveS L (T.take k) = id0 at *
      have hsn' := Lib.hid hsn
      have G1 := Lib.hid (fun z : Ext wr => Ext.call (x := z) (HLv.out x hg z.w (s2.on z.le)))
      have hlb := grpF_bound L x
      generalize grpF L x = lx at *
      have e1 := fun z : Ext wr => (z.blk k2).cell
      have e2 := fun z : Ext wr => z.cell c5
      subst hA3
      subst hvv
      clear hsn hts
      go_upto_region 6 with fail
      refine region_ext (by kernel_rfl) (by kernel_rfl) ?_
      repeat (go_big_quiet_step ((go_at_call 47; exact G1.out _)))
      refine wpQuiet_nil ?_
      rintro w8 ⟨⟨_, hw8⟩, rfl⟩
      go_wp2_with fail
      go_roundw
      case rel => exact ⟨k + 1, by omega, by go_num, by rw [hsn'.out], hB.trans (hw8.mono hB.size)⟩
      case measure => simp [intOf]; omega
    · obtain rfl : k = tl := by omega
      have hlt' : decide ((k : Int) < (k : Int)) = false := by simp
      rw [List.take_of_length_le (by have := htl'.out; omega)] at hvv
      subst hvv
      go_wp2_with fail
      go_ret2
      exact ⟨rfl, B2⟩
end Go.Proofs.Ytmpakobfedgdbaa
namespace Go.Pol
open Go
/-- which of two lists of one length comes first -/
def lexF : List Int → List Int → Bool
  | x :: a, y :: b => if (x != y) = true then decide (x < y) else lexF a b
  | _, _ => false
def numT (H : List Int) (l : List Int) : Int := ((touchF (setA (inL l)) H).length : Int)
def livT (L : List Sp) (H : List Int) (l : List Int) : Int := liveS L (touchF (setA (inL l)) H)
/-- is a choice better than another one? -/
def betF (L : List Sp) (H : List Int) (a b : List Int) : Bool :=
  if (numT H a != numT H b) = true then decide (numT H a < numT H b) else if (livT L H a != livT L H b) = true then decide (livT L H a < livT L H b) else lexF a b
end Go.Pol
namespace Go.Proofs.Ytmpakobfedgdbaa
open Go Go.Proofs Go.RowKit Go.Pol Go.Shelf
attribute [local go_sem] Oper.semAt_some Go.Pol.wide_fn Go.Pol.wide_depth Go.Pol.wide_fn' Go.Pol.wide_depth'

def BetS (bx : Nat) (v1 v2 v3 : Value) (W : World) : Prop := W.cell? ⟨bx, 0, none⟩ = some v1 ∧ W.cell? ⟨bx, 1, none⟩ = some v2 ∧ W.cell? ⟨bx, 2, none⟩ = some v3
set_option maxRecDepth 100000 in
set_option maxHeartbeats 3200000 in
theorem better13_any (S : Value) (C L : List Sp) (H : List Int) (A B : Option Addr) (n capa capb : Nat) (a b : List Int) (w : World) (hS : StIs w S C L H) (hL : Go.Pol.Can L) (hin : ∀ g ∈ H, inG g = true) (h64 : H.length ≤ 64) (hna : a.length = n) (hnb : b.length = n) (hm : n ≤ 100000) (hra : RI w w.heap.size A a) (hrb : RI w w.heap.size B b)
    (hla : ∀ p ∈ a, 0 ≤ p ∧ p < 1024) (hlb : ∀ p ∈ b, 0 ≤ p ∧ p < 1024) :
    Calls Try.prog 43 #[S, .slice A n capa, .slice B n capb] w fun e w' => e = .returned (.bool (betF L H a b)) ∧ Below w.heap.size w w' := by
  have HSa := Lib.hid (fun W h => sets13_any A n capa a W hna hm h hla)
  have HSb := Lib.hid (fun W h => sets13_any B n capb b W hnb hm h hlb)
  have HC := Lib.hid (fun ps A9 n9 c9 W (h : StIs W S C L H) (hn9 : ps.length = n9) hm9 hr hc => cost13_any S C L H A9 n9 c9 ps W h hL hin h64 hn9 hm9 hr hc)
  have hS' := hS
  obtain ⟨A1, A2, A3, n1, c1, n2, c2, n3, c3, rfl, h1, h2, h3, h4, h5, h6, h7, h8, h9⟩ := hS.ex
  have hb0 := (Below.refl w.heap.size w).alloc (Nat.le_refl _) (.cells #[.slice A1 n1 c1, .slice A2 n2 c2, .slice A3 n3 c3] 25)
  have k0 := Blk.new w 25 #[.slice A1 n1 c1, .slice A2 n2 c2, .slice A3 n3 c3]
  have s0 := hS'.on hb0
  have ra0 := RI.on hra hb0
  have rb0 := RI.on hrb hb0
  have hca := setA_can (inL a)
  have hcb := setA_can (inL b)
  have hR := Lib.hid (show betF L H a b = if (numT H a != numT H b) = true then decide (numT H a < numT H b) else if (livT L H a != livT L H b) = true then decide (livT L H a < livT L H b) else lexF a b from rfl)
  have HCa := Lib.hid (fun A9 n9 c9 W h hn9 hm9 hr => HC.out (setA (inL a)) A9 n9 c9 W h hn9 hm9 hr hca)
  have HCb := Lib.hid (fun A9 n9 c9 W h hn9 hm9 hr => HC.out (setA (inL b)) A9 n9 c9 W h hn9 hm9 hr hcb)
  rw [show ((touchF (setA (inL a)) H).length : Int) = numT H a from rfl, show liveS L (touchF (setA (inL a)) H) = livT L H a from rfl] at HCa
  rw [show ((touchF (setA (inL b)) H).length : Int) = numT H b from rfl, show liveS L (touchF (setA (inL b)) H) = livT L H b from rfl] at HCb
  generalize betF L H a b = R at *
  generalize numT H a = xa at *
  generalize numT H b = xb at *
  generalize livT L H a = ya at *
  generalize livT L H b = yb at *
  unfold SpansO at HSa HSb
  generalize setA (inL a) = PA at *
  generalize setA (inL b) = PB at *
  have hla2 := Lib.hid hna
  have hlb2 := Lib.hid hnb
  clear hS hS' h1 h2 h3 h4 h5 h6 h7 h8 h9 HC hca hcb hra hrb hla hlb hna hnb
  go_enter Try.func43, Try.ntmps43
  go_upto_region 1 with fail
  generalize w.alloc (.cells #[.slice A1 n1 c1, .slice A2 n2 c2, .slice A3 n3 c3] 25) = w0 at *
  obtain ⟨bx, hbx⟩ : ∃ bx, w.heap.size = bx := ⟨_, rfl⟩
  have hbx' := Lib.hid hbx
  rw [hbx] at k0 ⊢
  clear hbx
  refine wp_noPanic ?_
  refine wp_region_T (BetS bx (.slice A1 n1 c1) (.slice A2 n2 c2) (.slice A3 n3 c3)) [] (by kernel_rfl) ?_
  have hbd : Below w0.heap.size w0 w0.drew := (Below.refl _ _).drew
  have k1 := k0.call hbd
  have s1 := s0.on hbd
  have ra1 := RI.on ra0 hbd
  have rb1 := RI.on rb0 hbd
  have B1 := hb0.trans (hbd.mono hb0.size)
  generalize w0.drew = w1 at *
  clear k0 s0 ra0 rb0 hb0 hbd
  have hS : BetS bx (.slice A1 n1 c1) (.slice A2 n2 c2) (.slice A3 n3 c3) w1 := ⟨k1.cell 0, k1.cell 1, k1.cell 2⟩
  refine' wpAnyT_take (i := 0) (v := _) ?hiT0 (by kernel_rfl) ?hQT0 (Or.inl ⟨?hwT0, ?hyT0⟩) hS ?reT0
  case hiT0 => (simp only [List.getElem?_toArray, List.getElem?_cons_zero]; rfl)
  case hQT0 => exact fun _ _ _ h => h
  case hwT0 => rfl
  case hyT0 => (intro wS hSw; obtain ⟨_, _, _⟩ := hSw; go_simp; (try with_reducible rfl))
  try simp only [Act.put, List.setIfInBounds_toArray, List.set_cons_zero, List.set_cons_succ]
  refine' wpAnyT_take (i := 1) (v := _) ?hiT1 (by kernel_rfl) ?hQT1 (Or.inl ⟨?hwT1, ?hyT1⟩) hS ?reT1
  case hiT1 => (simp only [List.getElem?_toArray, List.getElem?_cons_succ, List.getElem?_cons_zero]; rfl)
  case hQT1 => exact fun _ _ _ h => h
  case hwT1 => rfl
  case hyT1 => (intro wS hSw; obtain ⟨_, _, _⟩ := hSw; go_simp; (try with_reducible rfl))
  try simp only [Act.put, List.setIfInBounds_toArray, List.set_cons_zero, List.set_cons_succ]
  refine wpAnyT_ready (rs := [2]) (by kernel_rfl) (by simp) ?_
  refine' AllReadyT.cons ?hi2 (fun K hK => ?st2) AllReadyT.nil
  case hi2 => (simp only [List.getElem?_toArray, List.getElem?_cons_succ, List.getElem?_cons_zero]; rfl)
  go_simp
  refine (HSa.out _ ra1).mono ?_
  rintro e w2 ⟨A7, c7, rfl, u7, m7, m8, _, hb2⟩
  have k2 := k1.call hb2
  have s2 := s1.on hb2
  have ra2 := RI.on ra1 hb2
  have rb2 := RI.on rb1 hb2
  have B2 := B1.trans (hb2.mono B1.size)
  refine hK.out _ _ (fun _ => ⟨k2.cell 0, k2.cell 1, k2.cell 2⟩) (fun hS => ?_)
  clear hK K hb2 k1 s1 ra1 rb1 B1
  replace hS := hS rfl
  try simp only [Act.put, List.setIfInBounds_toArray, List.set_cons_zero, List.set_cons_succ]
  have HC2 := Lib.hid (HCa.out A7 PA.length c7 w2 s2 rfl (Nat.le_trans m7 m8) u7)
  generalize PA.length = pal at *
  refine wpAnyT_ready (rs := [3]) (by kernel_rfl) (by simp) ?_
  refine' AllReadyT.cons ?hi3 (fun K hK => ?st3) AllReadyT.nil
  case hi3 => (simp only [List.getElem?_toArray, List.getElem?_cons_succ, List.getElem?_cons_zero]; rfl)
  go_simp
  refine HC2.out.mono ?_
  rintro e w3 ⟨rfl, hb3⟩
  have k3 := k2.call hb3
  have s3 := s2.on hb3
  have ra3 := RI.on ra2 hb3
  have rb3 := RI.on rb2 hb3
  have B3 := B2.trans (hb3.mono B2.size)
  refine hK.out _ _ (fun _ => ⟨k3.cell 0, k3.cell 1, k3.cell 2⟩) (fun hS => ?_)
  clear hK K hb3 k2 s2 ra2 rb2 B2 HC2 u7
  replace hS := hS rfl
  try simp only [Act.put, List.setIfInBounds_toArray, List.set_cons_zero, List.set_cons_succ]
  refine' wpAnyT_take (i := 4) (v := _) ?hiT4 (by kernel_rfl) ?hQT4 (Or.inl ⟨?hwT4, ?hyT4⟩) hS ?reT4
  case hiT4 => (simp only [List.getElem?_toArray, List.getElem?_cons_succ, List.getElem?_cons_zero]; rfl)
  case hQT4 => exact fun _ _ _ h => h
  case hwT4 => rfl
  case hyT4 => (intro wS hSw; obtain ⟨_, _, _⟩ := hSw; go_simp; (try with_reducible rfl))
  try simp only [Act.put, List.setIfInBounds_toArray, List.set_cons_zero, List.set_cons_succ]
  refine' wpAnyT_take (i := 5) (v := _) ?hiT5 (by kernel_rfl) ?hQT5 (Or.inl ⟨?hwT5, ?hyT5⟩) hS ?reT5
  case hiT5 => (simp only [List.getElem?_toArray, List.getElem?_cons_succ, List.getElem?_cons_zero]; rfl)
  case hQT5 => exact fun _ _ _ h => h
  case hwT5 => rfl
  case hyT5 => (intro wS hSw; obtain ⟨_, _, _⟩ := hSw; go_simp; (try with_reducible rfl))
  try simp only [Act.put, List.setIfInBounds_toArray, List.set_cons_zero, List.set_cons_succ]
  refine' wpAnyT_take (i := 6) (v := _) ?hiT6 (by kernel_rfl) ?hQT6 (Or.inl ⟨?hwT6, ?hyT6⟩) hS ?reT6
  case hiT6 => (simp only [List.getElem?_toArray, List.getElem?_cons_succ, List.getElem?_cons_zero]; rfl)
  case hQT6 => exact fun _ _ _ h => h
  case hwT6 => rfl
  case hyT6 => (intro wS hSw; obtain ⟨_, _, _⟩ := hSw; go_simp; (try with_reducible rfl))
  try simp only [Act.put, List.setIfInBounds_toArray, List.set_cons_zero, List.set_cons_succ]
  refine' wpAnyT_take (i := 7) (v := _) ?hiT7 (by kernel_rfl) ?hQT7 (Or.inl ⟨?hwT7, ?hyT7⟩) hS ?reT7
  case hiT7 => (simp only [List.getElem?_toArray, List.getElem?_cons_succ, List.getElem?_cons_zero]; rfl)
  case hQT7 => exact fun _ _ _ h => h
  case hwT7 => rfl
  case hyT7 => (intro wS hSw; obtain ⟨_, _, _⟩ := hSw; go_simp; (try with_reducible rfl))
  try simp only [Act.put, List.setIfInBounds_toArray, List.set_cons_zero, List.set_cons_succ]
  refine' wpAnyT_take (i := 8) (v := _) ?hiT8 (by kernel_rfl) ?hQT8 (Or.inl ⟨?hwT8, ?hyT8⟩) hS ?reT8
  case hiT8 => (simp only [List.getElem?_toArray, List.getElem?_cons_succ, List.getElem?_cons_zero]; rfl)
  case hQT8 => exact fun _ _ _ h => h
  case hwT8 => rfl
  case hyT8 => (intro wS hSw; obtain ⟨_, _, _⟩ := hSw; go_simp; (try with_reducible rfl))
  try simp only [Act.put, List.setIfInBounds_toArray, List.set_cons_zero, List.set_cons_succ]
  refine wpAnyT_done (by kernel_rfl) ?_ _
  refine noPanic_normal ?_
  clear hS
  go_upto_region 2 with fail
  refine wp_noPanic ?_
  refine wp_region_T (BetS bx (.slice A1 n1 c1) (.slice A2 n2 c2) (.slice A3 n3 c3)) [] (by kernel_rfl) ?_
  have hbd : Below w3.heap.size w3 w3.drew := (Below.refl _ _).drew
  have k4 := k3.call hbd
  have s4 := s3.on hbd
  have ra4 := RI.on ra3 hbd
  have rb4 := RI.on rb3 hbd
  have B4 := B3.trans (hbd.mono B3.size)
  generalize w3.drew = w4 at *
  clear k3 s3 ra3 rb3 B3 hbd
  have hS : BetS bx (.slice A1 n1 c1) (.slice A2 n2 c2) (.slice A3 n3 c3) w4 := ⟨k4.cell 0, k4.cell 1, k4.cell 2⟩
  refine' wpAnyT_take (i := 0) (v := _) ?hiT0q (by kernel_rfl) ?hQT0q (Or.inl ⟨?hwT0q, ?hyT0q⟩) hS ?reT0q
  case hiT0q => (simp only [List.getElem?_toArray, List.getElem?_cons_zero]; rfl)
  case hQT0q => exact fun _ _ _ h => h
  case hwT0q => rfl
  case hyT0q => (intro wS hSw; obtain ⟨_, _, _⟩ := hSw; go_simp; (try with_reducible rfl))
  try simp only [Act.put, List.setIfInBounds_toArray, List.set_cons_zero, List.set_cons_succ]
  refine' wpAnyT_take (i := 1) (v := _) ?hiT1q (by kernel_rfl) ?hQT1q (Or.inl ⟨?hwT1q, ?hyT1q⟩) hS ?reT1q
  case hiT1q => (simp only [List.getElem?_toArray, List.getElem?_cons_succ, List.getElem?_cons_zero]; rfl)
  case hQT1q => exact fun _ _ _ h => h
  case hwT1q => rfl
  case hyT1q => (intro wS hSw; obtain ⟨_, _, _⟩ := hSw; go_simp; (try with_reducible rfl))
  try simp only [Act.put, List.setIfInBounds_toArray, List.set_cons_zero, List.set_cons_succ]
  refine wpAnyT_ready (rs := [2]) (by kernel_rfl) (by simp) ?_
  refine' AllReadyT.cons ?hi2q (fun K hK => ?st2q) AllReadyT.nil
  case hi2q => (simp only [List.getElem?_toArray, List.getElem?_cons_succ, List.getElem?_cons_zero]; rfl)
  go_simp
  refine (HSb.out _ rb4).mono ?_
  rintro e w5 ⟨A8, c8, rfl, u8, m5, m6, _, hb5⟩
  have k5 := k4.call hb5
  have s5 := s4.on hb5
  have ra5 := RI.on ra4 hb5
  have rb5 := RI.on rb4 hb5
  have B5 := B4.trans (hb5.mono B4.size)
  refine hK.out _ _ (fun _ => ⟨k5.cell 0, k5.cell 1, k5.cell 2⟩) (fun hS => ?_)
  clear hK K hb5 k4 s4 ra4 rb4 B4
  replace hS := hS rfl
  try simp only [Act.put, List.setIfInBounds_toArray, List.set_cons_zero, List.set_cons_succ]
  have HC5 := Lib.hid (HCb.out A8 PB.length c8 w5 s5 rfl (Nat.le_trans m5 m6) u8)
  generalize PB.length = pbl at *
  refine wpAnyT_ready (rs := [3]) (by kernel_rfl) (by simp) ?_
  refine' AllReadyT.cons ?hi3q (fun K hK => ?st3q) AllReadyT.nil
  case hi3q => (simp only [List.getElem?_toArray, List.getElem?_cons_succ, List.getElem?_cons_zero]; rfl)
  go_simp
  refine HC5.out.mono ?_
  rintro e w6 ⟨rfl, hb6⟩
  have k6 := k5.call hb6
  have ra6 := RI.on ra5 hb6
  have rb6 := RI.on rb5 hb6
  have B6 := B5.trans (hb6.mono B5.size)
  refine hK.out _ _ (fun _ => ⟨k6.cell 0, k6.cell 1, k6.cell 2⟩) (fun hS => ?_)
  clear hK K hb6 k5 s5 ra5 rb5 B5 HC5 u8
  replace hS := hS rfl
  try simp only [Act.put, List.setIfInBounds_toArray, List.set_cons_zero, List.set_cons_succ]
  refine' wpAnyT_take (i := 4) (v := _) ?hiT4q (by kernel_rfl) ?hQT4q (Or.inl ⟨?hwT4q, ?hyT4q⟩) hS ?reT4q
  case hiT4q => (simp only [List.getElem?_toArray, List.getElem?_cons_succ, List.getElem?_cons_zero]; rfl)
  case hQT4q => exact fun _ _ _ h => h
  case hwT4q => rfl
  case hyT4q => (intro wS hSw; obtain ⟨_, _, _⟩ := hSw; go_simp; (try with_reducible rfl))
  try simp only [Act.put, List.setIfInBounds_toArray, List.set_cons_zero, List.set_cons_succ]
  refine' wpAnyT_take (i := 5) (v := _) ?hiT5q (by kernel_rfl) ?hQT5q (Or.inl ⟨?hwT5q, ?hyT5q⟩) hS ?reT5q
  case hiT5q => (simp only [List.getElem?_toArray, List.getElem?_cons_succ, List.getElem?_cons_zero]; rfl)
  case hQT5q => exact fun _ _ _ h => h
  case hwT5q => rfl
  case hyT5q => (intro wS hSw; obtain ⟨_, _, _⟩ := hSw; go_simp; (try with_reducible rfl))
  try simp only [Act.put, List.setIfInBounds_toArray, List.set_cons_zero, List.set_cons_succ]
  refine' wpAnyT_take (i := 6) (v := _) ?hiT6q (by kernel_rfl) ?hQT6q (Or.inl ⟨?hwT6q, ?hyT6q⟩) hS ?reT6q
  case hiT6q => (simp only [List.getElem?_toArray, List.getElem?_cons_succ, List.getElem?_cons_zero]; rfl)
  case hQT6q => exact fun _ _ _ h => h
  case hwT6q => rfl
  case hyT6q => (intro wS hSw; obtain ⟨_, _, _⟩ := hSw; go_simp; (try with_reducible rfl))
  try simp only [Act.put, List.setIfInBounds_toArray, List.set_cons_zero, List.set_cons_succ]
  refine' wpAnyT_take (i := 7) (v := _) ?hiT7q (by kernel_rfl) ?hQT7q (Or.inl ⟨?hwT7q, ?hyT7q⟩) hS ?reT7q
  case hiT7q => (simp only [List.getElem?_toArray, List.getElem?_cons_succ, List.getElem?_cons_zero]; rfl)
  case hQT7q => exact fun _ _ _ h => h
  case hwT7q => rfl
  case hyT7q => (intro wS hSw; obtain ⟨_, _, _⟩ := hSw; go_simp; (try with_reducible rfl))
  try simp only [Act.put, List.setIfInBounds_toArray, List.set_cons_zero, List.set_cons_succ]
  refine' wpAnyT_take (i := 8) (v := _) ?hiT8q (by kernel_rfl) ?hQT8q (Or.inl ⟨?hwT8q, ?hyT8q⟩) hS ?reT8q
  case hiT8q => (simp only [List.getElem?_toArray, List.getElem?_cons_succ, List.getElem?_cons_zero]; rfl)
  case hQT8q => exact fun _ _ _ h => h
  case hwT8q => rfl
  case hyT8q => (intro wS hSw; obtain ⟨_, _, _⟩ := hSw; go_simp; (try with_reducible rfl))
  try simp only [Act.put, List.setIfInBounds_toArray, List.set_cons_zero, List.set_cons_succ]
  refine wpAnyT_done (by kernel_rfl) ?_ _
  refine noPanic_normal ?_
  clear hS k6 HSa HSb HCa HCb
  cases hx : (xa != xb) with
  | true =>
    have hR2 : Hid (R = decide (xa < xb)) := Lib.hid (by rw [hR.out, if_pos hx])
    go_wp2_with fail
    go_ret
    exact ⟨ret_bool hR2.out.symm, B6⟩
  | false =>
    cases hy : (ya != yb) with
    | true =>
      have hR2 : Hid (R = decide (ya < yb)) := Lib.hid (by rw [hR.out, if_neg (by simp [hx]), if_pos hy])
      go_wp2_with fail
      go_ret
      exact ⟨ret_bool hR2.out.symm, B6⟩
    | false =>
      have hR2 : Hid (R = lexF (a.drop 0) (b.drop 0)) := Lib.hid (by rw [hR.out, if_neg (by simp [hx]), if_neg (by simp [hy])]; rfl)
      go_wp2_with fail
      go_loopw [11] (fun i wr => ∃ k : Nat, k ≤ n ∧ i = .int .i64 k ∧ Hid (R = lexF (a.drop k) (b.drop k)) ∧ Below w6.heap.size w6 wr) (fun i _ => n - (intOf i).toNat)
      case atStart => exact ⟨0, by omega, rfl, hR2, Below.refl _ _⟩
      case round =>
        clear hR2
        obtain ⟨k, hk, rfl, hR2, hB⟩ := hrel
        have B7 := B6.trans (hB.mono B6.size)
        by_cases hlt : k < n
        · have hlt' : decide ((k : Int) < (n : Int)) = true := by simpa using hlt
          obtain ⟨p1, o1, hA1, _, d1⟩ := (RI.on ra6 hB).at_ (k := k) (by have := hla2.out; omega)
          obtain ⟨p2, o2, hA2, _, d2⟩ := (RI.on rb6 hB).at_ (k := k) (by have := hlb2.out; omega)
          have hR3 := hR2.out
          rw [Go.Pol.drop_cons 0 a k (by have := hla2.out; omega), Go.Pol.drop_cons 0 b k (by have := hlb2.out; omega), lexF] at hR3
          generalize a.getD k 0 = u at *
          generalize b.getD k 0 = v at *
          have e1 := fun z : Ext wr => z.cell d1
          have e2 := fun z : Ext wr => z.cell d2
          subst hA1
          subst hA2
          cases huv : (u != v) with
          | true =>
            have hR4 : Hid (R = decide (u < v)) := Lib.hid (by rw [hR3, if_pos huv])
            clear hR3 hR2
            go_upto_region 10 with fail
            refine region_ext (by kernel_rfl) (by kernel_rfl) ?_
            repeat (go_big_quiet_step (fail))
            refine wpQuiet_nil ?_
            rintro w8 ⟨⟨_, hw8⟩, rfl⟩
            have f1 := fun z : Ext w8 => z.cell ((hw8.cell (World.block_lt_of_cell? _ _ d1)).trans d1)
            have f2 := fun z : Ext w8 => z.cell ((hw8.cell (World.block_lt_of_cell? _ _ d2)).trans d2)
            clear e1 e2
            go_upto_region 11 with fail
            refine region_ext (by kernel_rfl) (by kernel_rfl) ?_
            repeat (go_big_quiet_step (fail))
            refine wpQuiet_nil ?_
            rintro w9 ⟨⟨_, hw9⟩, rfl⟩
            go_wp2_with fail
            go_ret
            exact ⟨ret_bool hR4.out.symm, B7.trans ((hw8.trans (hw9.mono hw8.size)).mono B7.size)⟩
          | false =>
            have hR4 : Hid (R = lexF (a.drop (k + 1)) (b.drop (k + 1))) := Lib.hid (by rw [hR3, if_neg (by simp [huv])])
            clear hR3 hR2
            go_upto_region 10 with fail
            refine region_ext (by kernel_rfl) (by kernel_rfl) ?_
            repeat (go_big_quiet_step (fail))
            refine wpQuiet_nil ?_
            rintro w8 ⟨⟨_, hw8⟩, rfl⟩
            go_wp2_with fail
            go_roundw
            case rel => exact ⟨k + 1, by omega, by go_num, hR4, hB.trans (hw8.mono hB.size)⟩
            case measure => simp [intOf]; omega
        · obtain rfl : k = n := by omega
          have hlt' : decide ((k : Int) < (k : Int)) = false := by simp
          have hR3 : Hid (R = false) := Lib.hid (by rw [hR2.out, List.drop_of_length_le (by have := hla2.out; omega)]; simp [lexF])
          clear hR2
          go_wp2_with fail
          go_ret
          exact ⟨ret_bool hR3.out.symm, B7⟩
end Go.Proofs.Ytmpakobfedgdbaa
namespace Go.Pol
open Go
/-- is a page in a huge group whose bit is not set? -/
def blkd (H : List Int) (set : Nat) (p : Int) (j : Nat) : Bool := (List.range j).any fun k => (p / 16 == H.getD k 0) && (set / 2 ^ k % 2 == 0)
theorem blkd_succ (H : List Int) (set : Nat) (p : Int) (j : Nat) : blkd H set p (j + 1) = (blkd H set p j || ((p / 16 == H.getD j 0) && (set / 2 ^ j % 2 == 0))) := by
  unfold blkd
  rw [List.range_succ, List.any_append]; simp
/-- the first so many pages that are not -/
def firR (H : List Int) (set : Nat) (n : Nat) (l : List Int) : List Int := (l.filter fun p => !blkd H set p H.length).take n
theorem firR_snoc (H : List Int) (set n : Nat) (l : List Int) (p : Int) (h : (firR H set n l).length < n) : firR H set n (l ++ [p]) = firR H set n l ++ if blkd H set p H.length = true then [] else [p] := by
  unfold firR at h ⊢
  rw [List.filter_append]
  have h1 : (l.filter fun p => !blkd H set p H.length).length < n := by
    rw [List.length_take] at h; omega
  rw [List.take_of_length_le (Nat.le_of_lt h1)]
  cases hb : blkd H set p H.length with
  | true => rw [show [p].filter (fun p => !blkd H set p H.length) = [] by simp [hb], List.append_nil, if_pos rfl, List.append_nil, List.take_of_length_le (Nat.le_of_lt h1)]
  | false => rw [show [p].filter (fun p => !blkd H set p H.length) = [p] by simp [hb], if_neg (by simp), List.take_of_length_le (by rw [List.length_append, List.length_singleton]; omega)]
theorem firR_full (H : List Int) (set n : Nat) (l : List Int) (i : Nat) (h : n ≤ (firR H set n (l.take i)).length) : firR H set n l = firR H set n (l.take i) := by
  unfold firR at h ⊢
  rw [List.length_take] at h
  conv => lhs; rw [← List.take_append_drop i l, List.filter_append]
  rw [List.take_append_of_le_length (by omega)]
theorem firR_len (H : List Int) (set n : Nat) (l : List Int) : (firR H set n l).length ≤ n := by unfold firR; rw [List.length_take]; omega
end Go.Pol
namespace Go.Proofs.Ytmpakobfedgdbaa
open Go Go.Proofs Go.RowKit Go.Pol Go.Shelf
attribute [local go_sem] Oper.semAt_some Go.Pol.wide_fn Go.Pol.wide_depth Go.Pol.wide_fn' Go.Pol.wide_depth'

set_option maxRecDepth 100000 in
set_option maxHeartbeats 3200000 in
theorem first13_any (S : Value) (C L : List Sp) (H : List Int) (A : Option Addr) (m cap : Nat) (l : List Int) (set n : Nat) (w : World) (hS : StIs w S C L H) (h64 : H.length ≤ 5) (hm : l.length = m) (hm2 : m ≤ 1024) (hr : RI w w.heap.size A l) (hl : ∀ p ∈ l, 0 ≤ p ∧ p < 1024) (hn : n ≤ 1024) :
    Calls Try.prog 41 #[S, .slice A m cap, .int .i64 set, .int .i64 n] w (IntsO (firR H set n l) w) := by
  obtain ⟨i0, hi, hz0, hz1, hz2⟩ := info_parts infoIn
  have hS' := hS
  obtain ⟨A1, A2, A3, n1, c1, n2, c2, n3, c3, rfl, h1, h2, h3, h4, h5, h6, h7, h8, h9⟩ := hS.ex
  have hb0 := (Below.refl w.heap.size w).alloc (Nat.le_refl _) (.cells #[.slice A1 n1 c1, .slice A2 n2 c2, .slice A3 n3 c3] 25)
  have k0 := Blk.new w 25 #[.slice A1 n1 c1, .slice A2 n2 c2, .slice A3 n3 c3]
  have s0 := hS'.on hb0
  have r0 := RI.on hr hb0
  have hn3 := Lib.hid h7
  rw [h7] at h64
  have hm' := Lib.hid hm
  have hl' := Lib.hid hl
  obtain ⟨R, hR⟩ : ∃ R, firR H set n l = R := ⟨_, rfl⟩
  rw [hR]
  have hR' := Lib.hid hR
  clear hS hS' h1 h2 h3 h4 h5 h6 h7 h8 h9 hr hl hm hR
  go_enter Try.func41, Try.ntmps41
  go_upto_region 1 with fail
  generalize w.alloc (.cells #[.slice A1 n1 c1, .slice A2 n2 c2, .slice A3 n3 c3] 25) = w1 at *
  go_wp2_with fail
  have hq0 : firR H set n (l.take 0) = [] := by simp [firR]
  go_loopw [9, 10] (fun v i wr => ∃ (k : Nat) (o : List Int), k ≤ m ∧ i = .int .i64 k ∧ Hid (firR H set n (l.take k) = o) ∧ o.length ≤ n ∧ wr.ownsRow w1.heap.size 3 1 v o.length (o.map (Value.int .i64)) ∧ Below w1.heap.size w1 wr) (fun _ i _ => m - (intOf i).toNat)
  case atStart => exact ⟨0, [], by omega, rfl, Lib.hid hq0, by simp, World.ownsRow_nil _ _ _ _, Below.refl _ _⟩
  case round =>
    clear hq0
    obtain ⟨k, o, hk, rfl, hfo, hol, hrow, hB⟩ := hrel
    have k2 := k0.call hB
    have s2 := s0.on hB
    have r2 := RI.on r0 hB
    have B2 := hb0.trans (hB.mono hb0.size)
    obtain ⟨A', cap', rfl, hru⟩ := own_RIx hrow rfl
    by_cases hlt : k < m
    case neg =>
      obtain rfl : k = m := by omega
      have hlt' : decide ((k : Int) < (k : Int)) = false := by simp
      have hR2 : R = o := by rw [← hR'.out, ← hfo.out, List.take_of_length_le (by have := hm'.out; omega)]
      subst hR2
      go_wp2_with fail
      go_ret
      exact ⟨A', cap', rfl, hru, B2⟩
    case pos =>
      have hlt' : decide ((k : Int) < (m : Int)) = true := by simpa using hlt
      by_cases hfull : o.length < n
      case neg =>
        have hf' : decide ((o.length : Int) < (n : Int)) = false := by simpa using hfull
        have hR2 : R = o := by rw [← hR'.out, ← hfo.out, firR_full H set n l k (by rw [hfo.out]; omega)]
        subst hR2
        go_wp2_with fail
        go_ret
        exact ⟨A', cap', rfl, hru, B2⟩
      case pos =>
        have hf' : decide ((o.length : Int) < (n : Int)) = true := by simpa using hfull
        have hts := take_snocI l k (by have := hm'.out; omega)
        have hsn := firR_snoc H set n (l.take k) (l.getD k 0) (by rw [hfo.out]; exact hfull)
        rw [← hts, hfo.out, hn3.out] at hsn
        have hx := hl'.out _ (getD_memI (bs := l) (k := k) (by have := hm'.out; omega))
        obtain ⟨b, oo, hA9, _, c5⟩ := r2.at_ (k := k) (by have := hm'.out; omega)
        generalize l.getD k 0 = x at *
        obtain ⟨p, rfl⟩ : ∃ p : Nat, x = (p : Int) := ⟨x.toNat, by omega⟩
        have hsn' := Lib.hid hsn
        subst hA9
        obtain ⟨ol, hol2⟩ : ∃ ol, o.length = ol := ⟨_, rfl⟩
        rw [hol2] at hf' hrow hol hfull
        have hol3 := Lib.hid hol2
        clear hsn hts r0 hol2
        rw [hol3.out]
        go_wp2_with fail
        go_loopw [11, 12] (fun t j wq => ∃ q : Nat, q ≤ n3 ∧ j = .int .i64 q ∧ t = .bool (!blkd H set p q) ∧ Below wr.heap.size wr wq) (fun _ j _ => n3 - (intOf j).toNat)
        case atStart => exact ⟨0, by omega, rfl, by simp [blkd], Below.refl _ _⟩
        case round =>
          obtain ⟨q, hq, rfl, htt, hB3⟩ := hrel
          have k3 := k2.call hB3
          have s3 := s2.on hB3
          have ck3 := k3.cell
          have d5 := (hB3.cell (World.block_lt_of_cell? _ _ c5)).trans c5
          by_cases hltq : q < n3
          case neg =>
            obtain rfl : q = n3 := by omega
            have hltq' : decide ((q : Int) < (q : Int)) = false := by simp
            have hrow4 := ownsRow_call hrow hB3
            have hB4 := hB.trans (hB3.mono hB.size)
            subst htt
            clear hrow
            cases hbk : blkd H set p q with
            | true =>
              have hfo2 : Hid (firR H set n (l.take (k + 1)) = o) := Lib.hid (by rw [hsn'.out, hbk, if_pos rfl, List.append_nil])
              clear hbk hsn'
              go_wp2_with fail
              go_roundw
              case rel => exact ⟨k + 1, o, by omega, by go_num, hfo2, by rw [hol3.out]; omega, by rw [hol3.out]; exact hrow4, hB4⟩
              case measure => simp [intOf]; omega
            | false =>
              have hfo2 : Hid (firR H set n (l.take (k + 1)) = o ++ [(p : Int)]) := Lib.hid (by rw [hsn'.out, hbk, if_neg (by simp)])
              clear hbk hsn'
              have kN := Blk.new wr 3 #[.int .i64 (p : Int)]
              have hbN : Below wr.heap.size wr (wr.alloc (.cells #[.int .i64 (p : Int)] 3)) := (Below.refl _ _).alloc (Nat.le_refl _) _
              have hol4 := hol3.out
              clear c5
              go_wp2_with (refine wpList_append_own _ rfl (.tmp 51) (.tmp 56) 23 rfl w1.heap.size 3 i0 (.int .i64 0) 1 8 Try.underlying23 hi hz0 hz1 hz2 rfl (by decide) _ ol (o.map (Value.int .i64)) rfl (hrow4.alloc _) ⟨wr.heap.size, 0, none⟩ 1 1 [.int .i64 (p : Int)] rfl rfl (news_i kN) ints_one (by unfold maxLen; omega) (by omega) (by have := hB4.size; simp; omega) ?_; intro v' w7 hown' hgrow _; rw [show o.map (Value.int .i64) ++ [Value.int .i64 (p : Int)] = (o ++ [(p : Int)]).map (Value.int .i64) by simp] at hown')
              go_roundw
              case rel => exact ⟨k + 1, o ++ [(p : Int)], by omega, by go_num, hfo2, by rw [List.length_append, List.length_singleton]; omega, by rw [List.length_append, List.length_singleton, hol3.out]; exact hown', (hB4.trans (hbN.mono hB4.size)).grown hgrow (by have := hB4.size; simp; omega) (fun g hg => by have := (hrow4.lt g hg).1; omega)⟩
              case measure => simp [intOf]; omega
          case pos =>
            have hltq' : decide ((q : Int) < (n3 : Int)) = true := by simpa using hltq
            have hbs := blkd_succ H set p q
            obtain ⟨b2, o2, hA8, _, d6⟩ := s3.parts.2.2.at_ (k := q) (by have := hn3.out; omega)
            generalize H.getD q 0 = x at *
            obtain ⟨bt, hbt⟩ : ∃ bt, set / 2 ^ q = bt := ⟨_, rfl⟩
            have hsh : ((set : Int) / 2 ^ q) = (bt : Int) := by rw [← hbt]; simp
            obtain ⟨pq, hpq⟩ : ∃ pq, p / 16 = pq := ⟨_, rfl⟩
            have hpd : ((p : Int) / 16) = (pq : Int) := by omega
            rw [hbt, hpd] at hbs
            have hbs' := Lib.hid hbs
            have e1 := fun z : Ext wr => (z.blk k3).cell
            have e2 := fun z : Ext wr => z.cell d5
            have e3 := fun z : Ext wr => z.cell d6
            clear hbs hbt hpq
            subst hA8
            subst htt
            generalize blkd H set p q = bq at *
            cases hx1 : ((pq : Int) == x) with
            | false =>
              have hbs2 : Hid (blkd H set p (q + 1) = bq) := Lib.hid (by rw [hbs'.out, hx1]; simp)
              go_upto_region 9 with fail
              refine region_ext (by kernel_rfl) (by kernel_rfl) ?_
              repeat (go_big_quiet_step (fail))
              refine wpQuiet_nil ?_
              rintro w8 ⟨⟨_, hw8⟩, rfl⟩
              go_wp2_with fail
              go_roundw
              case rel => exact ⟨q + 1, by omega, by go_num, by rw [hbs2.out], hB3.trans (hw8.mono hB3.size)⟩
              case measure => simp [intOf]; omega
            | true =>
              have hq63 : (0 : Int) ≤ (q : Int) := by omega
              cases hbz : (bt % 2 == 0) with
              | false =>
                have hbz2 : ((bt : Int) % 2 == 0) = false := by simp at hbz ⊢; omega
                have hbs2 : Hid (blkd H set p (q + 1) = bq) := Lib.hid (by rw [hbs'.out, hbz]; simp)
                clear hbz
                go_upto_region 9 with fail
                refine region_ext (by kernel_rfl) (by kernel_rfl) ?_
                repeat (go_big_quiet_step (fail))
                refine wpQuiet_nil ?_
                rintro w8 ⟨⟨_, hw8⟩, rfl⟩
                go_wp2_with fail
                go_roundw
                case rel => exact ⟨q + 1, by omega, by go_num, by rw [hbs2.out], hB3.trans (hw8.mono hB3.size)⟩
                case measure => simp [intOf]; omega
              | true =>
                have hbz2 : ((bt : Int) % 2 == 0) = true := by simp at hbz ⊢; omega
                have hbs2 : Hid (blkd H set p (q + 1) = true) := Lib.hid (by rw [hbs'.out, hbz, hx1]; simp)
                clear hbz
                go_upto_region 9 with fail
                refine region_ext (by kernel_rfl) (by kernel_rfl) ?_
                repeat (go_big_quiet_step (fail))
                refine wpQuiet_nil ?_
                rintro w8 ⟨⟨_, hw8⟩, rfl⟩
                go_wp2_with fail
                go_roundw
                case rel => exact ⟨q + 1, by omega, by go_num, by rw [hbs2.out]; rfl, hB3.trans (hw8.mono hB3.size)⟩
                case measure => simp [intOf]; omega
end Go.Proofs.Ytmpakobfedgdbaa
