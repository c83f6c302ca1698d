/- Walks: a copy of blocks; the blocks after moves (the program). -/
import Derived.Lib.AppendZerosOnto
import Derived.Laws.AppendOwn
import Derived.Deep.RegionHeld
import Derived.Test.YtifdgabfnnkghaaVWalkI
namespace Go.Pol
open Go Go.RowKit
theorem tCells_set : ∀ (bs : List B3) (k : Nat) (y : Int), k < bs.length → (tCells bs).set (k * 3) (.int .i64 y) = tCells (bs.set k (y, (bs.getD k b0).2))
  | [], k, y, h => by simp at h
  | x :: r, 0, y, _ => by simp [tCells]
  | x :: r, k + 1, y, h => by
    have ih := tCells_set r k y (by simpa using h)
    have e : tCells (x :: r) = .int .i64 x.1 :: .int .i64 x.2.1 :: .bool x.2.2 :: tCells r := by simp [tCells]
    rw [e, show (k + 1) * 3 = k * 3 + 1 + 1 + 1 by omega]
    simp only [List.set_cons_succ, ih]
    simp [tCells]
theorem RT.src {w : World} {A : Option Addr} {bs : List B3} (h : RT w w.heap.size A bs) : (A = none ∧ bs = []) ∨ ∃ ad, A = some ad ∧ ∀ (j : Nat) (u : Value), (tCells bs)[j]? = some u → w.cell? (ad.add j) = some u := by
  by_cases h0 : bs = []
  · subst h0
    cases A with
    | none => exact .inl ⟨rfl, rfl⟩
    | some ad => exact .inr ⟨ad, rfl, fun j u hu => by simp [tCells] at hu⟩
  · obtain ⟨b, o, rfl, _⟩ := h.at_ (k := 0) (List.length_pos_iff.2 h0)
    refine .inr ⟨⟨b, o, none⟩, rfl, fun j u hu => ?_⟩
    have hl := tCells_len bs
    have hj : j < bs.length * 3 := by
      rw [← hl]; exact (List.getElem?_eq_some_iff.1 hu).1
    obtain ⟨k, hk⟩ : ∃ k, j = k * 3 ∨ j = k * 3 + 1 ∨ j = k * 3 + 2 := ⟨j / 3, by omega⟩
    obtain ⟨b', o', e, _, h1, h2, h3⟩ := h.at_ (k := k) (by omega)
    cases e
    have hat := tCells_at bs k (by omega)
    rw [Addr.add_lit]
    rcases hk with rfl | rfl | rfl
    · rw [hat.1] at hu; rw [← hu]; exact h1
    · rw [hat.2.1] at hu; rw [← hu]; exact h2
    · rw [hat.2.2] at hu; rw [← hu]; exact h3
end Go.Pol
namespace Go.Proofs.Ytifdgabfnnkghaa
open Go Go.Proofs Go.RowKit Go.Pol Go.Shelf

theorem run_equalIn_slice_nil {P : Program} (w : World) (d : Nat) (t e : TypeId) (A : Option Addr) (n c : Nat) (h : P.underlying t = some (.slice e)) :
    (Op.equalIn (d + 1) t (.slice A n c) (.slice none 0 0)).run P w = .ok A.isNone w := by
  cases A <;> simp [Op.equalIn, run_underlying h]
theorem eql_nil (A : Option Addr) (n c : Nat) (w : World) : (binOp .eql 22 (.slice A n c) (.slice none 0 0)).run Try.prog w = .ok (.bool A.isNone) w := by
  simp only [binOp]
  simp [Op.equal, Op.maxDepth, run_equalIn_slice_nil w 9999 _ _ A n c Try.underlying22]
set_option maxRecDepth 100000 in
theorem clone_any (A : Option Addr) (n cap : Nat) (bs : List B3) (w : World) (hn : bs.length = n) (hm : n ≤ 1000) (hz : A = none → cap = 0) (hr : RT w w.heap.size A bs) :
    Calls Try.prog 26 #[.slice A n cap] w fun e w' => ∃ v, e = .returned v ∧ w'.ownsRow w.heap.size 44 3 v n (tCells bs) ∧ Below w.heap.size w w' := by
  obtain ⟨i0, hi, hz0, hz1, hz2⟩ := infoMv_parts
  have heq := eql_nil
  rcases hr.src with ⟨rfl, rfl⟩ | ⟨ad, rfl, hnews⟩
  · have hc := hz rfl
    subst hc
    subst hn
    go_enter Try.func26, Try.ntmps26
    go_wp2_with fail
    go_ret
    exact ⟨_, rfl, World.ownsRow_nil _ _ _ _, Below.refl _ _⟩
  · have hb1 := (Below.refl w.heap.size w).alloc (Nat.le_refl _) (.cells #[] 44)
    have hnews' : ∀ (j : Nat) (u : Value), (tCells bs)[j]? = some u → (w.alloc (.cells #[] 44)).cell? (ad.add j) = some u := fun j u hu => by rw [World.cell?_alloc_some _ _ _ (by rw [hnews j u hu]; rfl)]; exact hnews j u hu
    go_enter Try.func26, Try.ntmps26
    go_wp2_with (refine wpList_append_own _ rfl (.tmp 5) (.tmp 6) 22 rfl w.heap.size 44 i0 (.agg #[.int .i64 0, .int .i64 0, .bool false]) 3 24 Try.underlying22 hi hz0 hz1 hz2 rfl (by decide) _ 0 [] rfl (World.ownsRow_made w _ _ (Nat.le_refl _) (by unfold maxLen; omega) rfl) ad n cap (tCells bs) rfl (by rw [tCells_len, hn]) hnews' (tCells_one bs) (by unfold maxLen; omega) (by omega) (by simp) ?_; intro v' w3 hown' hgrow _)
    go_ret
    exact ⟨v', rfl, by simpa using hown', hb1.grown hgrow (by simp) (fun j hj => by cases hj; exact Nat.le_refl _)⟩

def AfterR (r : List B3 × Int) (w : World) (e : Ending) (w' : World) : Prop := ∃ (A : Option Addr) (cap : Nat), e = .returned (.tuple #[.slice A r.1.length cap, .int .i64 r.2]) ∧ RT w' w'.heap.size A r.1 ∧ Below w.heap.size w w'
theorem afterR_err {w w' : World} {c : Int} (hb : Below w.heap.size w w') : AfterR ([], c) w (.returned (.tuple #[.slice none 0 0, .int .i64 c])) w' := ⟨none, 0, rfl, RT.nil, hb⟩
set_option maxRecDepth 100000 in
set_option maxHeartbeats 1600000 in
theorem afterErr_any (pages : Int) (A M : Option Addr) (n cap mn mcap : Nat) (bs : List B3) (ms : List (Int × Int)) (w : World) (hn : bs.length = n) (hm : n ≤ maxLen) (hr : RT w w.heap.size A bs) (hmn : ms.length = mn) (hmm : mn ≤ maxLen) (hbad : chkB pages bs ≠ 0 ∨ 256 < ms.length) :
    Calls Try.prog 10 #[.int .i64 pages, .slice A n cap, .slice M mn mcap] w (AfterR (afterB pages bs ms) w) := by
  have HC := Lib.hid (check_any pages A n cap bs w hn hm hr)
  unfold maxLen at hmm
  by_cases h1 : chkB pages bs = 0
  · have h2 : 256 < ms.length := hbad.resolve_left (fun h => h h1)
    have hE : Hid (afterB pages bs ms = ([], 3)) := Lib.hid (by unfold afterB; rw [if_pos h1, if_pos h2])
    have h1' : (chkB pages bs != 0) = false := by simp [h1]
    have h2' : decide ((256 : Int) < (mn : Int)) = true := by simp; omega
    clear h1 h2 hbad hn hmn
    generalize afterB pages bs ms = R at *
    generalize chkB pages bs = ck at *
    go_enter Try.func10, Try.ntmps10
    go_wp2_with fail
    refine HC.out.mono ?_
    rintro e w1 ⟨rfl, hb1⟩
    go_wp2_with fail
    go_ret2
    rw [hE.out]
    exact afterR_err hb1
  · have hE : Hid (afterB pages bs ms = ([], chkB pages bs)) := Lib.hid (by unfold afterB; rw [if_neg h1])
    have h1' : (chkB pages bs != 0) = true := by simpa using h1
    clear h1 hbad hn hmn
    generalize afterB pages bs ms = R at *
    generalize chkB pages bs = ck at *
    go_enter Try.func10, Try.ntmps10
    go_wp2_with fail
    refine HC.out.mono ?_
    rintro e w1 ⟨rfl, hb1⟩
    go_wp2_with fail
    go_ret2
    rw [hE.out]
    exact afterR_err hb1

theorem movB_okPl {pages : Int} {bs : List B3} {k : Nat} {y : Int} (hp : pages ≤ 1024) (hk : k < bs.length) (h : possB pages bs ((k : Int), y) = 0) (hall : ∀ b ∈ bs, okPl b) : ∀ b ∈ bs.set k (y, (bs.getD k b0).2), okPl b := by
  have hI : insB pages y (bs.getD k b0).2.1 = true := by
    unfold possB at h
    rw [if_neg (by simp only; omega)] at h
    simp only [Int.toNat_natCast] at h
    split at h
    · omega
    · split at h
      · omega
      · rename_i h1
        simpa using h1
  intro b hb
  rcases List.mem_or_eq_of_mem_set hb with h | h
  · exact hall b h
  · subst h
    have h' := insB_iff.1 hI
    have := pw_pos (bs.getD k b0).2.1
    exact ⟨⟨by simp only; omega, by simp only; omega⟩, h'.1.1, h'.1.2⟩
theorem possB_in {pages : Int} {bs : List B3} {m : Int × Int} (h : possB pages bs m = 0) : 0 ≤ m.1 ∧ m.1 < bs.length := by
  unfold possB at h
  by_cases hc : m.1 < 0 ∨ (bs.length : Int) ≤ m.1
  · rw [if_pos hc] at h; omega
  · omega
set_option maxRecDepth 100000 in
set_option maxHeartbeats 3200000 in
theorem afterOk_any (pages : Int) (A M : Option Addr) (n cap mn mcap : Nat) (bs : List B3) (ms : List (Int × Int)) (w : World) (hn : bs.length = n) (hm : n ≤ maxLen) (hz : A = none → cap = 0) (hr : RT w w.heap.size A bs) (hmn : ms.length = mn) (hru : RU w w.heap.size M ms) (h1 : chkB pages bs = 0) (h2 : ms.length ≤ 256) :
    Calls Try.prog 10 #[.int .i64 pages, .slice A n cap, .slice M mn mcap] w (AfterR (afterB pages bs ms) w) := by
  have HC := Lib.hid (check_any pages A n cap bs w hn hm hr)
  have ok := chkB_ok h1
  rw [h1] at HC
  have hpg := spaceB_bound ok.space
  have hn64 : n ≤ 64 := by rw [← hn]; exact ok.len
  have hE : Hid (afterB pages bs ms = afterL pages bs ms) := Lib.hid (by unfold afterB; rw [if_pos h1, if_neg (by omega)])
  have hok0 : Hid (∀ b ∈ bs, okPl b) := Lib.hid (fun b hb => ins_okPl hpg.2 (ok.ins b hb))
  have hmn256 : mn ≤ 256 := by omega
  have h2' : decide ((256 : Int) < (mn : Int)) = false := by simp; omega
  have HCl := Lib.hid (fun W (h : RT W W.heap.size A bs) => clone_any A n cap bs W hn (by omega) hz h)
  have hn' := Lib.hid hn
  have hmn' := Lib.hid hmn
  clear h1 h2 ok hn hmn hz
  generalize afterB pages bs ms = R at *
  go_enter Try.func10, Try.ntmps10
  go_wp2_with fail
  refine HC.out.mono ?_
  rintro e w1 ⟨rfl, hb1⟩
  have r1 := hr.on hb1
  go_wp2_with fail
  refine (HCl.out _ r1).mono ?_
  rintro e w2 ⟨v, rfl, hown, hb2⟩
  have B2 := hb1.trans (hb2.mono hb1.size)
  have hbase := hb1.size
  have hbw := hb2.size
  obtain ⟨base, hbs⟩ : ∃ base, w1.heap.size = base := ⟨_, rfl⟩
  rw [hbs] at hown hbase hbw
  clear HC HCl r1 hb1 hb2 hr
  obtain ⟨A2, cap2, rfl⟩ := own_nilT hown hn'.out
  go_wp2_with fail
  go_loopw [26] (fun i wr => ∃ (k : Nat) (cs : List B3), k ≤ mn ∧ i = .int .i64 k ∧ cs.length = n ∧ wr.ownsRow base 44 3 (.slice A2 n cap2) n (tCells cs) ∧ base ≤ wr.heap.size ∧ Below w.heap.size w wr ∧ Hid (∀ b ∈ cs, okPl b) ∧ Hid (R = afterL pages cs (ms.drop k))) (fun i _ => mn - (intOf i).toNat)
  case atStart => exact ⟨0, bs, by omega, rfl, hn'.out, hown, hbw, B2, hok0, by simpa using hE⟩
  case round =>
    obtain ⟨k, cs, hk, rfl, hcs, hrow, hbr, hB, hok, hR⟩ := hrel
    have hru' := (hru.below hB).more hB.size
    have hcs' := Lib.hid hcs
    clear hcs
    by_cases hlt : k < mn
    · have hlt' : decide ((k : Int) < (mn : Int)) = true := by simpa using hlt
      obtain ⟨b, o, rfl, hbl, c1, c2⟩ := RU.at_' hru' (k := k) (by have := hmn'.out; omega)
      have hst := Lib.hid (show R = if possB pages cs (ms.getD k (0,0)) = 0 then afterL pages (movB cs (ms.getD k (0,0))) (ms.drop (k + 1)) else ([], possB pages cs (ms.getD k (0,0))) by
        rw [hR.out, Go.Pol.drop_cons (0,0) ms k (by have := hmn'.out; omega), afterL])
      generalize ms.getD k (0,0) = m at *
      obtain ⟨mk, mt⟩ := m
      simp only at c1 c2
      have hbm := hB.alloc hB.size (.cells #[.int .i64 mk, .int .i64 mt] 42)
      have kM := Blk.new wr 42 #[.int .i64 mk, .int .i64 mt]
      have hrow1 := hrow.alloc (.cells #[.int .i64 mk, .int .i64 mt] 42)
      obtain ⟨_, _, e2, hrt, _⟩ := own_RT hrow1 hcs'.out
      cases e2
      have HP := Lib.hid (possible_any pages A2 n cap2 cs (mk, mt) _ hcs'.out (by unfold maxLen; omega) hrt (by omega) hok.out)
      simp only at HP
      by_cases hpz : possB pages cs (mk, mt) = 0
      · rw [hpz] at HP
        have hin := possB_in hpz
        obtain ⟨q, rfl⟩ := Int.eq_ofNat_of_zero_le hin.1
        have hqn : q < n := by have := hcs'.out; simp only at hin; omega
        have hokm : Hid (∀ b ∈ cs.set q (mt, (cs.getD q b0).2), okPl b) := Lib.hid (movB_okPl hpg.2 (by have := hcs'.out; omega) hpz hok.out)
        have hst2 : Hid (R = afterL pages (cs.set q (mt, (cs.getD q b0).2)) (ms.drop (k + 1))) := Lib.hid (by rw [hst.out, if_pos hpz]; simp [movB])
        have hlen2 : Hid ((cs.set q (mt, (cs.getD q b0).2)).length = n) := Lib.hid (by rw [List.length_set]; exact hcs'.out)
        have hsetT := Lib.hid (tCells_set cs q mt (by have := hcs'.out; omega))
        obtain ⟨g, cq, e3, _⟩ := hrow.form (by omega)
        cases e3
        have hgb := hrow.lt g rfl
        clear hst hpz hin hR
        go_wp2_with fail
        refine HP.out.mono ?_
        rintro e w3 ⟨rfl, hb3⟩
        have B3 := hbm.trans (hb3.mono hbm.size)
        have k3 := (kM.call hb3).cell
        have hrow3 := ownsRow_call hrow1 hb3
        have hf3 := hrow3.frozenAt (q * 3)
        have hcell := hrow3.cellAt (q * 3) (by omega)
        rw [(tCells_at cs q (by have := hcs'.out; omega)).1] at hcell
        obtain ⟨hst3, hgr3⟩ := hrow3.stored (q * 3) (.int .i64 mt)
        rw [hsetT.out] at hst3
        have hg3 := hrow3.lt g rfl
        clear HP
        go_wp2_with fail
        go_roundw
        case rel => exact ⟨k + 1, _, by omega, by go_num, hlen2.out, hst3, by have := hgr3.size; omega, B3.grown hgr3 B3.size (fun j hj => by cases hj; omega), hokm, hst2⟩
        case measure => simp [intOf]; omega
      · have hRR : Hid (R = ([], possB pages cs (mk, mt))) := Lib.hid (by rw [hst.out, if_neg hpz])
        have hpz' : (possB pages cs (mk, mt) != 0) = true := by simpa using hpz
        generalize possB pages cs (mk, mt) = pe at *
        clear hst hpz hR
        go_wp2_with fail
        refine HP.out.mono ?_
        rintro e w3 ⟨rfl, hb3⟩
        go_wp2_with fail
        go_ret2
        rw [hRR.out]
        exact afterR_err (hbm.trans (hb3.mono hbm.size))
    · obtain rfl : k = mn := by omega
      have hlt' : decide ((k : Int) < (k : Int)) = false := by simp
      have hRR : Hid (R = (cs, 0)) := Lib.hid (by rw [hR.out, List.drop_of_length_le (by have := hmn'.out; omega), afterL])
      obtain ⟨_, _, e2, hrt, _⟩ := own_RT hrow hcs'.out
      cases e2
      clear hR
      go_wp2_with fail
      go_ret2
      rw [hRR.out]
      exact ⟨A2, cap2, by rw [hcs'.out]; rfl, hrt, hB⟩
theorem after_any (pages : Int) (A M : Option Addr) (n cap mn mcap : Nat) (bs : List B3) (ms : List (Int × Int)) (w : World) (hn : bs.length = n) (hm : n ≤ maxLen) (hz : A = none → cap = 0) (hr : RT w w.heap.size A bs) (hmn : ms.length = mn) (hmm : mn ≤ maxLen) (hru : RU w w.heap.size M ms) :
    Calls Try.prog 10 #[.int .i64 pages, .slice A n cap, .slice M mn mcap] w (AfterR (afterB pages bs ms) w) := by
  by_cases h1 : chkB pages bs = 0
  · by_cases h2 : ms.length ≤ 256
    · exact afterOk_any pages A M n cap mn mcap bs ms w hn hm hz hr hmn hru h1 h2
    · exact afterErr_any pages A M n cap mn mcap bs ms w hn hm hr hmn hmm (.inr (by omega))
  · exact afterErr_any pages A M n cap mn mcap bs ms w hn hm hr hmn hmm (.inl h1)
end Go.Proofs.Ytifdgabfnnkghaa
