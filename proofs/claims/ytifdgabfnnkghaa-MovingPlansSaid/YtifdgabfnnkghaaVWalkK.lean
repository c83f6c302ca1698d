/- Walks: the blocks after moves (the reference). -/
import Derived.Test.YtifdgabfnnkghaaVWalkJ
namespace Go.Proofs.Ytifdgabfnnkghaa
open Go Go.Proofs Go.RowKit Go.Pol Go.Shelf

set_option maxRecDepth 100000 in
set_option maxHeartbeats 1600000 in
theorem refAfterErr_any (pages : Int) (A M : Option Addr) (n cap mn mcap : Nat) (bs : List B3) (ms : List (Int × Int)) (w : World) (hn : bs.length = n) (hm : n ≤ maxLen) (hr : RT w w.heap.size A bs) (hmn : ms.length = mn) (hmm : mn ≤ maxLen) (hbad : chkB pages bs ≠ 0 ∨ 256 < ms.length) :
    Calls Try.prog 11 #[.int .i64 pages, .slice A n cap, .slice M mn mcap] w (AfterR (afterB pages bs ms) w) := by
  have HC := Lib.hid (refCheck_any pages A n cap bs w hn hm hr)
  unfold maxLen at hmm
  by_cases h1 : chkB pages bs = 0
  · have h2 : 256 < ms.length := hbad.resolve_left (fun h => h h1)
    have hE : Hid (afterB pages bs ms = ([], 3)) := Lib.hid (by unfold afterB; rw [if_pos h1, if_pos h2])
    have h1' : (chkB pages bs == 0) = true := by simp [h1]
    have h2' : decide ((256 : Int) < (mn : Int)) = true := by simp; omega
    clear h1 h2 hbad hn hmn
    generalize afterB pages bs ms = R at *
    generalize chkB pages bs = ck at *
    go_enter Try.func11, Try.ntmps11
    go_wp2_with fail
    refine HC.out.mono ?_
    rintro e w1 ⟨rfl, hb1⟩
    go_wp2_with fail
    go_ret2
    rw [hE.out]
    exact afterR_err hb1
  · have hE : Hid (afterB pages bs ms = ([], chkB pages bs)) := Lib.hid (by unfold afterB; rw [if_neg h1])
    have h1' : (chkB pages bs != 0) = true := by simpa using h1
    have h1'' : (chkB pages bs == 0) = false := by simpa using h1
    clear h1 hbad hn hmn
    generalize afterB pages bs ms = R at *
    generalize chkB pages bs = ck at *
    go_enter Try.func11, Try.ntmps11
    go_wp2_with fail
    refine HC.out.mono ?_
    rintro e w1 ⟨rfl, hb1⟩
    go_wp2_with fail
    go_ret2
    rw [hE.out]
    exact afterR_err hb1

set_option maxRecDepth 100000 in
set_option maxHeartbeats 3200000 in
theorem refAfterOk_any (pages : Int) (A M : Option Addr) (n cap mn mcap : Nat) (bs : List B3) (ms : List (Int × Int)) (w : World) (hn : bs.length = n) (hm : n ≤ maxLen) (hz : A = none → cap = 0) (hr : RT w w.heap.size A bs) (hmn : ms.length = mn) (hru : RU w w.heap.size M ms) (h1 : chkB pages bs = 0) (h2 : ms.length ≤ 256) :
    Calls Try.prog 11 #[.int .i64 pages, .slice A n cap, .slice M mn mcap] w (AfterR (afterB pages bs ms) w) := by
  have HC := Lib.hid (refCheck_any pages A n cap bs w hn hm hr)
  have ok := chkB_ok h1
  rw [h1] at HC
  have hpg := spaceB_bound ok.space
  have hn64 : n ≤ 64 := by rw [← hn]; exact ok.len
  have hE : Hid (afterB pages bs ms = afterL pages bs ms) := Lib.hid (by unfold afterB; rw [if_pos h1, if_neg (by omega)])
  have hok0 : Hid (∀ b ∈ bs, okPl b) := Lib.hid (fun b hb => ins_okPl hpg.2 (ok.ins b hb))
  have hmn256 : mn ≤ 256 := by omega
  have h2' : decide ((256 : Int) < (mn : Int)) = false := by simp; omega
  obtain ⟨i0, hi, hz0, hz1, hz2⟩ := infoMv_parts
  have hck : ((0 : Int) == 0) = true := rfl
  have hn' := Lib.hid hn
  have hmn' := Lib.hid hmn
  clear h1 h2 ok hn hmn
  generalize afterB pages bs ms = R at *
  go_enter Try.func11, Try.ntmps11
  go_wp2_with fail
  refine HC.out.mono ?_
  rintro e w1 ⟨rfl, hb1⟩
  have r1 := hr.on hb1
  have hbase := hb1.size
  obtain ⟨base, hbs⟩ : ∃ base, w1.heap.size = base := ⟨_, rfl⟩
  have hb2 := (Below.refl w1.heap.size w1).alloc (Nat.le_refl _) (.cells #[] 44)
  have hown0 := World.ownsRow_made (base := w1.heap.size) (e := 44) (size := 3) w1 #[] 0 (Nat.le_refl _) (by unfold maxLen; omega) rfl
  have HAP : ∃ (v : Value) (w2 : World), (Builtin.append_ #[22, 22] 22 #[.slice (some ⟨w1.heap.size, 0, none⟩) 0 0, .slice A n cap]).run Try.prog (w1.alloc (.cells #[] 44)) = .ok v w2 ∧ w2.ownsRow w1.heap.size 44 3 v n (tCells bs) ∧ Below w1.heap.size w1 w2 := by
    rcases r1.src with ⟨rfl, rfl⟩ | ⟨ad, rfl, hnews⟩
    · have hc := hz rfl
      subst hc
      obtain rfl : n = 0 := by have := hn'.out; simpa using this.symm
      exact ⟨_, _, run_append_owned_none (P := Try.prog) (w := w1.alloc (.cells #[] 44)) w1.heap.size 22 22 44 i0 3 Try.underlying22 hi _ 0 [] hown0, hown0, hb2⟩
    · obtain ⟨v', w', hrun, r1', r2', _⟩ := append_block (P := Try.prog) (w1.alloc (.cells #[] 44)) w1.heap.size 22 22 44 i0 (.agg #[.int .i64 0, .int .i64 0, .bool false]) 3 24 Try.underlying22 hi hz0 hz1 hz2 rfl (by decide) _ 0 [] hown0 ad n cap (tCells bs) (by rw [tCells_len, hn'.out]) (fun j u hu => by rw [World.cell?_alloc_some _ _ _ (by rw [hnews j u hu]; rfl)]; exact hnews j u hu) (tCells_one bs) (by unfold maxLen; omega) (by omega) (by simp)
      exact ⟨v', w', hrun, by simpa using r1', hb2.grown r2' (by simp) (fun j hj => by cases hj; exact Nat.le_refl _)⟩
  obtain ⟨v, w2, hap, hown, hb2'⟩ := HAP
  have B2 := hb1.trans (hb2'.mono hb1.size)
  have hbw := hb2'.size
  rw [hbs] at hown hbase hbw hap
  obtain ⟨A2, cap2, rfl⟩ := own_nilT hown hn'.out
  clear HC r1 hb1 hb2 hb2' hr hown0
  go_wp2_with (at_builtin; refine Lib.wpList_append_run _ rfl _ _ _ _ rfl _ _ rfl rfl _ _ hap ?_)
  go_loopw [10] (fun i wr => ∃ (k : Nat) (cs : List B3), k ≤ mn ∧ i = .int .i64 k ∧ cs.length = n ∧ wr.ownsRow base 44 3 (.slice A2 n cap2) n (tCells cs) ∧ base ≤ wr.heap.size ∧ Below w.heap.size w wr ∧ Hid (∀ b ∈ cs, okPl b) ∧ Hid (R = afterL pages cs (ms.drop k))) (fun i _ => mn - (intOf i).toNat)
  case atStart => exact ⟨0, bs, by omega, rfl, hn'.out, hown, hbw, B2, hok0, by simpa using hE⟩
  case round =>
    obtain ⟨k, cs, hk, rfl, hcs, hrow, hbr, hB, hok, hR⟩ := hrel
    have hru' := (hru.below hB).more hB.size
    have hcs' := Lib.hid hcs
    clear hcs
    by_cases hlt : k < mn
    · have hlt' : decide ((k : Int) < (mn : Int)) = true := by simpa using hlt
      obtain ⟨b, o, rfl, hbl, c1, c2⟩ := RU.at_' hru' (k := k) (by have := hmn'.out; omega)
      have hst := Lib.hid (show R = if possB pages cs (ms.getD k (0,0)) = 0 then afterL pages (movB cs (ms.getD k (0,0))) (ms.drop (k + 1)) else ([], possB pages cs (ms.getD k (0,0))) by
        rw [hR.out, Go.Pol.drop_cons (0,0) ms k (by have := hmn'.out; omega), afterL])
      generalize ms.getD k (0,0) = m at *
      obtain ⟨mk, mt⟩ := m
      simp only at c1 c2
      have hbm := hB
      have hrow1 := hrow
      obtain ⟨_, _, e2, hrt, _⟩ := own_RT hrow1 hcs'.out
      cases e2
      have HP := Lib.hid (refPossible_any pages A2 n cap2 cs (mk, mt) _ hcs'.out (by unfold maxLen; omega) hrt (by omega) hok.out)
      simp only at HP
      by_cases hpz : possB pages cs (mk, mt) = 0
      · rw [hpz] at HP
        have hin := possB_in hpz
        obtain ⟨q, rfl⟩ := Int.eq_ofNat_of_zero_le hin.1
        have hqn : q < n := by have := hcs'.out; simp only at hin; omega
        have hokm : Hid (∀ b ∈ cs.set q (mt, (cs.getD q b0).2), okPl b) := Lib.hid (movB_okPl hpg.2 (by have := hcs'.out; omega) hpz hok.out)
        have hst2 : Hid (R = afterL pages (cs.set q (mt, (cs.getD q b0).2)) (ms.drop (k + 1))) := Lib.hid (by rw [hst.out, if_pos hpz]; simp [movB])
        have hlen2 : Hid ((cs.set q (mt, (cs.getD q b0).2)).length = n) := Lib.hid (by rw [List.length_set]; exact hcs'.out)
        have hsetT := Lib.hid (tCells_set cs q mt (by have := hcs'.out; omega))
        obtain ⟨g, cq, e3, _⟩ := hrow.form (by omega)
        cases e3
        have hgb := hrow.lt g rfl
        clear hst hpz hin hR
        go_wp2_with fail
        refine HP.out.mono ?_
        rintro e w3 ⟨rfl, hb3⟩
        have B3 := hbm.trans (hb3.mono hbm.size)
        have d1 := (hb3.cell (p := ⟨b, o + k * 2, none⟩) hbl).trans c1
        have d2 := (hb3.cell (p := ⟨b, o + k * 2 + 1, none⟩) hbl).trans c2
        have q1 := fun z : Ext w3 => z.cell d1
        have q2 := fun z : Ext w3 => z.cell d2
        have hrow3 := ownsRow_call hrow1 hb3
        clear HP
        go_upto_region 13 with fail
        refine region_ext_tail 11 (by kernel_rfl) (by kernel_rfl) ?_
        simp only [List.take_succ_cons, List.take_zero, List.drop_succ_cons, List.drop_zero]
        repeat (go_big_quiet_step (fail))
        refine wpQuiet_nil ?_
        intro z
        have hrz := ownsRow_call hrow3 z.le
        have Bz := B3.trans (z.le.mono B3.size)
        have hf3 := hrz.frozenAt (q * 3)
        have hcell := hrz.cellAt (q * 3) (by omega)
        rw [(tCells_at cs q (by have := hcs'.out; omega)).1] at hcell
        obtain ⟨hst3, hgr3⟩ := hrz.stored (q * 3) (.int .i64 mt)
        rw [hsetT.out] at hst3
        have hg3 := hrz.lt g rfl
        go_wp2_with fail
        go_roundw
        case rel => exact ⟨k + 1, _, by omega, by go_num, hlen2.out, hst3, by have := hgr3.size; omega, Bz.grown hgr3 Bz.size (fun j hj => by cases hj; omega), hokm, hst2⟩
        case measure => simp [intOf]; omega
      · have hRR : Hid (R = ([], possB pages cs (mk, mt))) := Lib.hid (by rw [hst.out, if_neg hpz])
        have hpz' : (possB pages cs (mk, mt) != 0) = true := by simpa using hpz
        generalize possB pages cs (mk, mt) = pe at *
        clear hst hpz hR
        go_wp2_with fail
        refine HP.out.mono ?_
        rintro e w3 ⟨rfl, hb3⟩
        go_wp2_with fail
        go_ret2
        rw [hRR.out]
        exact afterR_err (hbm.trans (hb3.mono hbm.size))
    · obtain rfl : k = mn := by omega
      have hlt' : decide ((k : Int) < (k : Int)) = false := by simp
      have hRR : Hid (R = (cs, 0)) := Lib.hid (by rw [hR.out, List.drop_of_length_le (by have := hmn'.out; omega), afterL])
      obtain ⟨_, _, e2, hrt, _⟩ := own_RT hrow hcs'.out
      cases e2
      clear hR
      go_wp2_with fail
      go_ret2
      rw [hRR.out]
      exact ⟨A2, cap2, by rw [hcs'.out]; rfl, hrt, hB⟩
theorem refAfter_any (pages : Int) (A M : Option Addr) (n cap mn mcap : Nat) (bs : List B3) (ms : List (Int × Int)) (w : World) (hn : bs.length = n) (hm : n ≤ maxLen) (hz : A = none → cap = 0) (hr : RT w w.heap.size A bs) (hmn : ms.length = mn) (hmm : mn ≤ maxLen) (hru : RU w w.heap.size M ms) :
    Calls Try.prog 11 #[.int .i64 pages, .slice A n cap, .slice M mn mcap] w (AfterR (afterB pages bs ms) w) := by
  by_cases h1 : chkB pages bs = 0
  · by_cases h2 : ms.length ≤ 256
    · exact refAfterOk_any pages A M n cap mn mcap bs ms w hn hm hz hr hmn hru h1 h2
    · exact refAfterErr_any pages A M n cap mn mcap bs ms w hn hm hr hmn hmm (.inr (by omega))
  · exact refAfterErr_any pages A M n cap mn mcap bs ms w hn hm hr hmn hmm (.inl h1)
end Go.Proofs.Ytifdgabfnnkghaa
