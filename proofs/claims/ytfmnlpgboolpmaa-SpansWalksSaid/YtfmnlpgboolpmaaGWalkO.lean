/- Walks: the examples of the document for layer 11. -/
import Derived.Test.YtfmnlpgboolpmaaGWalkH
import Derived.Test.YtfmnlpgboolpmaaGWalkI
namespace Go.Pol
open Go Go.RowKit
theorem ru_blkL {w : World} {B : Nat} {t : TypeId} {us : List Sp} {cs : Array Value} (h : Blk w B t cs) (hc : cs = (spCells us).toArray) : RU w w.heap.size (some ⟨B, 0, none⟩) us := fun k hk => by
  subst hc
  obtain ⟨h1, h2⟩ := spCells_at us k hk
  refine ⟨B, 0, rfl, h.lt, ?_, ?_⟩
  · rw [Nat.zero_add, h.cell]; simpa using h1
  · rw [Nat.zero_add, h.cell]; simpa using h2
theorem RU.on {w w' : World} {A : Option Addr} {us : List Sp} (h : RU w w.heap.size A us) (hb : Below w.heap.size w w') : RU w' w'.heap.size A us := (h.below hb).more hb.size
end Go.Pol
namespace Go.Proofs.Ytfmnlpgboolpmaa
open Go Go.Proofs Go.RowKit Go.Pol
theorem example_any (w : World) : Calls Try.prog 74 #[] w fun e w' => e = .returned (.agg #[.int .i64 8, .int .i64 12, .int .i64 1, .int .i64 2, .int .i64 3]) ∧ Below w.heap.size w w' := by
  have k1 := Blk.new w 25 (planC 8 12 1 2 3)
  have hb := (Below.refl w.heap.size w).alloc (Nat.le_refl _) (.cells (planC 8 12 1 2 3) 25)
  go_enter Try.func74, Try.ntmps74
  go_wp2
  exact bodyPost_ret (v := planV 8 12 1 2 3) (by simp [results, Try.results74, go_sem]) rfl ⟨rfl, hb⟩
theorem ex_chk : chkG 8 12 1 2 3 = 0 := by decide +kernel
theorem ex_runs : runsL 8 12 1 2 3 = [(9, 3), (13, 3), (17, 1)] := by decide +kernel
theorem ex_guards : guardsF 8 12 1 2 3 = [(8, 1), (12, 1), (16, 1), (18, 2)] := by decide +kernel
theorem ex_nth : (if chkG 8 12 1 2 3 = 0 then nthF (runsL 8 12 1 2 3) 3 else (0, chkG 8 12 1 2 3)) = (13, 0) := by decide +kernel
theorem ex_idx : (if chkG 8 12 1 2 3 = 0 then idxF 17 0 (runsL 8 12 1 2 3) else (0, chkG 8 12 1 2 3)) = (6, 0) := by decide +kernel
theorem ex_hit : hitF 8 12 1 2 3 576 193 = (3, 12, 0) := by decide +kernel
theorem ex_least : leastF 7 1 2 3 = (12, 4, 0) := by decide +kernel
def GR (w : World) (us : List Sp) (e : Ending) (w' : World) : Prop := ∃ (A : Option Addr) (cap : Nat), e = .returned (.tuple #[.slice A us.length cap, .int .i64 0]) ∧ RU w' w'.heap.size A us ∧ Below w.heap.size w w'
theorem exg_any (W : World) : Calls Try.prog 27 #[planV 8 12 1 2 3] W (GR W [(8, 1), (12, 1), (16, 1), (18, 2)]) := by
  have h := guards_any 8 12 1 2 3 W
  rw [ex_chk, ex_guards] at h
  refine h.mono ?_
  rintro e w' ⟨A, cap, rfl, hr, _, _, _, hb⟩
  exact ⟨A, cap, rfl, hr, hb⟩
theorem exu_any (W : World) : Calls Try.prog 26 #[planV 8 12 1 2 3] W (GR W [(9, 3), (13, 3), (17, 1)]) := by
  have h := usable_any 8 12 1 2 3 W
  rw [ex_chk, if_pos rfl, ex_runs] at h
  refine h.mono ?_
  rintro e w' ⟨A, cap, rfl, hr, _, _, _, hb⟩
  exact ⟨A, cap, rfl, hr, hb⟩
theorem sameT_any (A B : Option Addr) (n cap cap' : Nat) (xs ys : List Sp) (w : World) (hn : xs.length = n) (hm : n ≤ maxLen) (he : ys = xs) (hr : RU w w.heap.size A xs) (hs : RU w w.heap.size B ys) :
    Calls Try.prog 34 #[.slice A n cap, .slice B n cap'] w fun e w' => e = .returned (.bool true) ∧ Below w.heap.size w w' := by
  have h := same_any A B n n cap cap' xs ys w hn hm (by rw [he]; exact hn) hm hr hs
  rw [decide_eq_true he.symm] at h
  exact h
set_option maxRecDepth 100000 in
theorem field_ex (W : World) : (Instr.field 25 (.agg #[.int .i64 8, .int .i64 12, .int .i64 1, .int .i64 2, .int .i64 3]) 2).run Try.prog W = .ok (.agg #[.int .i64 1, .int .i64 2, .int .i64 3]) W := by
  have u := Try.underlying25
  have a3 := Try.isAgg23
  have z3 := Try.sizeOf23
  unfold Instr.field
  simp only [Sem.run_bind, run_underlying u, Result.andThen_ok]
  simp [part, asAgg, Sem.run_bind, a3, z3, Result.andThen]
set_option maxRecDepth 100000 in
set_option maxHeartbeats 1600000 in
theorem awake_any (w : World) : Calls Try.prog 23 #[] w fun e w' => e = .returned (.bool true) ∧ Below w.heap.size w w' := by
  go_enter Try.func23, Try.ntmps23
  go_wp2_with fail
  refine (example_any _).mono ?_
  rintro e w1 ⟨rfl, hb1⟩
  go_wp2_with fail
  refine (exg_any _).mono ?_
  rintro e w2 ⟨A2, c2, rfl, hr2, hb2⟩
  have B2 := hb1.trans (hb2.mono hb1.size)
  clear hb1 hb2
  go_wp2_with fail
  refine (example_any _).mono ?_
  rintro e w3 ⟨rfl, hb3⟩
  have B3 := B2.trans (hb3.mono B2.size)
  have hr2b := hr2.on hb3
  clear hb3 B2 hr2
  go_wp2_with fail
  refine (exu_any _).mono ?_
  rintro e w4 ⟨A4, c4, rfl, hr4, hb4⟩
  have B4 := B3.trans (hb4.mono B3.size)
  have hr2c := hr2b.on hb4
  clear hb4 B3 hr2b
  go_wp2_with fail
  refine (example_any _).mono ?_
  rintro e w5 ⟨rfl, hb5⟩
  go_wp2_with fail
  refine (nth_any 8 12 1 2 3 3 _ (by omega) (by omega) _ ex_nth).mono ?_
  rintro e w6 ⟨rfl, hb6⟩
  have hb56 := hb5.trans (hb6.mono hb5.size)
  have B6 := B4.trans (hb56.mono B4.size)
  have hr2d := hr2c.on hb56
  have hr4d := hr4.on hb56
  clear hb5 hb6 hb56 B4 hr2c hr4
  go_wp2_with fail
  refine (example_any _).mono ?_
  rintro e w7 ⟨rfl, hb7⟩
  go_wp2_with fail
  refine (index_any 8 12 1 2 3 17 _ _ ex_idx).mono ?_
  rintro e w8 ⟨rfl, hb8⟩
  have hb78 := hb7.trans (hb8.mono hb7.size)
  have B8 := B6.trans (hb78.mono B6.size)
  have hr2e := hr2d.on hb78
  have hr4e := hr4d.on hb78
  clear hb7 hb8 hb78 B6 hr2d hr4d
  go_wp2_with fail
  refine (example_any _).mono ?_
  rintro e w9 ⟨rfl, hb9⟩
  go_wp2_with fail
  refine (hit_any 8 12 1 2 3 576 193 _ _ ex_hit).mono ?_
  rintro e w10 ⟨rfl, hb10⟩
  have hb910 := hb9.trans (hb10.mono hb9.size)
  have B10 := B8.trans (hb910.mono B8.size)
  have hr2f := hr2e.on hb910
  have hr4f := hr4e.on hb910
  clear hb9 hb10 hb910 B8 hr2e hr4e
  have hfd := field_ex
  go_wp2_with fail
  refine (example_any _).mono ?_
  rintro e w11 ⟨rfl, hb11⟩
  go_wp2_with fail
  refine (least_any 7 1 2 3 _ _ ex_least).mono ?_
  rintro e w12 ⟨rfl, hb12⟩
  have hb112 := hb11.trans (hb12.mono hb11.size)
  have B12 := B10.trans (hb112.mono B10.size)
  have hr2g := hr2f.on hb112
  have hr4g := hr4f.on hb112
  clear hb11 hb12 hb112 B10 hr2f hr4f
  have hbA := (Below.refl w12.heap.size w12).alloc (Nat.le_refl _) (.cells #[.int .i64 8, .int .i64 1, .int .i64 12, .int .i64 1, .int .i64 16, .int .i64 1, .int .i64 18, .int .i64 2] 40)
  have kA := Blk.new w12 40 #[.int .i64 8, .int .i64 1, .int .i64 12, .int .i64 1, .int .i64 16, .int .i64 1, .int .i64 18, .int .i64 2]
  have HSA := Lib.hid (sameT_any A2 (some ⟨w12.heap.size, 0, none⟩) 4 c2 4 _ _ _ rfl (by unfold maxLen; omega) rfl (hr2g.on hbA) (ru_blkL kA rfl))
  have hr4h := hr4g.on hbA
  have BA := B12.trans (hbA.mono B12.size)
  clear hr2g hr4g kA hbA
  go_wp2_with fail
  refine (HSA.out).mono ?_
  rintro e w13 ⟨rfl, hb13⟩
  have B13 := BA.trans (hb13.mono BA.size)
  have hr4i := hr4h.on hb13
  have hbB := (Below.refl w13.heap.size w13).alloc (Nat.le_refl _) (.cells #[.int .i64 9, .int .i64 3, .int .i64 13, .int .i64 3, .int .i64 17, .int .i64 1] 40)
  have kB := Blk.new w13 40 #[.int .i64 9, .int .i64 3, .int .i64 13, .int .i64 3, .int .i64 17, .int .i64 1]
  have HSB := Lib.hid (sameT_any A4 (some ⟨w13.heap.size, 0, none⟩) 3 c4 3 _ _ _ rfl (by unfold maxLen; omega) rfl (hr4i.on hbB) (ru_blkL kB rfl))
  have BB := B13.trans (hbB.mono B13.size)
  clear hr4h hr4i kB hbB BA B13 hb13
  go_wp2_with fail
  refine (HSB.out).mono ?_
  rintro e w14 ⟨rfl, hb14⟩
  go_wp2_with fail
  go_ret
  exact ⟨rfl, BB.trans (hb14.mono BB.size)⟩
end Go.Proofs.Ytfmnlpgboolpmaa
