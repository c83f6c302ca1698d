/- Walks: the examples of the document, and the bound on what is examined. -/
import Derived.Test.YtiohcegkkpeodaaDoorWalkC
import Derived.Test.YtiohcegkkpeodaaDoorWalkG
import Derived.Test.YtiohcegkkpeodaaDoorSpecC
import Derived.Test.YtiohcegkkpeodaaDoorWalkH
import Derived.Test.YtiohcegkkpeodaaDoorWalkI
namespace Go.Proofs.YtiohcegkkpeodaaDoor
open Go Go.Proofs Go.RowKit Go.Pol

/-- what a call of the own made reads as a list -/
theorem own_RI {w : World} {base : Nat} {v : Value} {xs : List Int} (h : w.ownsRow base 3 1 v xs.length (xs.map (Value.int .i64))) : ∃ (A : Option Addr) (cap : Nat), v = .slice A xs.length cap ∧ RI w w.heap.size A xs := by
  have hv := h
  rcases h.2 with ⟨rfl, h0⟩ | ⟨g, cap, cur, rfl, hg, hk, _⟩
  · obtain rfl : xs = [] := List.eq_nil_of_length_eq_zero h0
    exact ⟨none, 0, rfl, RI.nil⟩
  · refine ⟨_, cap, rfl, fun k hk' => ?_⟩
    have hk2 : k < xs.length := by simpa using hk'
    have hc := hv.cellAt k (by omega)
    refine ⟨g, 0, rfl, Blk.lt hk, ?_⟩
    rw [Nat.zero_add, hc]
    exact List.getElem?_eq_getElem hk'
def TableR (w : World) (e : Ending) (w' : World) : Prop := ∃ A : Option Addr, e = .returned (.agg #[.slice A 3 3]) ∧ RI w' w'.heap.size A [8, 16, 32] ∧ Below w.heap.size w w'
def UsageR (w : World) (e : Ending) (w' : World) : Prop := ∃ A : Option Addr, e = .returned (.slice A 3 3) ∧ RU w' w'.heap.size A [(5, 10), (8, 1), (20, 2)] ∧ Below w.heap.size w w'
theorem RI_blk {w : World} {g : Nat} {t : TypeId} {xs : List Int} (h : Blk w g t (ints xs)) : RI w w.heap.size (some ⟨g, 0, none⟩) xs := fun k hk => by
  refine ⟨g, 0, rfl, h.lt, ?_⟩
  rw [Nat.zero_add, h.cell]
  simp only [ints, List.getElem?_toArray]
  exact List.getElem?_eq_getElem hk
theorem table_any (w : World) : Calls Tryd.prog 6 #[] w (TableR w) := by
  go_enter Tryd.func6, Tryd.ntmps6
  go_wp2
  have k1 := Blk.new (w.alloc (.cells #[.slice (some ⟨w.heap.size + 1, 0, none⟩) 3 3] 27)) 3 (ints [8, 16, 32])
  rw [World.size_alloc] at k1
  have hb := ((Below.refl w.heap.size w).alloc (Nat.le_refl _) (.cells #[.slice (some ⟨w.heap.size + 1, 0, none⟩) 3 3] 27)).alloc (by simp) (.cells (ints [8, 16, 32]) 3)
  exact bodyPost_ret (v := .agg #[.slice (some ⟨w.heap.size + 1, 0, none⟩) 3 3]) (by simp [results, Tryd.results6, go_sem]) rfl ⟨_, rfl, RI_blk k1, hb⟩
theorem usage_any (w : World) : Calls Tryd.prog 8 #[] w (UsageR w) := by
  go_enter Tryd.func8, Tryd.ntmps8
  go_wp2
  have k1 := Blk.new w 48 #[.int .i64 5, .int .i64 10, .int .i64 8, .int .i64 1, .int .i64 20, .int .i64 2]
  have hb := (Below.refl w.heap.size w).alloc (Nat.le_refl _) (.cells #[.int .i64 5, .int .i64 10, .int .i64 8, .int .i64 1, .int .i64 20, .int .i64 2] 48)
  go_ret
  refine ⟨_, rfl, fun k hk => ?_, hb⟩
  simp only [List.length_cons, List.length_nil] at hk
  match k, hk with
  | 0, _ => exact ⟨_, _, rfl, k1.lt, k1.cell 0, k1.cell 1⟩
  | 1, _ => exact ⟨_, _, rfl, k1.lt, k1.cell 2, k1.cell 3⟩
  | 2, _ => exact ⟨_, _, rfl, k1.lt, k1.cell 4, k1.cell 5⟩
theorem far_any (A U : Option Addr) (n cap m ucap : Nat) (w : World) (b : Bool) (hb : b = (decide (70 < n) || decide (210 < m))) (hn : n ≤ maxLen) (hm : m ≤ maxLen) :
    Calls Tryd.prog 12 #[.agg #[.slice A n cap], .slice U m ucap] w fun e w' => e = .returned (.bool b) ∧ Below w.heap.size w w' := by
  unfold maxLen at hn hm
  have HB := Lib.hid hb
  clear hb
  have hb1 := (Below.refl w.heap.size w).alloc (Nat.le_refl _) (.cells #[.slice A n cap] 27)
  by_cases h1 : 70 < n
  · have h1' : decide (70 < n) = true := by simpa using h1
    go_enter Tryd.func12, Tryd.ntmps12
    go_wp2
    go_ret
    exact ⟨ret_bool (by rw [HB.out, h1']; rfl), hb1⟩
  · have h1' : decide (70 < n) = false := by simpa using h1
    go_enter Tryd.func12, Tryd.ntmps12
    go_wp2
    go_ret
    exact ⟨ret_bool (by rw [HB.out, show decide (70 < (n : Int)) = decide (70 < n) from decide_eq_decide.2 (by omega), show decide (210 < (m : Int)) = decide (210 < m) from decide_eq_decide.2 (by omega)]), hb1⟩
theorem recon_shown : recon [(5, 10), (8, 1), (20, 2)] (mSel [(5, 10), (8, 1), (20, 2)] 2 2) 0 = [5, 20] := by decide +kernel
theorem row_shown : rowF [(5, 10), (8, 1), (20, 2)] 2 0 = 12 := by decide +kernel
theorem wst_shown : wasteT [8, 16, 32] [(5, 10), (8, 1), (20, 2)] = (54, 0) := by decide +kernel
theorem wrs_shown : wrsT [8, 16, 32] = (1, 7, 8, 0) := by decide +kernel
theorem stepsL_shown : stepsL 8 64 4 = [8, 16, 24, 32, 40, 48, 56, 64] := by decide +kernel
theorem RU.later {w w' : World} {A : Option Addr} {us : List (Int × Int)} (h : RU w w.heap.size A us) (hb : Below w.heap.size w w') : RU w' w'.heap.size A us := (h.below hb).more hb.size
theorem RI.later {w w' : World} {A : Option Addr} {xs : List Int} (h : RI w w.heap.size A xs) (hb : Below w.heap.size w w') : RI w' w'.heap.size A xs := (h.below hb).more hb.size
theorem w_shown (A U : Option Addr) (W : World) (hr : RI W W.heap.size A [8, 16, 32]) (hu : RU W W.heap.size U [(5, 10), (8, 1), (20, 2)]) :
    Calls Tryd.prog 24 #[.agg #[.slice A 3 3], .slice U 3 3] W fun e w' => e = .returned (.tuple #[.int .i64 54, .int .i64 0]) ∧ Below W.heap.size W w' := by
  have h := waste_ok A U 3 3 3 3 [8, 16, 32] [(5, 10), (8, 1), (20, 2)] W rfl rfl (by unfold maxLen; omega) (by unfold maxLen; omega) hr hu (by decide +kernel) (by decide +kernel)
  rw [wst_shown] at h
  exact h
theorem x_shown (A : Option Addr) (W : World) (hr : RI W W.heap.size A [8, 16, 32]) :
    Calls Tryd.prog 25 #[.agg #[.slice A 3 3]] W fun e w' => e = .returned (.tuple #[.int .i64 1, .int .i64 7, .int .i64 8, .int .i64 0]) ∧ Below W.heap.size W w' := by
  have h := worst_any A 3 3 [8, 16, 32] W rfl (by unfold maxLen; omega) hr
  rw [wrs_shown] at h
  exact h
def StepsShR (W : World) (e : Ending) (w' : World) : Prop := ∃ (A : Option Addr) (cap : Nat), e = .returned (.tuple #[.agg #[.slice A 8 cap], .int .i64 0]) ∧ RI w' w'.heap.size A [8, 16, 24, 32, 40, 48, 56, 64] ∧ Below W.heap.size W w'
theorem s_shown (W : World) : Calls Tryd.prog 26 #[.int .i64 8, .int .i64 64, .int .i64 4] W (StepsShR W) := by
  refine (steps_ok 8 64 4 W (by decide +kernel)).mono ?_
  rintro e w' ⟨v, rfl, hown, hb⟩
  rw [stepsL_shown] at hown
  obtain ⟨A, cap, rfl, hr⟩ := own_RI hown
  exact ⟨A, cap, rfl, hr, hb⟩
def BestShR (W : World) (e : Ending) (w' : World) : Prop := ∃ (A : Option Addr) (cap : Nat), e = .returned (.tuple #[.agg #[.slice A 2 cap], .int .i64 12, .int .i64 0]) ∧ RI w' w'.heap.size A [5, 20] ∧ Below W.heap.size W w'
theorem b_shown (U : Option Addr) (W : World) (hu : RU W W.heap.size U [(5, 10), (8, 1), (20, 2)]) : Calls Tryd.prog 7 #[.slice U 3 3, .int .i64 2] W (BestShR W) := by
  refine (best_ok U 3 3 [(5, 10), (8, 1), (20, 2)] 2 W rfl (by unfold maxLen; omega) hu (by decide +kernel) (by omega) (by omega) (by omega) 2 rfl).mono ?_
  rintro e w' ⟨v, rfl, hown, hb⟩
  rw [recon_shown] at hown
  rw [row_shown]
  obtain ⟨A, cap, rfl, hr⟩ := own_RI hown
  exact ⟨A, cap, rfl, hr, hb⟩
set_option maxHeartbeats 800000 in
theorem shown_any (w : World) : Calls Tryd.prog 11 #[] w fun e w' => e = .returned (.bool true) ∧ Below w.heap.size w w' := by
  go_enter Tryd.func11, Tryd.ntmps11
  go_wp2_with fail
  refine (table_any _).mono ?_
  rintro e w1 ⟨A1, rfl, hr1, hb1⟩
  go_wp2_with fail
  refine (usage_any _).mono ?_
  rintro e w2 ⟨U1, rfl, hu2, hb2⟩
  go_wp2_with fail
  refine (w_shown _ _ _ (RI.later hr1 hb2) hu2).mono ?_
  rintro e w3 ⟨rfl, hb3⟩
  have B3 := (hb1.trans (hb2.mono hb1.size)).trans (hb3.mono (Nat.le_trans hb1.size hb2.size))
  clear hr1 hb1 hu2 hb2 hb3
  go_wp2_with fail
  refine (table_any _).mono ?_
  rintro e w4 ⟨A4, rfl, hr4, hb4⟩
  go_wp2_with fail
  refine (x_shown _ _ hr4).mono ?_
  rintro e w5 ⟨rfl, hb5⟩
  have B5 := (B3.trans (hb4.mono B3.size)).trans (hb5.mono (Nat.le_trans B3.size hb4.size))
  clear hr4 hb4 hb5 B3
  go_wp2_with fail
  refine (s_shown _).mono ?_
  rintro e w6 ⟨A6, c6, rfl, hr6, hb6⟩
  have B6 := B5.trans (hb6.mono B5.size)
  clear hb6 B5
  have k7 := Blk.new w6 27 #[.slice A6 8 c6]
  have hr7 := RI.later hr6 ((Below.refl w6.heap.size w6).alloc (Nat.le_refl _) (.cells #[.slice A6 8 c6] 27))
  have B7 := B6.alloc B6.size (.cells #[.slice A6 8 c6] 27)
  clear hr6 B6
  go_wp2_with fail
  refine (usage_any _).mono ?_
  rintro e w8 ⟨U8, rfl, hu8, hb8⟩
  go_wp2_with fail
  refine (b_shown _ _ hu8).mono ?_
  rintro e w9 ⟨A9, c9, rfl, hr9, hb9⟩
  have k9 := (k7.call hb8).call hb9
  have hr79 := RI.later (RI.later hr7 hb8) hb9
  have B9 := (B7.trans (hb8.mono B7.size)).trans (hb9.mono (Nat.le_trans B7.size hb8.size))
  clear k7 hr7 B7 hb8 hu8 hb9
  have kA := Blk.new w9 27 #[.slice A9 2 c9]
  have kB := k9.alloc (.cells #[.slice A9 2 c9] 27)
  have hbA := (Below.refl w9.heap.size w9).alloc (Nat.le_refl _) (.cells #[.slice A9 2 c9] 27)
  have hrA := RI.later hr9 hbA
  have hrB := RI.later hr79 hbA
  have BA := B9.alloc B9.size (.cells #[.slice A9 2 c9] 27)
  obtain ⟨WA, hWA⟩ : ∃ WA, w9.alloc (.cells #[.slice A9 2 c9] 27) = WA := ⟨_, rfl⟩
  rw [hWA] at kA kB hrA hrB BA
  have cA := kA.cell
  have cB := kB.cell
  clear hr9 k9 hr79 B9 hbA
  go_wp2_with fail
  clear hWA
  have kX := Blk.new WA 3 (ints [8, 16, 24, 32, 40, 48, 56, 64])
  have hbX := (Below.refl WA.heap.size WA).alloc (Nat.le_refl _) (.cells (ints [8, 16, 24, 32, 40, 48, 56, 64]) 3)
  refine (sameTable_any A6 (some ⟨WA.heap.size, 0, none⟩) 8 8 c6 8 [8, 16, 24, 32, 40, 48, 56, 64] [8, 16, 24, 32, 40, 48, 56, 64] _ rfl (by unfold maxLen; omega) rfl (by unfold maxLen; omega) (RI.later hrB hbX) (RI_blk kX)).mono ?_
  rintro e wB ⟨rfl, hbB⟩
  rw [decide_eq_true (rfl : ([8, 16, 24, 32, 40, 48, 56, 64] : List Int) = [8, 16, 24, 32, 40, 48, 56, 64])]
  have hbC := hbX.trans (hbB.mono hbX.size)
  have kC := kA.call hbC
  have cC := kC.cell
  have hrC := RI.later hrA hbC
  have BC := BA.trans (hbC.mono BA.size)
  clear cA cB kA kB hrA hrB BA kX hbX hbB hbC
  go_wp2_with fail
  have kX := Blk.new wB 3 (ints [5, 20])
  have hbX := (Below.refl wB.heap.size wB).alloc (Nat.le_refl _) (.cells (ints [5, 20]) 3)
  refine (sameTable_any A9 (some ⟨wB.heap.size, 0, none⟩) 2 2 c9 2 [5, 20] [5, 20] _ rfl (by unfold maxLen; omega) rfl (by unfold maxLen; omega) (RI.later hrC hbX) (RI_blk kX)).mono ?_
  rintro e wD ⟨rfl, hbD⟩
  rw [decide_eq_true (rfl : ([5, 20] : List Int) = [5, 20])]
  have hbE := hbX.trans (hbD.mono hbX.size)
  have BD := BC.trans (hbE.mono BC.size)
  clear cC kC hrC BC kX hbX hbD hbE
  go_wp2_with fail
  go_ret
  exact ⟨rfl, BD⟩
end Go.Proofs.YtiohcegkkpeodaaDoor
