/- Walks: Class, once more (the door seat), and the examples of the document: ClassesKnown. -/
import Derived.Test.YtiohcegkkpeodaaDoorWalkK
import Derived.Test.YtiohcegkkpeodaaDoorWalkR
namespace Go.Pol
/-- the class of a size, and the error -/
def classT (xs : List Int) (s : Int) : Int × Int :=
  if chkT xs = 0 then if isSz s = true then if cls xs s = xs.length then (0, 4) else ((cls xs s : Nat), 0) else (0, 7) else (0, chkT xs)
end Go.Pol
namespace Go.Proofs.YtiohcegkkpeodaaDoor
open Go Go.Proofs Go.RowKit Go.Pol
def PairR (r : Int × Int) (w : World) (e : Ending) (w' : World) : Prop := e = .returned (.tuple #[.int .i64 r.1, .int .i64 r.2]) ∧ Below w.heap.size w w'
theorem RI.laterQ {w w' : World} {A : Option Addr} {xs : List Int} (h : RI w w.heap.size A xs) (hb : Below w.heap.size w w') : RI w' w'.heap.size A xs := (h.below hb).more hb.size
set_option maxHeartbeats 800000 in
theorem class_any (A : Option Addr) (n cap : Nat) (xs : List Int) (s : Int) (w : World) (hn : xs.length = n) (hm : n ≤ maxLen) (hr : RI w w.heap.size A xs) :
    Calls Tryd.prog 5 #[.agg #[.slice A n cap], .int .i64 s] w (PairR (classT xs s) w) := by
  have HCK := Lib.hid (fun W (h : RI W W.heap.size A xs) => check_any A n cap xs W hn hm h)
  have hb0 := (Below.refl w.heap.size w).alloc (Nat.le_refl _) (.cells #[Value.slice A n cap] 27)
  have k0 := Blk.new w 27 #[Value.slice A n cap]
  have hr0 := RI.later hr hb0
  by_cases h1 : chkT xs = 0
  · have h1' : (chkT xs != 0) = false := by simp [h1]
    have hok := chkT_ok h1
    have HCL := Lib.hid (fun W (h : RI W W.heap.size A xs) => ceiling_any A n cap xs s W hn (by have := hok.len; omega) h hok)
    by_cases h2 : isSz s = true
    · by_cases h3 : cls xs s = n
      · have HE : Hid (classT xs s = (0, 4)) := Lib.hid (by unfold classT; rw [if_pos h1, if_pos h2, if_pos (by rw [hn]; exact h3)])
        have h3' : ((cls xs s : Nat) : Int) == (n : Int) := by simp [h3]
        clear h1 h3 hn hok
        generalize classT xs s = R at *
        generalize chkT xs = ck at *
        go_enter Tryd.func5, Tryd.ntmps5
        go_wp2_with (first
          | (go_at_call 17; refine (HCK.out _ hr0).mono ?_; rintro e w1 ⟨rfl, hq⟩; have k1 := k0.call hq; have hb1 := hb0.trans (hq.mono hb0.size); have hr1 := RI.laterQ hr0 hq; have c1 := k1.cell; have l1 := k1.lt)
          | (go_at_call 18; refine (isSize_any _ _).mono ?_; rintro e w' ⟨rfl, rfl⟩)
          | (go_at_call 19; refine (HCL.out _ hr1).mono ?_; rintro e w' ⟨rfl, rfl⟩))
        go_ret2
        exact ⟨by rw [HE.out]; rfl, hb1⟩
      · have HE : Hid (classT xs s = (((cls xs s : Nat) : Int), 0)) := Lib.hid (by unfold classT; rw [if_pos h1, if_pos h2, if_neg (by rw [hn]; exact h3)])
        have h3' : (((cls xs s : Nat) : Int) == (n : Int)) = false := by simp; omega
        clear h1 h3 hn hok
        generalize classT xs s = R at *
        generalize chkT xs = ck at *
        go_enter Tryd.func5, Tryd.ntmps5
        go_wp2_with (first
          | (go_at_call 17; refine (HCK.out _ hr0).mono ?_; rintro e w1 ⟨rfl, hq⟩; have k1 := k0.call hq; have hb1 := hb0.trans (hq.mono hb0.size); have hr1 := RI.laterQ hr0 hq; have c1 := k1.cell; have l1 := k1.lt)
          | (go_at_call 18; refine (isSize_any _ _).mono ?_; rintro e w' ⟨rfl, rfl⟩)
          | (go_at_call 19; refine (HCL.out _ hr1).mono ?_; rintro e w' ⟨rfl, rfl⟩))
        go_ret2
        exact ⟨by rw [HE.out]; rfl, hb1⟩
    · have h2' : isSz s = false := by simpa using h2
      have HE : Hid (classT xs s = (0, 7)) := Lib.hid (by unfold classT; rw [if_pos h1, if_neg h2])
      clear h1 h2 hn hok
      generalize classT xs s = R at *
      generalize chkT xs = ck at *
      go_enter Tryd.func5, Tryd.ntmps5
      go_wp2_with (first
        | (go_at_call 17; refine (HCK.out _ hr0).mono ?_; rintro e w1 ⟨rfl, hq⟩; have k1 := k0.call hq; have hb1 := hb0.trans (hq.mono hb0.size); have hr1 := RI.laterQ hr0 hq; have c1 := k1.cell; have l1 := k1.lt)
        | (go_at_call 18; refine (isSize_any _ _).mono ?_; rintro e w' ⟨rfl, rfl⟩)
        | (go_at_call 19; refine (HCL.out _ hr1).mono ?_; rintro e w' ⟨rfl, rfl⟩))
      go_ret2
      exact ⟨by rw [HE.out]; rfl, hb1⟩
  · have h1' : (chkT xs != 0) = true := by simpa using h1
    have HE : Hid (classT xs s = (0, chkT xs)) := Lib.hid (by unfold classT; rw [if_neg h1])
    have HCL : True := trivial
    clear h1 hn
    generalize classT xs s = R at *
    generalize chkT xs = ck at *
    go_enter Tryd.func5, Tryd.ntmps5
    go_wp2_with (first
      | (go_at_call 17; refine (HCK.out _ hr0).mono ?_; rintro e w1 ⟨rfl, hq⟩; have k1 := k0.call hq; have hb1 := hb0.trans (hq.mono hb0.size); have hr1 := RI.laterQ hr0 hq; have c1 := k1.cell; have l1 := k1.lt)
      | (go_at_call 18; refine (isSize_any _ _).mono ?_; rintro e w' ⟨rfl, rfl⟩)
      | (go_at_call 19; refine (HCL.out _ hr1).mono ?_; rintro e w' ⟨rfl, rfl⟩))
    go_ret2
    exact ⟨by rw [HE.out]; rfl, hb1⟩
theorem c8_known (A : Option Addr) (W : World) (hr : RI W W.heap.size A [8, 16, 32]) :
    Calls Tryd.prog 5 #[.agg #[.slice A 3 3], .int .i64 8] W (PairR (0, 0) W) := by
  have h := class_any A 3 3 [8, 16, 32] 8 W rfl (by unfold maxLen; omega) hr
  rw [show classT [8, 16, 32] 8 = (0, 0) by decide +kernel] at h
  exact h
theorem c9_known (A : Option Addr) (W : World) (hr : RI W W.heap.size A [8, 16, 32]) :
    Calls Tryd.prog 5 #[.agg #[.slice A 3 3], .int .i64 9] W (PairR (1, 0) W) := by
  have h := class_any A 3 3 [8, 16, 32] 9 W rfl (by unfold maxLen; omega) hr
  rw [show classT [8, 16, 32] 9 = (1, 0) by decide +kernel] at h
  exact h
theorem c33_known (A : Option Addr) (W : World) (hr : RI W W.heap.size A [8, 16, 32]) :
    Calls Tryd.prog 5 #[.agg #[.slice A 3 3], .int .i64 33] W (PairR (0, 4) W) := by
  have h := class_any A 3 3 [8, 16, 32] 33 W rfl (by unfold maxLen; omega) hr
  rw [show classT [8, 16, 32] 33 = (0, 4) by decide +kernel] at h
  exact h
def BestKR (n : Nat) (xs : List Int) (c : Int) (W : World) (e : Ending) (w' : World) : Prop := ∃ (A : Option Addr) (cap : Nat), e = .returned (.tuple #[.agg #[.slice A n cap], .int .i64 c, .int .i64 0]) ∧ RI w' w'.heap.size A xs ∧ Below W.heap.size W w'
theorem b1_known (U : Option Addr) (W : World) (hu : RU W W.heap.size U [(5, 10), (8, 1), (20, 2)]) : Calls Tryd.prog 7 #[.slice U 3 3, .int .i64 1] W (BestKR 1 [20] 162 W) := by
  refine (best_ok U 3 3 [(5, 10), (8, 1), (20, 2)] 1 W rfl (by unfold maxLen; omega) hu (by decide +kernel) (by omega) (by omega) (by omega) 1 rfl).mono ?_
  rintro e w' ⟨v, rfl, hown, hb⟩
  rw [show recon [(5, 10), (8, 1), (20, 2)] (mSel [(5, 10), (8, 1), (20, 2)] 1 1) 0 = [20] by decide +kernel] at hown
  rw [show rowF [(5, 10), (8, 1), (20, 2)] 1 0 = 162 by decide +kernel]
  obtain ⟨A, cap, rfl, hr⟩ := own_RI hown
  exact ⟨A, cap, rfl, hr, hb⟩
theorem b3_known (U : Option Addr) (W : World) (hu : RU W W.heap.size U [(5, 10), (8, 1), (20, 2)]) : Calls Tryd.prog 7 #[.slice U 3 3, .int .i64 3] W (BestKR 3 [5, 8, 20] 0 W) := by
  refine (best_ok U 3 3 [(5, 10), (8, 1), (20, 2)] 3 W rfl (by unfold maxLen; omega) hu (by decide +kernel) (by omega) (by omega) (by omega) 3 rfl).mono ?_
  rintro e w' ⟨v, rfl, hown, hb⟩
  rw [show recon [(5, 10), (8, 1), (20, 2)] (mSel [(5, 10), (8, 1), (20, 2)] 3 3) 0 = [5, 8, 20] by decide +kernel] at hown
  rw [show rowF [(5, 10), (8, 1), (20, 2)] 3 0 = 0 by decide +kernel]
  obtain ⟨A, cap, rfl, hr⟩ := own_RI hown
  exact ⟨A, cap, rfl, hr, hb⟩
theorem o2_known (A : Option Addr) (W : World) (hr : RI W W.heap.size A [8, 16, 32]) (hz : NoneIs W) :
    Calls Tryd.prog 9 #[.agg #[.slice A 3 3], .int .i64 2] W (PairR (0, 0) W) :=
  order_ok A 3 3 [8, 16, 32] 2 W rfl (by unfold maxLen; omega) hr hz (by decide +kernel) (by omega) (by omega) 32 rfl (0, 0) (by decide +kernel)
theorem o0_known (A : Option Addr) (W : World) (hr : RI W W.heap.size A [48]) (hz : NoneIs W) :
    Calls Tryd.prog 9 #[.agg #[.slice A 1 1], .int .i64 0] W (PairR (4, 0) W) :=
  order_ok A 1 1 [48] 0 W rfl (by unfold maxLen; omega) hr hz (by decide +kernel) (by omega) (by omega) 48 rfl (4, 0) (by decide +kernel)

set_option maxRecDepth 100000 in
set_option maxHeartbeats 1600000 in
theorem known_any (w : World) (hz : NoneIs w) : Calls Tryd.prog 3 #[] w fun e w' => e = .returned (.bool true) ∧ Below w.heap.size w w' := by
  have hg : 0 < w.heap.size := World.block_lt_of_cell? _ _ hz.1
  have HZ := Lib.hid hz
  clear hz
  go_enter Tryd.func3, Tryd.ntmps3
  go_wp2_with fail
  refine (table_any _).mono ?_
  rintro e w1 ⟨A1, rfl, hr1, hb1⟩
  go_wp2_with fail
  refine (c8_known _ _ hr1).mono ?_
  rintro e w2 ⟨rfl, hb2⟩
  have B2 := hb1.trans (hb2.mono hb1.size)
  clear hr1 hb1 hb2
  go_wp2_with fail
  refine (table_any _).mono ?_
  rintro e w3 ⟨A3, rfl, hr3, hb3⟩
  go_wp2_with fail
  refine (c9_known _ _ hr3).mono ?_
  rintro e w4 ⟨rfl, hb4⟩
  have B4 := (B2.trans (hb3.mono B2.size)).trans (hb4.mono (Nat.le_trans B2.size hb3.size))
  clear hr3 hb3 hb4 B2
  go_wp2_with fail
  refine (table_any _).mono ?_
  rintro e w5 ⟨A5, rfl, hr5, hb5⟩
  go_wp2_with fail
  refine (c33_known _ _ hr5).mono ?_
  rintro e w6 ⟨rfl, hb6⟩
  have B6 := (B4.trans (hb5.mono B4.size)).trans (hb6.mono (Nat.le_trans B4.size hb5.size))
  clear hr5 hb5 hb6 B4
  go_wp2_with fail
  refine (usage_any _).mono ?_
  rintro e w7 ⟨U7, rfl, hu7, hb7⟩
  go_wp2_with fail
  refine (b1_known _ _ hu7).mono ?_
  rintro e w8 ⟨A8, c8, rfl, hr8, hb8⟩
  have B8 := (B6.trans (hb7.mono B6.size)).trans (hb8.mono (Nat.le_trans B6.size hb7.size))
  clear hu7 hb7 hb8 B6
  have k8 := Blk.new w8 27 #[.slice A8 1 c8]
  have hbA := (Below.refl w8.heap.size w8).alloc (Nat.le_refl _) (.cells #[.slice A8 1 c8] 27)
  have hr8 := RI.later hr8 hbA
  have B9 := B8.alloc B8.size (.cells #[.slice A8 1 c8] 27)
  clear hbA B8
  go_wp2_with fail
  refine (usage_any _).mono ?_
  rintro e wA ⟨UA, rfl, huA, hbA⟩
  go_wp2_with fail
  refine (b3_known _ _ huA).mono ?_
  rintro e wB ⟨AB, cB, rfl, hrB, hbB⟩
  have kB := (k8.call hbA).call hbB
  have hr8B := RI.later (RI.later hr8 hbA) hbB
  have BB := (B9.trans (hbA.mono B9.size)).trans (hbB.mono (Nat.le_trans B9.size hbA.size))
  clear huA hbA hbB B9 k8 hr8
  have kC := Blk.new wB 27 #[.slice AB 3 cB]
  have kD := kB.alloc (.cells #[.slice AB 3 cB] 27)
  have hbC := (Below.refl wB.heap.size wB).alloc (Nat.le_refl _) (.cells #[.slice AB 3 cB] 27)
  have hrC := RI.later hrB hbC
  have hrD := RI.later hr8B hbC
  have BC := BB.alloc BB.size (.cells #[.slice AB 3 cB] 27)
  clear kB hr8B BB hbC hrB
  go_wp2_with fail
  refine (table_any _).mono ?_
  rintro e wE ⟨AE, rfl, hrE, hbE⟩
  have BE := BC.trans (hbE.mono BC.size)
  have kCE := kC.call hbE
  have kDE := kD.call hbE
  have hrCE := RI.later hrC hbE
  have hrDE := RI.later hrD hbE
  clear kC kD hrC hrD BC hbE
  go_wp2_with fail
  refine (o2_known _ _ hrE (HZ.out.below BE hg)).mono ?_
  rintro e wF ⟨rfl, hbF⟩
  have BF := BE.trans (hbF.mono BE.size)
  have kCF := kCE.call hbF
  have kDF := kDE.call hbF
  have hrCF := RI.later hrCE hbF
  have hrDF := RI.later hrDE hbF
  clear kCE kDE hrCE hrDE BE hbF hrE
  go_wp2_with fail
  have kX := Blk.new wF 3 (ints [48])
  have hbX := (Below.refl wF.heap.size wF).alloc (Nat.le_refl _) (.cells (ints [48]) 3)
  refine (o0_known (some ⟨wF.heap.size, 0, none⟩) _ (RI_blk kX) (HZ.out.below (BF.trans (hbX.mono BF.size)) hg)).mono ?_
  rintro e wG ⟨rfl, hbG⟩
  have hbH := hbX.trans (hbG.mono hbX.size)
  have BG := BF.trans (hbH.mono BF.size)
  have kCG := kCF.call hbH
  have kDG := kDF.call hbH
  have hrCG := RI.later hrCF hbH
  have hrDG := RI.later hrDF hbH
  have cC := kCG.cell
  have cD := kDG.cell
  clear kCF kDF hrCF hrDF BF hbH kX hbX hbG
  go_wp2_with fail
  have kX := Blk.new wG 3 (ints [20])
  have hbX := (Below.refl wG.heap.size wG).alloc (Nat.le_refl _) (.cells (ints [20]) 3)
  refine (sameTable_any A8 (some ⟨wG.heap.size, 0, none⟩) 1 1 c8 1 [20] [20] _ rfl (by unfold maxLen; omega) rfl (by unfold maxLen; omega) (RI.later hrDG hbX) (RI_blk kX)).mono ?_
  rintro e wJ ⟨rfl, hbJ⟩
  rw [decide_eq_true (rfl : ([20] : List Int) = [20])]
  have hbK := hbX.trans (hbJ.mono hbX.size)
  have kCK := kCG.call hbK
  have cCK := kCK.cell
  have hrCK := RI.later hrCG hbK
  have BK := BG.trans (hbK.mono BG.size)
  clear cC cD kCG kDG hrCG hrDG BG kX hbX hbJ hbK
  go_wp2_with fail
  have kX := Blk.new wJ 3 (ints [5, 8, 20])
  have hbX := (Below.refl wJ.heap.size wJ).alloc (Nat.le_refl _) (.cells (ints [5, 8, 20]) 3)
  refine (sameTable_any AB (some ⟨wJ.heap.size, 0, none⟩) 3 3 cB 3 [5, 8, 20] [5, 8, 20] _ rfl (by unfold maxLen; omega) rfl (by unfold maxLen; omega) (RI.later hrCK hbX) (RI_blk kX)).mono ?_
  rintro e wL ⟨rfl, hbL⟩
  rw [decide_eq_true (rfl : ([5, 8, 20] : List Int) = [5, 8, 20])]
  have hbM := hbX.trans (hbL.mono hbX.size)
  have BM := BK.trans (hbM.mono BK.size)
  clear cCK kCK hrCK BK kX hbX hbL hbM
  go_wp2_with fail
  refine (shown_any _).mono ?_
  rintro e wN ⟨rfl, hbN⟩
  have BN := BM.trans (hbN.mono BM.size)
  clear hbN BM
  go_wp2_with fail
  go_ret
  exact ⟨rfl, BN⟩
end Go.Proofs.YtiohcegkkpeodaaDoor
