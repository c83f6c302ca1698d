/- Walks: the checks of layer 18, and classes of sizes. -/
import Derived.Test.YtiohcegkkpeodaaDoorChecked
import Derived.Test.YtiohcegkkpeodaaDoorLib
import Derived.Test.YtiohcegkkpeodaaDoorSpecA
namespace Go.Proofs.YtiohcegkkpeodaaDoor
open Go Go.Proofs Go.RowKit Go.Pol

theorem isSize_any (n : Int) (w : World) :
    Calls Tryd.prog 18 #[.int .i64 n] w fun e w' => e = .returned (.bool (isSz n)) ∧ w = w' := by
  go_enter Tryd.func18, Tryd.ntmps18
  by_cases h : 1 ≤ n
  · have h' : decide (1 ≤ n) = true := by simpa using h
    go_wp2
    go_ret
    simp [isSz, h']
  · have h' : decide (1 ≤ n) = false := by simpa using h
    go_wp2
    go_ret
    simp [isSz, h']

theorem refSize_any (n : Int) (w : World) :
    Calls Tryd.prog 41 #[.int .i64 n] w fun e w' => e = .returned (.bool (isSz n)) ∧ w = w' := by
  go_enter Tryd.func41, Tryd.ntmps41
  by_cases h : 1 ≤ n
  · have h' : decide (1 ≤ n) = true := by simpa using h
    go_wp2
    go_ret
    simp [isSz, h']
  · have h' : decide (1 ≤ n) = false := by simpa using h
    go_wp2
    go_ret
    simp [isSz, h']

set_option maxHeartbeats 400000 in
theorem check_any (A : Option Addr) (n cap : Nat) (xs : List Int) (w : World) (hn : xs.length = n) (hm : n ≤ maxLen) (hr : RI w w.heap.size A xs) :
    Calls Tryd.prog 17 #[.agg #[.slice A n cap]] w fun e w' => e = .returned (.int .i64 (chkT xs)) ∧ Below w.heap.size w w' := by
  unfold maxLen at hm
  have hb0 : Below w.heap.size w (w.alloc (Obj.cells #[Value.slice A n cap] 27)) := (Below.refl _ _).alloc (Nat.le_refl _) _
  have hn' := Lib.hid hn
  clear hn
  go_enter Tryd.func17, Tryd.ntmps17
  go_wp2
  · go_ret
    exact ⟨ret_int (by unfold chkT; rw [hn'.out, if_pos (by omega)]), hb0⟩
  · go_ret
    have h0 : ((n : Int) == 0) = true := by assumption
    rw [beq_iff_eq] at h0
    exact ⟨ret_int (by unfold chkT; rw [hn'.out, if_neg (by omega), if_pos (by omega)]), hb0⟩
  · have h0 : ((n : Int) == 0) = false := by assumption
    have hT : Hid (chkT xs = chkL 0 xs) := Lib.hid (by unfold chkT; rw [beq_eq_false_iff_ne] at h0; rw [hn'.out, if_neg (by omega), if_neg (by omega)])
    generalize ((n : Int) == 0) = c1
    generalize decide (64 < (n : Int)) = c2
    clear h0
    go_loop [3, 19] (fun last i => ∃ (k l : Int), 0 ≤ k ∧ k ≤ n ∧ i = .int .i64 k ∧ last = .int .i64 l ∧ Hid (chkL 0 xs = chkL l (xs.drop k.toNat))) (fun _ i => n - (intOf i).toNat)
    case atStart => exact ⟨0, 0, by omega, by omega, rfl, rfl, Lib.hid rfl⟩
    case round =>
      obtain ⟨k, l, hk0, hk, rfl, rfl, hL⟩ := hrel
      by_cases hlt : k < n
      · obtain ⟨b, o, rfl, hb, hc⟩ := RI.at_ (hr.below hb0) (k := k.toNat) (by have := hn'.out; omega)
        have hd := Lib.hid (drop_cons 0 xs k.toNat (by have := hn'.out; omega))
        have hsucc : Hid ((k+1).toNat = k.toNat + 1) := Lib.hid (by omega)
        clear hb
        generalize xs.getD k.toNat 0 = x at *
        go_wp2_with (go_at_call 18; refine (isSize_any _ _).mono ?_; rintro e w' ⟨rfl, rfl⟩)
        · go_ret
          refine ⟨ret_int ?_, hb0⟩
          rw [hT.out, hL.out, hd.out]; simp_all [chkL]
        · go_ret
          refine ⟨ret_int ?_, hb0⟩
          rw [hT.out, hL.out, hd.out]; simp_all [chkL]
        · have h0 : (!isSz x) = false := by assumption
          have h1 : isSz x = true := by simpa using h0
          have h2 : l < x := by assumption
          have hst : Hid (chkL 0 xs = chkL x (xs.drop (k+1).toNat)) := Lib.hid (by rw [hL.out, hd.out, hsucc.out, chkL, if_neg (by simp [h1]), if_neg (by omega)])
          go_round
          case rel => exact ⟨k+1, x, by omega, by omega, rfl, rfl, hst⟩
          case measure => simp [intOf]; omega
      · go_wp2
        go_ret
        refine ⟨ret_int ?_, hb0⟩
        rw [hT.out, hL.out, List.drop_of_length_le (by have := hn'.out; omega)]; rfl

set_option maxHeartbeats 400000 in
theorem refCheck_any (A : Option Addr) (n cap : Nat) (xs : List Int) (w : World) (hn : xs.length = n) (hm : n ≤ maxLen) (hr : RI w w.heap.size A xs) :
    Calls Tryd.prog 32 #[.agg #[.slice A n cap]] w fun e w' => e = .returned (.int .i64 (chkT xs)) ∧ Below w.heap.size w w' := by
  unfold maxLen at hm
  have hb0 : Below w.heap.size w (w.alloc (Obj.cells #[Value.slice A n cap] 27)) := (Below.refl _ _).alloc (Nat.le_refl _) _
  have hn' := Lib.hid hn
  clear hn
  go_enter Tryd.func32, Tryd.ntmps32
  go_wp2
  · go_ret
    exact ⟨ret_int (by unfold chkT; rw [hn'.out, if_pos (by omega)]), hb0⟩
  · go_ret
    have h0 : ((n : Int) == 0) = true := by assumption
    rw [beq_iff_eq] at h0
    exact ⟨ret_int (by unfold chkT; rw [hn'.out, if_neg (by omega), if_pos (by omega)]), hb0⟩
  have h0 : ((n : Int) == 0) = false := by assumption
  have hT : Hid (chkT xs = chkL 0 xs) := Lib.hid (by unfold chkT; rw [beq_eq_false_iff_ne] at h0; rw [hn'.out, if_neg (by omega), if_neg (by omega)])
  generalize ((n : Int) == 0) = c1
  generalize decide (64 < (n : Int)) = c2
  clear h0
  go_loopw [3] (fun i wr => ∃ (k : Int), 0 ≤ k ∧ k ≤ n ∧ i = .int .i64 k ∧ Below (w.heap.size + 1) (w.alloc (Obj.cells #[Value.slice A n cap] 27)) wr ∧ Hid (chkL 0 xs = chkL (prev xs k.toNat) (xs.drop k.toNat))) (fun i _ => n - (intOf i).toNat)
  case atStart => exact ⟨0, by omega, by omega, rfl, Below.refl _ _, Lib.hid rfl⟩
  case round =>
    obtain ⟨k, hk1, hk, rfl, hB, hL⟩ := hrel
    have hbox : wr.cell? ⟨w.heap.size, 0, none⟩ = some (Value.slice A n cap) := (hB.cell (p := ⟨w.heap.size, 0, none⟩) (by simp)).trans (by simp [go_sem])
    have hb1 := hb0.trans (hB.mono (by omega))
    have hr1 := hr.below hb1
    clear hb0
    by_cases hlt : k < n
    · obtain ⟨b, o, rfl, hb, hc⟩ := RI.at_ hr1 (k := k.toNat) (by have := hn'.out; omega)
      have hst := Lib.hid (chkL_step xs k.toNat (by have := hn'.out; omega))
      have hsucc : Hid ((k+1).toNat = k.toNat + 1) := Lib.hid (by omega)
      generalize hx : xs.getD k.toNat 0 = x at *
      have hx' := Lib.hid hx; clear hx hb
      by_cases hs : isSz x = true
      · have hcx := fun y : Ext wr => y.cell hc
        have hbx := fun y : Ext wr => y.cell hbox
        have hx1 := (isSz_iff.1 hs).1
        by_cases hk0 : k ≤ 0
        · have hk0' : decide (0 < k) = false := by simp; omega
          have hp : Hid (prev xs k.toNat = 0) := Lib.hid (by simp [prev]; omega)
          go_wp2_with (go_at_call 41; refine (refSize_any _ _).mono ?_; rintro e w' ⟨rfl, rfl⟩)
          refine region_ext (by kernel_rfl) (by kernel_rfl) ?_
          repeat (go_big_quiet_step (fail))
          refine wpQuiet_nil ?_
          rintro w1 ⟨⟨_, hw1⟩, rfl⟩
          go_wp2
          go_roundw
          case rel => exact ⟨k+1, by omega, by omega, rfl, hB.trans (hw1.mono (by simpa using hB.size)), Lib.hid (by rw [hL.out, hst.out, hsucc.out, hp.out, if_neg (by simp [hs]), if_neg (by omega)])⟩
          case measure => simp [intOf]; omega
        · have hk0' : decide (0 < k) = true := by simp; omega
          obtain ⟨b', o', had, hb, hc1⟩ := RI.at_ hr1 (k := k.toNat - 1) (by have := hn'.out; omega)
          obtain ⟨rfl, rfl⟩ : b = b' ∧ o = o' := by simpa using had
          clear had
          have hcx1 := fun y : Ext wr => y.cell hc1
          have hp : Hid (prev xs k.toNat = xs.getD (k.toNat-1) 0) := Lib.hid (by simp only [prev]; rw [if_neg (by omega)])
          clear hb
          generalize xs.getD (k.toNat-1) 0 = y at *
          by_cases hxy : x ≤ y
          · go_wp2_with (go_at_call 41; refine (refSize_any _ _).mono ?_; rintro e w' ⟨rfl, rfl⟩)
            refine region_ext (by kernel_rfl) (by kernel_rfl) ?_
            repeat (go_big_quiet_step (fail))
            refine wpQuiet_nil ?_
            rintro w1 ⟨⟨_, hw1⟩, rfl⟩
            go_wp2
            go_ret
            exact ⟨ret_int (by rw [hT.out, hL.out, hst.out, hp.out, if_neg (by simp [hs]), if_pos hxy]), hb1.trans (hw1.mono hb1.size)⟩
          · go_wp2_with (go_at_call 41; refine (refSize_any _ _).mono ?_; rintro e w' ⟨rfl, rfl⟩)
            refine region_ext (by kernel_rfl) (by kernel_rfl) ?_
            repeat (go_big_quiet_step (fail))
            refine wpQuiet_nil ?_
            rintro w1 ⟨⟨_, hw1⟩, rfl⟩
            go_wp2
            go_roundw
            case rel => exact ⟨k+1, by omega, by omega, rfl, hB.trans (hw1.mono (by simpa using hB.size)), Lib.hid (by rw [hL.out, hst.out, hsucc.out, hp.out, if_neg (by simp [hs]), if_neg (by omega)])⟩
            case measure => simp [intOf]; omega
      · have hs' : isSz x = false := by simpa using hs
        clear hs
        go_wp2_with (go_at_call 41; refine (refSize_any _ _).mono ?_; rintro e w' ⟨rfl, rfl⟩)
        go_ret
        exact ⟨ret_int (by rw [hT.out, hL.out, hst.out, if_pos hs']), hb1⟩
    · go_wp2
      go_ret
      refine ⟨ret_int ?_, hb1⟩
      rw [hT.out, hL.out, List.drop_of_length_le (by have := hn'.out; omega)]; rfl

set_option maxHeartbeats 400000 in
theorem sameTable_any (A B : Option Addr) (n m cap cap' : Nat) (xs ys : List Int) (w : World) (hn : xs.length = n) (hm : n ≤ maxLen) (hn2 : ys.length = m) (hm2 : m ≤ maxLen) (hr : RI w w.heap.size A xs) (hs : RI w w.heap.size B ys) :
    Calls Tryd.prog 10 #[.agg #[.slice A n cap], .agg #[.slice B m cap']] w fun e w' => e = .returned (.bool (decide (xs = ys))) ∧ Below w.heap.size w w' := by
  unfold maxLen at hm hm2
  have hb0 : Below w.heap.size w ((w.alloc (Obj.cells #[Value.slice A n cap] 27)).alloc (Obj.cells #[Value.slice B m cap'] 27)) := ((Below.refl _ _).alloc (Nat.le_refl _) _).alloc (by simp) _
  have hn' := Lib.hid hn
  have hm' := Lib.hid hn2
  clear hn hn2
  by_cases hnm : n = m
  case neg =>
    have hne : ((n : Int) != m) = true := by rw [bne_iff_ne]; omega
    have H : Hid (decide (xs = ys) = false) := Lib.hid (by rw [decide_eq_false_iff_not]; rintro rfl; exact hnm (hn'.out.symm.trans hm'.out))
    go_enter Tryd.func10, Tryd.ntmps10
    go_wp2
    go_ret
    exact ⟨ret_bool H.out.symm, hb0⟩
  case pos =>
    subst hnm
    have hne : ((n : Int) != n) = false := by simp
    go_enter Tryd.func10, Tryd.ntmps10
    go_wp2
    go_loopw [5] (fun i wr => ∃ (k : Int), 0 ≤ k ∧ k ≤ n ∧ i = .int .i64 k ∧ Below (w.heap.size + 2) ((w.alloc (Obj.cells #[Value.slice A n cap] 27)).alloc (Obj.cells #[Value.slice B n cap'] 27)) wr ∧ Hid (xs = ys ↔ xs.drop k.toNat = ys.drop k.toNat)) (fun i _ => n - (intOf i).toNat)
    case atStart => exact ⟨0, by omega, by omega, rfl, Below.refl _ _, Lib.hid (by simp)⟩
    case round =>
      obtain ⟨k, hk1, hk, rfl, hB, hL⟩ := hrel
      have hbox : wr.cell? ⟨w.heap.size, 0, none⟩ = some (Value.slice A n cap) := (hB.cell (p := ⟨w.heap.size, 0, none⟩) (by simp)).trans (by simp [go_sem])
      have hbox2 : wr.cell? ⟨w.heap.size + 1, 0, none⟩ = some (Value.slice B n cap') := (hB.cell (p := ⟨w.heap.size + 1, 0, none⟩) (by simp)).trans (by simp [go_sem])
      have hb1 := hb0.trans (hB.mono (by omega))
      have hr1 := hr.below hb1
      have hs1 := hs.below hb1
      clear hb0
      by_cases hlt : k < n
      · obtain ⟨b, o, rfl, _, hc⟩ := RI.at_ hr1 (k := k.toNat) (by have := hn'.out; omega)
        obtain ⟨b2, o2, rfl, _, hc2⟩ := RI.at_ hs1 (k := k.toNat) (by have := hm'.out; omega)
        have hd1 := Lib.hid (drop_cons 0 xs k.toNat (by have := hn'.out; omega))
        have hd2 := Lib.hid (drop_cons 0 ys k.toNat (by have := hm'.out; omega))
        have hsucc : Hid ((k+1).toNat = k.toNat + 1) := Lib.hid (by omega)
        generalize xs.getD k.toNat 0 = x at *
        generalize ys.getD k.toNat 0 = y at *
        have hcx := fun y : Ext wr => y.cell hc
        have hcy := fun y : Ext wr => y.cell hc2
        have hbx := fun y : Ext wr => y.cell hbox
        have hbx2 := fun y : Ext wr => y.cell hbox2
        by_cases hxy : x = y
        · have hxy' : (x != y) = false := by simpa using hxy
          have hst : Hid (xs = ys ↔ xs.drop (k+1).toNat = ys.drop (k+1).toNat) := Lib.hid (by rw [hL.out, hd1.out, hd2.out, hsucc.out]; simp [hxy])
          clear hxy
          go_wp2
          refine region_ext (by kernel_rfl) (by kernel_rfl) ?_
          repeat (go_big_quiet_step (fail))
          refine wpQuiet_nil ?_
          rintro w1 ⟨⟨_, hw1⟩, rfl⟩
          go_wp2
          go_roundw
          case rel => exact ⟨k+1, by omega, by omega, rfl, hB.trans (hw1.mono (by simpa using hB.size)), hst⟩
          case measure => simp [intOf]; omega
        · have hxy' : (x != y) = true := by simpa using hxy
          go_wp2
          refine region_ext (by kernel_rfl) (by kernel_rfl) ?_
          repeat (go_big_quiet_step (fail))
          refine wpQuiet_nil ?_
          rintro w1 ⟨⟨_, hw1⟩, rfl⟩
          go_wp2
          go_ret
          have : decide (xs = ys) = false := by rw [decide_eq_false_iff_not, hL.out, hd1.out, hd2.out]; simp [hxy]
          exact ⟨ret_bool this.symm, hb1.trans (hw1.mono hb1.size)⟩
      · go_wp2
        go_ret
        have : decide (xs = ys) = true := by rw [decide_eq_true_eq, hL.out, List.drop_of_length_le (by have := hn'.out; omega), List.drop_of_length_le (by have := hm'.out; omega)]
        exact ⟨ret_bool this.symm, hb1⟩

end Go.Proofs.YtiohcegkkpeodaaDoor
