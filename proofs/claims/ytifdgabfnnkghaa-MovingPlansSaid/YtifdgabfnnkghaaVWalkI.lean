/- Walk: why a move is not possible, of the reference. -/
import Derived.Test.YtifdgabfnnkghaaVWalkH
namespace Go.Proofs.Ytifdgabfnnkghaa
open Go Go.Proofs Go.RowKit Go.Pol Go.Shelf

set_option maxRecDepth 100000 in
set_option maxHeartbeats 1600000 in
theorem refPossible_any (pages : Int) (A : Option Addr) (n cap : Nat) (bs : List B3) (m : Int × Int) (w : World) (hn : bs.length = n) (hm : n ≤ maxLen) (hr : RT w w.heap.size A bs) (hp : 0 ≤ pages ∧ pages ≤ 1024) (hall : ∀ b ∈ bs, okPl b) :
    Calls Try.prog 28 #[.int .i64 pages, .slice A n cap, .agg #[.int .i64 m.1, .int .i64 m.2]] w fun e w' => e = .returned (.int .i64 (possB pages bs m)) ∧ Below w.heap.size w w' := by
  obtain ⟨mk, mt⟩ := m
  have hm' := hm
  unfold maxLen at hm
  have hb0 := (Below.refl w.heap.size w).alloc (Nat.le_refl _) (.cells #[.int .i64 mk, .int .i64 mt] 42)
  have k0 := Blk.new w 42 #[.int .i64 mk, .int .i64 mt]
  have c0 := k0.cell
  have hE := Lib.hid (show possB pages bs (mk, mt) = if mk < 0 ∨ (n : Int) ≤ mk then 4 else if (bs.getD mk.toNat b0).2.2 = true then 9 else if insB pages mt (bs.getD mk.toNat b0).2.1 = false then 2 else if bs.any (fun c => overB c (mt, (bs.getD mk.toNat b0).2.1, false)) = true then 8 else 0 from by unfold possB; rw [hn])
  generalize possB pages bs (mk, mt) = R at *
  simp only
  by_cases h1 : mk < 0
  · have h1' : decide (mk < 0) = true := by simpa using h1
    have hR : Hid (R = 4) := Lib.hid (by rw [hE.out, if_pos (.inl h1)])
    clear hE h1 hn hall
    go_enter Try.func28, Try.ntmps28
    go_wp2_with fail
    go_ret
    exact ⟨ret_int hR.out.symm, hb0⟩
  · have h1' : decide (mk < 0) = false := by simpa using h1
    by_cases h2 : (n : Int) ≤ mk
    · have h2' : decide ((n : Int) ≤ mk) = true := by simpa using h2
      have hR : Hid (R = 4) := Lib.hid (by rw [hE.out, if_pos (.inr h2)])
      clear hE h1 h2 hn hall
      go_enter Try.func28, Try.ntmps28
      go_wp2_with fail
      go_ret
      exact ⟨ret_int hR.out.symm, hb0⟩
    · obtain ⟨k, rfl⟩ := Int.eq_ofNat_of_zero_le (show 0 ≤ mk by omega)
      have hkn : k < n := by omega
      have hk' : decide ((n : Int) ≤ (k : Int)) = false := by simp; omega
      have hE2 : Hid (R = if (bs.getD k b0).2.2 = true then 9 else if insB pages mt (bs.getD k b0).2.1 = false then 2 else if bs.any (fun c => overB c (mt, (bs.getD k b0).2.1, false)) = true then 8 else 0) := Lib.hid (by
        rw [hE.out, if_neg (by omega)]; rfl)
      obtain ⟨b, o, rfl, hbl, c1, c2, c3⟩ := (hr.on hb0).at_ (k := k) (by omega)
      have hx := hall _ (getD_memB (bs := bs) (k := k) (by omega))
      have hall' := Lib.hid hall
      clear hE h1 h2 hall
      generalize bs.getD k b0 = x at *
      obtain ⟨xa, xo, xc⟩ := x
      simp only at c1 c2 c3 hE2
      cases xc with
      | true =>
        have hR : Hid (R = 9) := Lib.hid (by rw [hE2.out, if_pos rfl])
        clear hE2 hn
        have hb1 := hb0.alloc hb0.size (.cells #[.int .i64 xa, .int .i64 xo, .bool true] 44)
        go_enter Try.func28, Try.ntmps28
        go_wp2_with fail
        go_ret
        exact ⟨ret_int hR.out.symm, hb1⟩
      | false =>
        have hE3 : Hid (R = if insB pages mt xo = false then 2 else if bs.any (fun c => overB c (mt, xo, false)) = true then 8 else 0) := Lib.hid (by rw [hE2.out, if_neg (by simp)])
        clear hE2
        have hb1 := hb0.alloc hb0.size (.cells #[.int .i64 xa, .int .i64 xo, .bool false] 44)
        have HW := Lib.hid (fun W => refIns_any pages mt xo W (by omega))
        cases hI : insB pages mt xo with
        | false =>
          rw [hI] at HW
          have hR : Hid (R = 2) := Lib.hid (by rw [hE3.out, if_pos hI])
          clear hE3 hn hI
          have k0' := k0.alloc (.cells #[.int .i64 xa, .int .i64 xo, .bool false] 44)
          go_enter Try.func28, Try.ntmps28
          go_wp2_with (go_at_call 41; refine (HW.out _).mono ?_; rintro e w1 ⟨rfl, hw1⟩; subst hw1)
          go_ret
          exact ⟨ret_int hR.out.symm, hb1⟩
        | true =>
          rw [hI] at HW
          have hy : okPl (mt, xo, false) := by
            have h' := insB_iff.1 hI
            have := pw_pos xo
            exact ⟨⟨by simp only; omega, by simp only; omega⟩, h'.1.1, h'.1.2⟩
          have hR : Hid (R = if bs.any (fun c => overB c (mt, xo, false)) = true then 8 else 0) := Lib.hid (by rw [hE3.out, if_neg (by simp [hI])])
          clear hE3 hI
          have k1 := k0.alloc (.cells #[.int .i64 xa, .int .i64 xo, .bool false] 44)
          have k2 := Blk.new (w.alloc (.cells #[.int .i64 k, .int .i64 mt] 42)) 44 #[.int .i64 xa, .int .i64 xo, .bool false]
          rw [World.size_alloc] at k2
          have hn' := Lib.hid hn
          have hrL := hr
          clear hn
          go_enter Try.func28, Try.ntmps28
          go_upto_region 8 with (first | (go_at_call 41; refine (HW.out _).mono ?_; rintro e w1 ⟨rfl, hw1⟩; subst hw1))
          clear c0 c1 c2 c3 hbl
          generalize (w.alloc (.cells #[.int .i64 k, .int .i64 mt] 42)).alloc (.cells #[.int .i64 xa, .int .i64 xo, .bool false] 44) = WB at *
          go_wp2_with fail
          go_loopw [8] (fun i wr => ∃ j : Nat, j ≤ n ∧ i = .int .i64 j ∧ Below w.heap.size w wr ∧ Blk wr w.heap.size 42 #[.int .i64 k, .int .i64 mt] ∧ Blk wr (w.heap.size + 1) 44 #[.int .i64 xa, .int .i64 xo, .bool false] ∧ Hid (∀ i, i < j → overB (bs.getD i b0) (mt, xo, false) = false)) (fun i _ => n - (intOf i).toNat)
          case atStart => exact ⟨0, by omega, rfl, hb1, k1, k2, Lib.hid (by omega)⟩
          case round =>
            obtain ⟨j, hj, rfl, hB, kM, kX, hL⟩ := hrel
            by_cases hlt : j < n
            · have hlt' : decide ((j : Int) < (n : Int)) = true := by simpa using hlt
              obtain ⟨b', o', e', _, d1, d2, d3⟩ := ((hrL.below hB).more hB.size).at_ (k := j) (by have := hn'.out; omega)
              cases e'
              have HO := Lib.hid (fun W => over_any (bs.getD j b0) (mt, xo, false) W (hall'.out _ (getD_memB (by have := hn'.out; omega))) hy)
              obtain ⟨I, hI⟩ : ∃ I, overB (bs.getD j b0) (mt, xo, false) = I := ⟨_, rfl⟩
              rw [hI] at HO
              have hI' := Lib.hid hI
              obtain ⟨y, hyy⟩ : ∃ y, bs.getD j b0 = y := ⟨_, rfl⟩
              rw [hyy] at d1 d2 d3 HO
              clear hI hyy
              obtain ⟨ya, yo, yc⟩ := y
              simp only at d1 d2 d3 HO
              have q1 := fun z : Ext wr => z.cell d1
              have q2 := fun z : Ext wr => z.cell d2
              have q3 := fun z : Ext wr => z.cell d3
              have q4 := fun z : Ext wr => (z.blk kM).cell
              have q5 := fun z : Ext wr => (z.blk kX).cell
              have G := Lib.hid (fun z : Ext wr => Ext.call (x := z) (HO.out z.w))
              cases I with
              | true =>
                have hRR : Hid (R = 8) := Lib.hid (by rw [hR.out, if_pos (List.any_eq_true.2 ⟨_, getD_memB (by have := hn'.out; omega), hI'.out⟩)])
                clear hR hL
                go_upto_region 11 with fail
                refine region_ext (by kernel_rfl) (by kernel_rfl) ?_
                repeat (go_big_quiet_step ((go_at_call 42; exact G.out _)))
                refine wpQuiet_nil ?_
                rintro w5 ⟨⟨_, hw5⟩, rfl⟩
                go_wp2_with fail
                go_ret
                exact ⟨ret_int hRR.out.symm, hB.trans (hw5.mono hB.size)⟩
              | false =>
                have hL2 : Hid (∀ i, i < j + 1 → overB (bs.getD i b0) (mt, xo, false) = false) := Lib.hid (fun i hi => by
                  by_cases h : i = j
                  · subst h; exact hI'.out
                  · exact hL.out i (by omega))
                clear hL
                go_upto_region 11 with fail
                refine region_ext (by kernel_rfl) (by kernel_rfl) ?_
                repeat (go_big_quiet_step ((go_at_call 42; exact G.out _)))
                refine wpQuiet_nil ?_
                rintro w5 ⟨⟨_, hw5⟩, rfl⟩
                go_wp2_with fail
                go_roundw
                case rel => exact ⟨j + 1, by omega, by go_num, hB.trans (hw5.mono hB.size), kM.call hw5, kX.call hw5, hL2⟩
                case measure => simp [intOf]; omega
            · obtain rfl : j = n := by omega
              have hlt' : decide ((j : Int) < (j : Int)) = false := by simp
              have hRR : Hid (R = 0) := Lib.hid (by
                rw [hR.out, if_neg]
                rw [Bool.not_eq_true, any_false_iff, all_getD (p := fun c => overB c (mt, xo, false) = false)]
                intro i hi
                exact hL.out i (by have := hn'.out; omega))
              clear hR hL
              go_wp2_with fail
              go_ret
              exact ⟨ret_int hRR.out.symm, hB⟩
end Go.Proofs.Ytifdgabfnnkghaa
