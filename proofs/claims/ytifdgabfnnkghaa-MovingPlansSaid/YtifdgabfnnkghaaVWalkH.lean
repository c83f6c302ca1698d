/- Walks: why a move is not possible (both). -/
import Derived.Test.YtifdgabfnnkghaaVWalkG
namespace Go.Proofs.Ytifdgabfnnkghaa
open Go Go.Proofs Go.RowKit Go.Pol Go.Shelf

set_option maxHeartbeats 800000 in
theorem poss1_any (B : Nat) (x y : B3) (w : World) (hx : okPl x) (hy : okPl y) (kB : Blk w B 44 #[.int .i64 y.1, .int .i64 y.2.1, .bool y.2.2]) :
    Calls Try.prog 47 #[bV x, .pointer (some ⟨B, 0, none⟩)] w fun e w' => e = .returned (.bool (overB x y)) ∧ Below w.heap.size w w' := by
  have hE := Lib.hid (show overB x y = (decide (x.1 < y.1 + pw y.2.1) && decide (y.1 < x.1 + pw x.2.1)) from rfl)
  generalize overB x y = R at *
  have HX := Lib.hid (fun W => end_any x W hx)
  have HY := Lib.hid (fun W => end_any y W hy)
  obtain ⟨a, o, c⟩ := x
  obtain ⟨a2, o2, c2⟩ := y
  simp only at hE HX HY kB ⊢
  generalize a + pw o = ea at *
  generalize a2 + pw o2 = eb at *
  have hb0 := (Below.refl w.heap.size w).alloc (Nat.le_refl _) (.cells #[.int .i64 a, .int .i64 o, .bool c] 44)
  have k0 := Blk.new w 44 #[.int .i64 a, .int .i64 o, .bool c]
  have k1 := kB.alloc (.cells #[.int .i64 a, .int .i64 o, .bool c] 44)
  have q0 := fun z : Ext (w.alloc (.cells #[.int .i64 a, .int .i64 o, .bool c] 44)) => (z.blk k0).cell
  have q1 := fun z : Ext (w.alloc (.cells #[.int .i64 a, .int .i64 o, .bool c] 44)) => (z.blk k1).cell
  have G := Lib.hid (fun z : Ext (w.alloc (.cells #[.int .i64 a, .int .i64 o, .bool c] 44)) => Ext.call (x := z) (HX.out z.w))
  have G2 := Lib.hid (fun z : Ext (w.alloc (.cells #[.int .i64 a, .int .i64 o, .bool c] 44)) => Ext.call (x := z) (HY.out z.w))
  clear HX HY hx hy
  by_cases h1 : a < eb
  · have h1' : decide (a < eb) = true := by simpa using h1
    rw [h1'] at hE
    clear h1
    go_enter Try.func47, Try.ntmps47
    go_upto_region 1 with fail
    refine region_ext (by kernel_rfl) (by kernel_rfl) ?_
    iterate 4 go_big_quiet_step ((go_at_call 39; exact G2.out _))
    repeat (go_big_quiet_step ((go_at_call 39; exact G.out _)))
    refine wpQuiet_nil ?_
    rintro w1 ⟨⟨_, hw1⟩, rfl⟩
    go_wp2_with fail
    go_ret
    exact ⟨ret_bool (by rw [hE.out]; simp), hb0.trans (hw1.mono hb0.size)⟩
  · have h1' : decide (a < eb) = false := by simpa using h1
    rw [h1'] at hE
    clear h1
    go_enter Try.func47, Try.ntmps47
    go_upto_region 1 with fail
    refine region_ext (by kernel_rfl) (by kernel_rfl) ?_
    iterate 4 go_big_quiet_step ((go_at_call 39; exact G2.out _))
    repeat (go_big_quiet_step ((go_at_call 39; exact G.out _)))
    refine wpQuiet_nil ?_
    rintro w1 ⟨⟨_, hw1⟩, rfl⟩
    go_wp2_with fail
    go_ret
    exact ⟨ret_bool (by rw [hE.out]; simp), hb0.trans (hw1.mono hb0.size)⟩
theorem poss1_enters : ∀ args w, (callFunc 47 args).run Try.prog w = .ok (.enter 47 args) w := enters_of Try.func47 (by kernel_rfl) rfl
set_option maxRecDepth 100000 in
set_option maxHeartbeats 1600000 in
theorem possible_any (pages : Int) (A : Option Addr) (n cap : Nat) (bs : List B3) (m : Int × Int) (w : World) (hn : bs.length = n) (hm : n ≤ maxLen) (hr : RT w w.heap.size A bs) (hp : 0 ≤ pages ∧ pages ≤ 1024) (hall : ∀ b ∈ bs, okPl b) :
    Calls Try.prog 27 #[.int .i64 pages, .slice A n cap, .agg #[.int .i64 m.1, .int .i64 m.2]] w fun e w' => e = .returned (.int .i64 (possB pages bs m)) ∧ Below w.heap.size w w' := by
  obtain ⟨mk, mt⟩ := m
  have hm' := hm
  unfold maxLen at hm
  have hb0 := (Below.refl w.heap.size w).alloc (Nat.le_refl _) (.cells #[.int .i64 mk, .int .i64 mt] 42)
  have k0 := Blk.new w 42 #[.int .i64 mk, .int .i64 mt]
  have c0 := k0.cell
  have hE := Lib.hid (show possB pages bs (mk, mt) = if mk < 0 ∨ (n : Int) ≤ mk then 4 else if (bs.getD mk.toNat b0).2.2 = true then 9 else if insB pages mt (bs.getD mk.toNat b0).2.1 = false then 2 else if bs.any (fun c => overB c (mt, (bs.getD mk.toNat b0).2.1, false)) = true then 8 else 0 from by unfold possB; rw [hn])
  generalize possB pages bs (mk, mt) = R at *
  simp only
  by_cases h1 : mk < 0
  · have h1' : decide (mk < 0) = true := by simpa using h1
    have hR : Hid (R = 4) := Lib.hid (by rw [hE.out, if_pos (.inl h1)])
    clear hE h1 hn hall
    go_enter Try.func27, Try.ntmps27
    go_wp2_with fail
    go_ret
    exact ⟨ret_int hR.out.symm, hb0⟩
  · have h1' : decide (mk < 0) = false := by simpa using h1
    by_cases h2 : (n : Int) ≤ mk
    · have h2' : decide ((n : Int) ≤ mk) = true := by simpa using h2
      have hR : Hid (R = 4) := Lib.hid (by rw [hE.out, if_pos (.inr h2)])
      clear hE h1 h2 hn hall
      go_enter Try.func27, Try.ntmps27
      go_wp2_with fail
      go_ret
      exact ⟨ret_int hR.out.symm, hb0⟩
    · obtain ⟨k, rfl⟩ := Int.eq_ofNat_of_zero_le (show 0 ≤ mk by omega)
      have hkn : k < n := by omega
      have hk' : decide ((n : Int) ≤ (k : Int)) = false := by simp; omega
      have hE2 : Hid (R = if (bs.getD k b0).2.2 = true then 9 else if insB pages mt (bs.getD k b0).2.1 = false then 2 else if bs.any (fun c => overB c (mt, (bs.getD k b0).2.1, false)) = true then 8 else 0) := Lib.hid (by
        rw [hE.out, if_neg (by omega)]; rfl)
      obtain ⟨b, o, rfl, hbl, c1, c2, c3⟩ := (hr.on hb0).at_ (k := k) (by omega)
      have hx := hall _ (getD_memB (bs := bs) (k := k) (by omega))
      have hall' := Lib.hid hall
      clear hE h1 h2 hall
      generalize bs.getD k b0 = x at *
      obtain ⟨xa, xo, xc⟩ := x
      simp only at c1 c2 c3 hE2
      cases xc with
      | true =>
        have hR : Hid (R = 9) := Lib.hid (by rw [hE2.out, if_pos rfl])
        clear hE2 hn
        have hb1 := hb0.alloc hb0.size (.cells #[.int .i64 xa, .int .i64 xo, .bool true] 44)
        go_enter Try.func27, Try.ntmps27
        go_wp2_with fail
        go_ret
        exact ⟨ret_int hR.out.symm, hb1⟩
      | false =>
        have hE3 : Hid (R = if insB pages mt xo = false then 2 else if bs.any (fun c => overB c (mt, xo, false)) = true then 8 else 0) := Lib.hid (by rw [hE2.out, if_neg (by simp)])
        clear hE2
        have hb1 := hb0.alloc hb0.size (.cells #[.int .i64 xa, .int .i64 xo, .bool false] 44)
        have HW := Lib.hid (fun W => wrong_any pages mt xo W (by omega))
        cases hI : insB pages mt xo with
        | false =>
          rw [hI] at HW
          have hR : Hid (R = 2) := Lib.hid (by rw [hE3.out, if_pos hI])
          clear hE3 hn hI
          have k0' := k0.alloc (.cells #[.int .i64 xa, .int .i64 xo, .bool false] 44)
          go_enter Try.func27, Try.ntmps27
          go_wp2_with (go_at_call 34; refine (HW.out _).mono ?_; rintro e w1 ⟨rfl, hw1⟩; subst hw1)
          go_ret
          exact ⟨ret_int hR.out.symm, hb1⟩
        | true =>
          rw [hI] at HW
          have hy : okPl (mt, xo, false) := by
            have h' := insB_iff.1 hI
            have := pw_pos xo
            exact ⟨⟨by simp only; omega, by simp only; omega⟩, h'.1.1, h'.1.2⟩
          have hR : Hid (R = if bs.any (fun c => overB c (mt, xo, false)) = true then 8 else 0) := Lib.hid (by rw [hE3.out, if_neg (by simp [hI])])
          clear hE3 hI
          obtain ⟨WB, hWB⟩ : ∃ WB, (w.alloc (.cells #[.int .i64 k, .int .i64 mt] 42)).alloc (.cells #[.int .i64 mt, .int .i64 xo, .bool false] 44) = WB := ⟨_, rfl⟩
          have kS := Blk.new (w.alloc (.cells #[.int .i64 k, .int .i64 mt] 42)) 44 #[.int .i64 mt, .int .i64 xo, .bool false]
          rw [World.size_alloc] at kS
          have hb2 := hb0.alloc hb0.size (.cells #[.int .i64 mt, .int .i64 xo, .bool false] 44)
          have hr2 := (hr.below hb2).more hb2.size
          rw [hWB] at kS hb2 hr2
          have HC := Lib.hid (containsT_any (fun c => overB c (mt, xo, false)) 47 #[.pointer (some ⟨w.heap.size + 1, 0, none⟩)] (some ⟨b, o, none⟩) n cap bs WB hn hm' hr2 poss1_enters (fun c hc W hW => poss1_any _ c (mt, xo, false) W (hall'.out c hc) hy (kS.call hW)))
          generalize bs.any (fun c => overB c (mt, xo, false)) = S at *
          have hWB' := Lib.hid hWB
          clear kS hr2 hn hWB
          cases S with
          | true =>
            have hRR : Hid (R = 8) := Lib.hid (by rw [hR.out, if_pos rfl])
            clear hR
            go_enter Try.func27, Try.ntmps27
            go_wp2_with (first | (go_at_call 34; refine (HW.out _).mono ?_; rintro e w1 ⟨rfl, hw1⟩; subst hw1))
            rw [hWB'.out]
            refine HC.out.mono ?_
            rintro e w3 ⟨rfl, hb3⟩
            go_wp2_with fail
            go_ret
            exact ⟨ret_int hRR.out.symm, hb2.trans (hb3.mono hb2.size)⟩
          | false =>
            have hRR : Hid (R = 0) := Lib.hid (by rw [hR.out, if_neg (by simp)])
            clear hR
            go_enter Try.func27, Try.ntmps27
            go_wp2_with (first | (go_at_call 34; refine (HW.out _).mono ?_; rintro e w1 ⟨rfl, hw1⟩; subst hw1))
            rw [hWB'.out]
            refine HC.out.mono ?_
            rintro e w3 ⟨rfl, hb3⟩
            go_wp2_with fail
            go_ret
            exact ⟨ret_int hRR.out.symm, hb2.trans (hb3.mono hb2.size)⟩
end Go.Proofs.Ytifdgabfnnkghaa
