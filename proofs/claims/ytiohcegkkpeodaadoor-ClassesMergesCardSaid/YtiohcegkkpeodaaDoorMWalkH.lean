/- Walks: Order of the program, errors and all; the law ClassesMerges. -/
import Derived.Test.YtiohcegkkpeodaaDoorMWalkF
import Derived.Test.YtiohcegkkpeodaaDoorMWalkG
import Derived.Test.YtiohcegkkpeodaaDoorWalkK
namespace Go.Proofs.YtiohcegkkpeodaaDoor
open Go Go.Proofs Go.RowKit Go.Pol
set_option maxRecDepth 100000 in
theorem order_any (A : Option Addr) (n cap : Nat) (xs : List Int) (c : Int) (w : World) (hn : xs.length = n) (hm : n ≤ maxLen) (hr : RI w w.heap.size A xs) (hz : NoneIs w) :
    Calls Tryd.prog 9 #[.agg #[.slice A n cap], .int .i64 c] w (OrdR (ordT xs c) w) := by
  have HCK := Lib.hid (fun W (h : RI W W.heap.size A xs) => check_any A n cap xs W hn hm h)
  have hb0 := (Below.refl w.heap.size w).alloc (Nat.le_refl _) (.cells #[Value.slice A n cap] 27)
  have k0 := Blk.new w 27 #[Value.slice A n cap]
  have hr0 := (hr.below hb0).more (B' := (w.alloc (Obj.cells #[Value.slice A n cap] 27)).heap.size) (by simp)
  by_cases h1 : chkT xs = 0
  · by_cases h2 : c < 0
    · have h2' : decide (c < 0) = true := by simpa using h2
      have h1' : (chkT xs != 0) = false := by simp [h1]
      have hE : Hid (ordT xs c = (0, 7)) := Lib.hid (by unfold ordT; rw [if_pos h1, if_pos (.inl h2)])
      clear h1 h2 hn
      generalize ordT xs c = R at *
      generalize chkT xs = ck at *
      go_enter Tryd.func9, Tryd.ntmps9
      go_wp2_with fail
      refine (HCK.out _ hr0).mono ?_
      rintro e w1 ⟨rfl, hb1⟩
      have B1 := hb0.trans (hb1.mono hb0.size)
      go_wp2_with fail
      go_ret2
      exact ⟨by rw [hE.out]; rfl, B1⟩
    · by_cases h3 : (n : Int) ≤ c
      · have h2' : decide (c < 0) = false := by simpa using h2
        have h3' : decide ((n : Int) ≤ c) = true := by simpa using h3
        have h1' : (chkT xs != 0) = false := by simp [h1]
        have hE : Hid (ordT xs c = (0, 7)) := Lib.hid (by unfold ordT; rw [if_pos h1, if_pos (.inr (by rw [hn]; exact h3))])
        clear h1 h2 h3 hn
        generalize ordT xs c = R at *
        generalize chkT xs = ck at *
        unfold maxLen at hm
        go_enter Tryd.func9, Tryd.ntmps9
        go_wp2_with fail
        refine (HCK.out _ hr0).mono ?_
        rintro e w1 ⟨rfl, hb1⟩
        have B1 := hb0.trans (hb1.mono hb0.size)
        have c1 := (k0.call hb1).cell
        go_wp2_with fail
        go_ret2
        exact ⟨by rw [hE.out]; rfl, B1⟩
      · have hE : ordT xs c = (if (ordS (xs.getD c.toNat 0) 5).1 = (-1, -1) then (0, 4) else ((ordS (xs.getD c.toNat 0) 5).2, 0)) := by unfold ordT; rw [if_pos h1, if_neg (by rw [hn]; omega)]
        exact order_ok A n cap xs c w hn hm hr hz h1 (by omega) (by omega) _ rfl _ hE.symm
  · have h1' : (chkT xs != 0) = true := by simpa using h1
    have hE : Hid (ordT xs c = (0, chkT xs)) := Lib.hid (by unfold ordT; rw [if_neg h1])
    clear h1 hn
    generalize ordT xs c = R at *
    generalize chkT xs = ck at *
    go_enter Tryd.func9, Tryd.ntmps9
    go_wp2_with fail
    refine (HCK.out _ hr0).mono ?_
    rintro e w1 ⟨rfl, hb1⟩
    have B1 := hb0.trans (hb1.mono hb0.size)
    go_wp2_with fail
    go_ret2
    exact ⟨by rw [hE.out]; rfl, B1⟩

theorem RI.on' {w w' : World} {A : Option Addr} {xs : List Int} (h : RI w w.heap.size A xs) (hb : Below w.heap.size w w') : RI w' w'.heap.size A xs := (h.below hb).more hb.size
set_option maxRecDepth 100000 in
set_option maxHeartbeats 8000000 in
theorem mergesFar_any (A U V : Option Addr) (n cap m ucap m2 vcap : Nat) (c : Int) (w : World) (hn2 : n ≤ maxLen) (hm : m ≤ maxLen) (hm2 : m2 ≤ maxLen) (hf : ((decide (70 < n) || decide (210 < m)) || (decide (70 < n) || decide (210 < m2))) = true) :
    Calls Tryd.prog 4 #[.agg #[.slice U m ucap, .slice V m2 vcap], .agg #[.slice A n cap], .int .i64 c] w fun e w' => e = .returned (.bool true) ∧ Below w.heap.size w w' := by
  have HF1 := Lib.hid (fun W b hb => far_any A U n cap m ucap W b hb hn2 hm)
  have HF2 := Lib.hid (fun W b hb => far_any A V n cap m2 vcap W b hb hn2 hm2)
  obtain ⟨s, hs⟩ : ∃ s, w.heap.size = s := ⟨_, rfl⟩
  have B2 := ((Below.refl w.heap.size w).alloc (Nat.le_refl _) (.cells #[.slice U m ucap, .slice V m2 vcap] 36)).alloc (by simp) (.cells #[.slice A n cap] 27)
  have kU2 := (Blk.new w 36 #[.slice U m ucap, .slice V m2 vcap]).alloc (.cells #[.slice A n cap] 27)
  have kT2 := Blk.new (w.alloc (.cells #[.slice U m ucap, .slice V m2 vcap] 36)) 27 #[.slice A n cap]
  rw [World.size_alloc] at kT2
  go_enter Tryd.func4, Tryd.ntmps4
  go_upto_region 1 with fail
  rw [hs] at kT2 kU2
  have hs' := Lib.hid hs
  generalize (w.alloc (.cells #[.slice U m ucap, .slice V m2 vcap] 36)).alloc (.cells #[.slice A n cap] 27) = w2 at *
  have cT2 := kT2.cell
  have cU2 := kU2.cell
  by_cases h1 : (decide (70 < n) || decide (210 < m)) = true
  · have C1 := Lib.hid (HF1.out w2 true h1.symm)
    clear hf HF1 HF2 h1
    go_wp2_with fail
    refine C1.out.mono ?_
    rintro e w3 ⟨rfl, hb3⟩
    have B3 := B2.trans (hb3.mono B2.size)
    go_wp2_with fail
    refine (shown_any _).mono ?_
    rintro e wz ⟨rfl, hbz⟩
    go_wp2_with fail
    go_ret
    exact ⟨rfl, B3.trans (hbz.mono B3.size)⟩
  · have h1' : (decide (70 < n) || decide (210 < m)) = false := by simpa using h1
    have h2 : (decide (70 < n) || decide (210 < m2)) = true := by rw [h1'] at hf; simpa using hf
    have C1 := Lib.hid (HF1.out w2 false h1'.symm)
    have C2 := Lib.hid (fun W => HF2.out W true h2.symm)
    clear hf HF1 HF2 h1 h1' h2
    go_wp2_with fail
    refine C1.out.mono ?_
    rintro e w3 ⟨rfl, hb3⟩
    have B3 := B2.trans (hb3.mono B2.size)
    have cT3 := (kT2.call hb3).cell
    have cU3 := (kU2.call hb3).cell
    go_wp2_with fail
    refine (C2.out _).mono ?_
    rintro e w4 ⟨rfl, hb4⟩
    have B4 := B3.trans (hb4.mono B3.size)
    go_wp2_with fail
    refine (shown_any _).mono ?_
    rintro e wz ⟨rfl, hbz⟩
    go_wp2_with fail
    go_ret
    exact ⟨rfl, B4.trans (hbz.mono B4.size)⟩
set_option maxRecDepth 100000 in
set_option maxHeartbeats 16000000 in
theorem mergesNear_any (A U V : Option Addr) (n cap m ucap m2 vcap : Nat) (xs : List Int) (us vs : List (Int × Int)) (c : Int) (w : World) (hn : xs.length = n) (hn2 : n ≤ maxLen) (hr : RI w w.heap.size A xs)
    (hun : us.length = m) (hum : m ≤ maxLen) (hur : RU w w.heap.size U us) (huz : U = none → ucap = 0) (hvn : vs.length = m2) (hvm : m2 ≤ maxLen) (hvr : RU w w.heap.size V vs) (hvz : V = none → vcap = 0) (hz : NoneIs w)
    (h1' : (decide (70 < n) || decide (210 < m)) = false) (h2' : (decide (70 < n) || decide (210 < m2)) = false) :
    Calls Tryd.prog 4 #[.agg #[.slice U m ucap, .slice V m2 vcap], .agg #[.slice A n cap], .int .i64 c] w fun e w' => e = .returned (.bool true) ∧ Below w.heap.size w w' := by
  obtain ⟨s, hs⟩ : ∃ s, w.heap.size = s := ⟨_, rfl⟩
  have HF1 := Lib.hid (fun W => far_any A U n cap m ucap W false h1'.symm hn2 hum)
  have HF2 := Lib.hid (fun W => far_any A V n cap m2 vcap W false h2'.symm hn2 hvm)
  have HM := Lib.hid (fun W h h2 => merge_any U V m ucap m2 vcap us vs W hun hum h hvn hvm h2 huz hvz)
  have HR := Lib.hid (fun W h h2 => refMerge_any U V m ucap m2 vcap us vs W hun hum h hvn hvm h2)
  have HO := Lib.hid (fun W (h : RI W W.heap.size A xs) hz => order_any A n cap xs c W hn hn2 h hz)
  have HP := Lib.hid (fun W (h : RI W W.heap.size A xs) => refOrder_any A n cap xs c W hn hn2 h)
  have hg : Hid (0 < w.heap.size) := Lib.hid (World.block_lt_of_cell? _ _ hz.1)
  have hzz := Lib.hid (fun W (h : Below w.heap.size w W) => hz.below h hg.out)
  clear h1' h2' hn hun hum hvn hvm huz hvz hn2 hz
  generalize mergeT us vs = RM at *
  obtain ⟨L, k⟩ := RM
  generalize ordT xs c = RO at *
  obtain ⟨r1, e1⟩ := RO
  have B2 := ((Below.refl w.heap.size w).alloc (Nat.le_refl _) (.cells #[.slice U m ucap, .slice V m2 vcap] 36)).alloc (by simp) (.cells #[.slice A n cap] 27)
  have kU2 := (Blk.new w 36 #[.slice U m ucap, .slice V m2 vcap]).alloc (.cells #[.slice A n cap] 27)
  have kT2 := Blk.new (w.alloc (.cells #[.slice U m ucap, .slice V m2 vcap] 36)) 27 #[.slice A n cap]
  rw [World.size_alloc] at kT2
  go_enter Tryd.func4, Tryd.ntmps4
  go_upto_region 1 with fail
  rw [hs] at kT2 kU2
  have hs' := Lib.hid hs
  generalize (w.alloc (.cells #[.slice U m ucap, .slice V m2 vcap] 36)).alloc (.cells #[.slice A n cap] 27) = w2 at *
  have cT2 := kT2.cell
  have cU2 := kU2.cell
  have r3 := RI.on' hr B2
  have u3 := hur.on B2
  have v3 := hvr.on B2
  clear hr hur hvr
  have cT := kT2.cell
  have cU := kU2.cell
  go_wp2_with fail
  refine (HF1.out _).mono ?_
  rintro e w3 ⟨rfl, hb3⟩
  have B3 := B2.trans (hb3.mono B2.size)
  have kT3 := kT2.call hb3
  have kU3 := kU2.call hb3
  have r4 := RI.on' r3 hb3
  have u4 := u3.on hb3
  have v4 := v3.on hb3
  clear B2 kT2 kU2 r3 u3 v3 hb3
  clear cT cU
  have cT := kT3.cell
  have cU := kU3.cell
  go_wp2_with fail
  refine (HF2.out _).mono ?_
  rintro e w4 ⟨rfl, hb4⟩
  have B4 := B3.trans (hb4.mono B3.size)
  have kT4 := kT3.call hb4
  have kU4 := kU3.call hb4
  have r5 := RI.on' r4 hb4
  have u5 := u4.on hb4
  have v5 := v4.on hb4
  clear B3 kT3 kU3 r4 u4 v4 hb4
  clear cT cU
  have cU := kU4.cell
  go_wp2_with fail
  refine (HM.out _ u5 v5).mono ?_
  rintro e w5 ⟨A5, c5, rfl, ru5, m5, x5, hb5⟩
  have B5 := B4.trans (hb5.mono B4.size)
  have kT5 := kT4.call hb5
  have kU5 := kU4.call hb5
  have r6 := RI.on' r5 hb5
  have u6 := u5.on hb5
  have v6 := v5.on hb5
  clear B4 kT4 kU4 r5 u5 v5 hb5
  clear cU
  have cU := kU5.cell
  simp only at ru5 m5
  go_wp2_with fail
  refine (HR.out _ u6 v6).mono ?_
  rintro e w6 ⟨A6, c6, rfl, ru6, m6, x6, hb6⟩
  simp only at ru6 m6
  have ru5' := ru5.on hb6
  have B6 := B5.trans (hb6.mono B5.size)
  have kT6 := kT5.call hb6
  have kU6 := kU5.call hb6
  have r7 := RI.on' r6 hb6
  have u7 := u6.on hb6
  have v7 := v6.on hb6
  clear B5 kT5 kU5 r6 u6 v6 hb6
  clear cU ru5
  have cT := kT6.cell
  have z6 := Lib.hid (hzz.out _ B6)
  go_wp2_with fail
  refine (HO.out _ r7 z6.out).mono ?_
  rintro e w7 ⟨rfl, hb7⟩
  have ru5 := ru5'.on hb7
  have ru6' := ru6.on hb7
  have B7 := B6.trans (hb7.mono B6.size)
  have kT7 := kT6.call hb7
  have kU7 := kU6.call hb7
  have r8 := RI.on' r7 hb7
  have u8 := u7.on hb7
  have v8 := v7.on hb7
  clear B6 kT6 kU6 r7 u7 v7 hb7
  clear cT ru5' ru6
  have cT := kT7.cell
  go_wp2_with fail
  refine (HP.out _ r8).mono ?_
  rintro e w8 ⟨rfl, hb8⟩
  have ru5' := ru5.on hb8
  have ru6 := ru6'.on hb8
  have B8 := B7.trans (hb8.mono B7.size)
  have kT8 := kT7.call hb8
  have kU8 := kU7.call hb8
  have r9 := RI.on' r8 hb8
  have u9 := u8.on hb8
  have v9 := v8.on hb8
  clear B7 kT7 kU7 r8 u8 v8 hb8
  clear cT ru5 ru6' r9 u9 v9
  have HQ := Lib.hid (sameU_any A5 A6 L.length L.length c5 c6 L L w8 rfl (Nat.le_trans m5 x5) rfl (Nat.le_trans m5 x5) ru5' ru6)
  have b1 : (k == k) = true := by simp
  have b2 : (r1 == r1) = true := by simp
  have b3 : (e1 == e1) = true := by simp
  have hdec : Hid (decide (L = L) = true) := Lib.hid (by simp)
  rw [hdec.out] at HQ
  clear ru5' ru6 HF1 HF2 HM HR HO HP hzz
  go_wp2_with fail
  refine HQ.out.mono ?_
  rintro e w9 ⟨rfl, hb9⟩
  have B9 := B8.trans (hb9.mono B8.size)
  go_wp2_with fail
  refine (shown_any _).mono ?_
  rintro e wz ⟨rfl, hbz⟩
  go_wp2_with fail
  go_ret
  exact ⟨rfl, B9.trans (hbz.mono B9.size)⟩
end Go.Proofs.YtiohcegkkpeodaaDoor
