/- Walk of the law ClassesMonotone. -/
import Derived.Test.YtiohcegkkpeodaaMWalkC
import Derived.Test.YtiohcegkkpeodaaMWalkD
import Derived.Test.YtiohcegkkpeodaaLawD
namespace Go.Proofs.Ytiohcegkkpeodaa
open Go Go.Proofs Go.RowKit Go.Pol
theorem wsum_bound {w : Int → Int} : ∀ {us : List (Int × Int)}, (∀ u ∈ us, 0 ≤ w u.1 ∧ w u.1 ≤ 4096 ∧ 0 ≤ u.2 ∧ u.2 ≤ 1000000) → 0 ≤ wsum w us ∧ wsum w us ≤ (us.length : Int) * 4096000000
  | [], _ => by simp [wsum]
  | u :: r, h => by
    have ih := wsum_bound (w := w) (us := r) (fun v hv => h v (by simp [hv]))
    have hu := h u (by simp)
    have h1 : 0 ≤ w u.1 * u.2 := Int.mul_nonneg hu.1 hu.2.2.1
    have h2 : w u.1 * u.2 ≤ 4096 * 1000000 := Int.mul_le_mul hu.2.1 hu.2.2.2 hu.2.2.1 (by omega)
    simp only [wsum, List.length_cons]
    omega
theorem waste_bound {xs : List Int} {us : List (Int × Int)} (h : (wasteT xs us).2 = 0) : 0 ≤ (wasteT xs us).1 ∧ (wasteT xs us).1 ≤ 1000000000000 := by
  obtain ⟨h1, h2, h3, h4⟩ := wasteT_ok h
  have hU := chkU_ok h2
  have ok := chkT_ok h1
  have hb := wsum_bound (w := wof xs) (us := us) (fun u hu => by
    have hm := okU_mem hU hu
    have hc := h3 u hu
    have hg := cls_ge xs u.1 hc
    have ha := ok.at_ _ hc
    unfold wof
    exact ⟨by omega, by omega, by omega, by omega⟩)
  have := hU.len
  rw [h4]
  omega
set_option maxRecDepth 100000 in
set_option maxHeartbeats 8000000 in
theorem monoFar_any (A U V : Option Addr) (n cap m ucap m2 vcap : Nat) (x1 x2 : Int) (w : World) (hn2 : n ≤ maxLen) (hm : m ≤ maxLen) (hm2 : m2 ≤ maxLen) (hf : ((decide (70 < n) || decide (210 < m)) || (decide (70 < n) || decide (210 < m2))) = true) :
    Calls Try.prog 9 #[.agg #[.slice A n cap], .agg #[.slice U m ucap, .slice V m2 vcap], .agg #[.int .i64 x1, .int .i64 x2]] w fun e w' => e = .returned (.bool true) ∧ Below w.heap.size w w' := by
  obtain ⟨s, hs⟩ : ∃ s, w.heap.size = s := ⟨_, rfl⟩
  have HF1 := Lib.hid (fun W b hb => far_any A U n cap m ucap W b hb hn2 hm)
  have HF2 := Lib.hid (fun W b hb => far_any A V n cap m2 vcap W b hb hn2 hm2)
  have hB0 := (((Below.refl w.heap.size w).alloc (Nat.le_refl _) (.cells #[.slice A n cap] 24)).alloc (by simp) (.cells #[.slice U m ucap, .slice V m2 vcap] 52)).alloc (by simp; omega) (.cells #[.int .i64 x1, .int .i64 x2] 54)
  have kT := ((Blk.new w 24 #[.slice A n cap]).alloc (.cells #[.slice U m ucap, .slice V m2 vcap] 52)).alloc (.cells #[.int .i64 x1, .int .i64 x2] 54)
  have kU := (Blk.new (w.alloc (.cells #[.slice A n cap] 24)) 52 #[.slice U m ucap, .slice V m2 vcap]).alloc (.cells #[.int .i64 x1, .int .i64 x2] 54)
  have kX := Blk.new ((w.alloc (.cells #[.slice A n cap] 24)).alloc (.cells #[.slice U m ucap, .slice V m2 vcap] 52)) 54 #[.int .i64 x1, .int .i64 x2]
  rw [World.size_alloc] at kU kX
  rw [World.size_alloc] at kX
  go_enter Try.func9, Try.ntmps9
  go_upto_region 1 with fail
  rw [hs] at kT kU kX
  have hs' := Lib.hid hs
  generalize ((w.alloc (.cells #[.slice A n cap] 24)).alloc (.cells #[.slice U m ucap, .slice V m2 vcap] 52)).alloc (.cells #[.int .i64 x1, .int .i64 x2] 54) = w1 at *
  have q1 := fun z : Ext w1 => (z.blk kT).cell
  have q2 := fun z : Ext w1 => (z.blk kU).cell
  refine region_ext (by kernel_rfl) (by kernel_rfl) ?_
  repeat (go_big_quiet_step (fail))
  refine wpQuiet_nil ?_
  rintro w2 ⟨⟨_, hw2⟩, rfl⟩
  have B2 := hB0.trans (hw2.mono hB0.size)
  have kT2 := kT.call hw2
  have kX2 := kX.call hw2
  clear q1 q2 kT kU kX hw2 hB0
  have cT2 := kT2.cell
  by_cases h1 : (decide (70 < n) || decide (210 < m)) = true
  · have C1 := Lib.hid (HF1.out w2 true h1.symm)
    clear hf HF1 HF2 h1
    go_wp2_with fail
    refine C1.out.mono ?_
    rintro e w3 ⟨rfl, hb3⟩
    have B3 := B2.trans (hb3.mono B2.size)
    go_wp2_with fail
    refine (shown_any _).mono ?_
    rintro e w5 ⟨rfl, hb5⟩
    go_wp2_with fail
    go_ret
    exact ⟨rfl, B3.trans (hb5.mono B3.size)⟩
  · have h1' : (decide (70 < n) || decide (210 < m)) = false := by simpa using h1
    have h2 : (decide (70 < n) || decide (210 < m2)) = true := by rw [h1'] at hf; simpa using hf
    have C1 := Lib.hid (HF1.out w2 false h1'.symm)
    have C2 := Lib.hid (fun W => HF2.out W true h2.symm)
    clear hf HF1 HF2 h1 h1' h2
    go_wp2_with fail
    refine C1.out.mono ?_
    rintro e w3 ⟨rfl, hb3⟩
    have B3 := B2.trans (hb3.mono B2.size)
    have kT3 := (kT2.call hb3).cell
    go_wp2_with fail
    refine (C2.out _).mono ?_
    rintro e w4 ⟨rfl, hb4⟩
    have B4 := B3.trans (hb4.mono B3.size)
    go_wp2_with fail
    refine (shown_any _).mono ?_
    rintro e w5 ⟨rfl, hb5⟩
    go_wp2_with fail
    go_ret
    exact ⟨rfl, B4.trans (hb5.mono B4.size)⟩

set_option maxRecDepth 100000 in
set_option maxHeartbeats 16000000 in
theorem monoNear_any (A U V : Option Addr) (n cap m ucap m2 vcap : Nat) (xs : List Int) (us vs : List (Int × Int)) (x1 x2 : Int) (w : World) (hn : xs.length = n) (hnc : n ≤ cap) (hcm : cap ≤ maxLen) (hr : RI w w.heap.size A xs)
    (hun : us.length = m) (hum : m ≤ maxLen) (hur : RU w w.heap.size U us) (huz : U = none → ucap = 0) (hvn : vs.length = m2) (hvm : m2 ≤ maxLen) (hvr : RU w w.heap.size V vs) (hvz : V = none → vcap = 0)
    (h1' : (decide (70 < n) || decide (210 < m)) = false) (h2' : (decide (70 < n) || decide (210 < m2)) = false) :
    Calls Try.prog 9 #[.agg #[.slice A n cap], .agg #[.slice U m ucap, .slice V m2 vcap], .agg #[.int .i64 x1, .int .i64 x2]] w fun e w' => e = .returned (.bool true) ∧ Below w.heap.size w w' := by
  obtain ⟨s, hs⟩ : ∃ s, w.heap.size = s := ⟨_, rfl⟩
  have hn2 := Nat.le_trans hnc hcm
  have hn70 : n ≤ 70 := by simp at h1'; omega
  have HF1 := Lib.hid (fun W => far_any A U n cap m ucap W false h1'.symm hn2 hum)
  have HF2 := Lib.hid (fun W => far_any A V n cap m2 vcap W false h2'.symm hn2 hvm)
  have HC := Lib.hid (fun t W (h : RI W W.heap.size A xs) => class_any A n cap xs t W hn hn2 h)
  have HW1 := Lib.hid (fun W (h : RI W W.heap.size A xs) (h2 : RU W W.heap.size U us) => waste_any A U n cap m ucap xs us W hn hun hn2 hum h h2)
  have HW2 := Lib.hid (fun W (h : RI W W.heap.size A xs) (h2 : RU W W.heap.size V vs) => waste_any A V n cap m2 vcap xs vs W hn hvn hn2 hvm h h2)
  have HM := Lib.hid (fun W h h2 => merge_any U V m ucap m2 vcap us vs W hun hum h hvn hvm h2 huz hvz)
  have HWI := Lib.hid (fun W (h : RI W W.heap.size A xs) (ok : chkT xs = 0) => with_any A n cap xs x1 W hn hnc hcm (by omega) h (chkT_ok ok))
  have HWM := Lib.hid (fun (A' : Option Addr) (k cap' : Nat) (L : List (Int × Int)) W (h : RI W W.heap.size A xs) (hl : L.length = k) (hk : k ≤ maxLen) (h2 : RU W W.heap.size A' L) => waste_any A A' n cap k cap' xs L W hn hl hn2 hk h h2)
  have HK := Lib.hid (fun (A' : Option Addr) (cap' : Nat) (L : List Int) W (hl : L.length = n + 1) (h : RI W W.heap.size A' L) => check_any A' (n + 1) cap' L W hl (by unfold maxLen; omega) h)
  have HWX := Lib.hid (fun (A' : Option Addr) (cap' : Nat) (L : List Int) W (hl : L.length = n + 1) (h : RI W W.heap.size A' L) (h2 : RU W W.heap.size U us) => waste_any A' U (n + 1) cap' m ucap L us W hl hun (by unfold maxLen; omega) hum h h2)
  have hmono := Lib.hid (class_mono xs x1 x2)
  have hsum := Lib.hid (fun h1 h2 h3 => waste_sum (xs := xs) (us := us) (vs := vs) h1 h2 h3)
  have hwit := Lib.hid (fun h1 h2 => waste_with (xs := xs) (us := us) (s := x1) h1 h2)
  have hbd1 := Lib.hid (fun h => waste_bound (xs := xs) (us := us) h)
  have hbd2 := Lib.hid (fun h => waste_bound (xs := xs) (us := vs) h)
  have hwl : Hid ((withF xs x1).length = n + 1) := Lib.hid (by unfold withF; have := cls_le xs x1; simp; omega)
  have hck := Lib.hid (fun h => (wasteT_ok (xs := xs) (us := us) h).1)
  clear h1' h2' hn hun hum hvn hvm huz hvz hnc hcm hn2 hn70
  generalize hR1 : classT xs (min x1 x2) = R1 at *
  generalize hR2 : classT xs (max x1 x2) = R2 at *
  have HC1 := Lib.hid (fun W h => HC.out (min x1 x2) W h)
  have HC2 := Lib.hid (fun W h => HC.out (max x1 x2) W h)
  rw [hR1] at HC1
  rw [hR2] at HC2
  clear hR1 hR2 HC
  obtain ⟨r1, e1⟩ := R1
  obtain ⟨r2, e2⟩ := R2
  generalize wasteT xs us = Wu at *
  generalize wasteT xs vs = Wv at *
  obtain ⟨wa, ea⟩ := Wu
  obtain ⟨wb, eb⟩ := Wv
  generalize mergeT us vs = RM at *
  obtain ⟨L, k⟩ := RM
  simp only at hmono hsum hwit hbd1 hbd2 hck
  have hB0 := (((Below.refl w.heap.size w).alloc (Nat.le_refl _) (.cells #[.slice A n cap] 24)).alloc (by simp) (.cells #[.slice U m ucap, .slice V m2 vcap] 52)).alloc (by simp; omega) (.cells #[.int .i64 x1, .int .i64 x2] 54)
  have kT := ((Blk.new w 24 #[.slice A n cap]).alloc (.cells #[.slice U m ucap, .slice V m2 vcap] 52)).alloc (.cells #[.int .i64 x1, .int .i64 x2] 54)
  have kU := (Blk.new (w.alloc (.cells #[.slice A n cap] 24)) 52 #[.slice U m ucap, .slice V m2 vcap]).alloc (.cells #[.int .i64 x1, .int .i64 x2] 54)
  have kX := Blk.new ((w.alloc (.cells #[.slice A n cap] 24)).alloc (.cells #[.slice U m ucap, .slice V m2 vcap] 52)) 54 #[.int .i64 x1, .int .i64 x2]
  rw [World.size_alloc] at kU kX
  rw [World.size_alloc] at kX
  go_enter Try.func9, Try.ntmps9
  go_upto_region 1 with fail
  rw [hs] at kT kU kX
  have hs' := Lib.hid hs
  generalize ((w.alloc (.cells #[.slice A n cap] 24)).alloc (.cells #[.slice U m ucap, .slice V m2 vcap] 52)).alloc (.cells #[.int .i64 x1, .int .i64 x2] 54) = w1 at *
  have q1 := fun z : Ext w1 => (z.blk kT).cell
  have q2 := fun z : Ext w1 => (z.blk kU).cell
  refine region_ext (by kernel_rfl) (by kernel_rfl) ?_
  repeat (go_big_quiet_step (fail))
  refine wpQuiet_nil ?_
  rintro w2 ⟨⟨_, hw2⟩, rfl⟩
  have B2 := hB0.trans (hw2.mono hB0.size)
  have kT2 := kT.call hw2
  have kX2 := kX.call hw2
  clear q1 q2 kT kU kX hw2 hB0
  have hq2 : Below w.heap.size w w2 := B2
  have r3 := RI.laterQ hr hq2
  have u3 := RU.laterQ hur hq2
  have v3 := RU.laterQ hvr hq2
  have cT := kT2.cell
  clear hr hur hvr hq2
  go_wp2_with fail
  refine (HF1.out _).mono ?_
  rintro e w3 ⟨rfl, hb3⟩
  have B3 := B2.trans (hb3.mono B2.size)
  have kT3 := kT2.call hb3
  have kX3 := kX2.call hb3
  have r4 := RI.laterQ r3 hb3
  have u4 := RU.laterQ u3 hb3
  have v4 := RU.laterQ v3 hb3
  clear B2 kT2 kX2 r3 u3 v3 hb3
  clear cT
  have cT := kT3.cell
  go_wp2_with fail
  refine (HF2.out _).mono ?_
  rintro e w4 ⟨rfl, hb4⟩
  have B4 := B3.trans (hb4.mono B3.size)
  have kT4 := kT3.call hb4
  have kX4 := kX3.call hb4
  have r5 := RI.laterQ r4 hb4
  have u5 := RU.laterQ u4 hb4
  have v5 := RU.laterQ v4 hb4
  clear B3 kT3 kX3 r4 u4 v4 hb4
  clear cT
  have cT := kT4.cell
  have cX := kX4.cell
  go_wp2_with fail
  refine (HC1.out _ r5).mono ?_
  rintro e w5 ⟨rfl, hb5⟩
  have B5 := B4.trans (hb5.mono B4.size)
  have kT5 := kT4.call hb5
  have kX5 := kX4.call hb5
  have r6 := RI.laterQ r5 hb5
  have u6 := RU.laterQ u5 hb5
  have v6 := RU.laterQ v5 hb5
  clear B4 kT4 kX4 r5 u5 v5 hb5
  clear cT cX
  have cT := kT5.cell
  have cX := kX5.cell
  go_wp2_with fail
  refine (HC2.out _ r6).mono ?_
  rintro e w6 ⟨rfl, hb6⟩
  have B6 := B5.trans (hb6.mono B5.size)
  have kT6 := kT5.call hb6
  have kX6 := kX5.call hb6
  have r7 := RI.laterQ r6 hb6
  have u7 := RU.laterQ u6 hb6
  have v7 := RU.laterQ v6 hb6
  clear B5 kT5 kX5 r6 u6 v6 hb6
  clear cT cX
  have cT := kT6.cell
  have cX := kX6.cell
  clear HF1 HF2 HC1 HC2
  have hm := hmono.out
  by_cases f : e2 = 0
  · have f1 : (e2 == 0) = true := by simp [f]
    by_cases g : e1 = 0
    · have g1 : (e1 == 0) = true := by simp [g]
      have g2 : (e1 != 0) = false := by simp [g]
      have g3 : decide (r2 < r1) = false := by rw [f1, g1, g2] at hm; simpa using hm
      clear hm f g
      go_wp2_with fail
      refine (HW1.out _ r7 u7).mono ?_
      rintro e w7 ⟨rfl, hb7⟩
      have B7 := B6.trans (hb7.mono B6.size)
      have kT7 := kT6.call hb7
      have kX7 := kX6.call hb7
      have r8 := RI.laterQ r7 hb7
      have u8 := RU.laterQ u7 hb7
      have v8 := RU.laterQ v7 hb7
      clear B6 kT6 kX6 r7 u7 v7 hb7
      clear cT cX
      have cT := kT7.cell
      go_wp2_with fail
      refine (HW2.out _ r8 v8).mono ?_
      rintro e w8 ⟨rfl, hb8⟩
      have B8 := B7.trans (hb8.mono B7.size)
      have kT8 := kT7.call hb8
      have kX8 := kX7.call hb8
      have r9 := RI.laterQ r8 hb8
      have u9 := RU.laterQ u8 hb8
      have v9 := RU.laterQ v8 hb8
      clear B7 kT7 kX7 r8 u8 v8 hb8
      clear cT
      have cT := kT8.cell
      by_cases ga : ea = 0
      · have ga' : (ea != 0) = false := by simp [ga]
        by_cases gb : eb = 0
        · have gb' : (eb != 0) = false := by simp [gb]
          have hs1 := Lib.hid (hsum.out ga gb)
          have hw1 := Lib.hid (hwit.out ga)
          have hk1 := Lib.hid (hck.out ga)
          have hwab : wrap64 (wa + wb) = wa + wb := by have := hbd1.out ga; have := hbd2.out gb; unfold wrap64; omega
          clear ga gb hsum hwit hck hbd1 hbd2 hmono
          go_wp2_with fail
          refine (HM.out _ u9 v9).mono ?_
          rintro e w9 ⟨A9, c9, rfl, ru9, m9, x9, hb9⟩
          have B9 := B8.trans (hb9.mono B8.size)
          have kT9 := kT8.call hb9
          have kX9 := kX8.call hb9
          have r10 := RI.laterQ r9 hb9
          have u10 := RU.laterQ u9 hb9
          have v10 := RU.laterQ v9 hb9
          clear B8 kT8 kX8 r9 u9 v9 hb9
          clear cT
          have cT := kT9.cell
          have cX := kX9.cell
          simp only at ru9 m9
          by_cases hk : k = 0
          · have hk' : (k == 0) = true := by simp [hk]
            have hab : (wa + wb != wa + wb) = false := by simp
            have HZ := HWM.out A9 L.length c9 L w9 r10 rfl (Nat.le_trans m9 x9) ru9
            rw [hs1.out hk] at HZ
            have HZ' := Lib.hid HZ
            clear HZ hk
            go_wp2_with fail
            refine HZ'.out.mono ?_
            rintro e w10 ⟨rfl, hb10⟩
            have B10 := B9.trans (hb10.mono B9.size)
            have kT10 := kT9.call hb10
            have kX10 := kX9.call hb10
            have r11 := RI.laterQ r10 hb10
            have u11 := RU.laterQ u10 hb10
            have v11 := RU.laterQ v10 hb10
            clear B9 kT9 kX9 r10 u10 v10 hb10
            clear cT cX ru9 HZ'
            have cT := kT10.cell
            have cX := kX10.cell
            go_wp2_with fail
            refine (HWI.out _ r11 hk1.out).mono ?_
            rintro e wp ⟨A11, c11, rfl, ri11, hbp⟩
            have Bp := B10.trans (hbp.mono B10.size)
            have up := RU.laterQ u11 hbp
            have hbk := (Below.refl wp.heap.size wp).alloc (Nat.le_refl _) (.cells #[.slice A11 (n + 1) c11] 24)
            have Bk := Bp.trans (hbk.mono Bp.size)
            generalize hcw : chkT (withF xs x1) = cw at *
            have hcw' := Lib.hid hcw
            clear hcw
            have kN := Blk.new wp 24 #[.slice A11 (n + 1) c11]
            have HKc := Lib.hid (HK.out A11 c11 _ _ hwl.out (RI.laterQ ri11 hbk))
            rw [hcw'.out] at HKc
            go_wp2_with fail
            refine HKc.out.mono ?_
            rintro e wq ⟨rfl, hbq⟩
            have Bq := Bk.trans (hbq.mono Bk.size)
            have uq := RU.laterQ (RU.laterQ up hbk) hbq
            have rq := RI.laterQ (RI.laterQ ri11 hbk) hbq
            have kq := (kN.call hbq).cell
            clear HKc kN up hbk hbp Bk Bp
            by_cases hz : cw = 0
            · have hz' : (cw == 0) = true := by simp [hz]
              obtain ⟨z1, z2⟩ := hw1.out hz
              have HXc := Lib.hid (HWX.out A11 c11 _ _ hwl.out rq uq)
              generalize wasteT (withF xs x1) us = RX at *
              obtain ⟨rx, ex⟩ := RX
              simp only at z1 z2
              have z1' : (ex != 0) = false := by simp [z1]
              have z2' : decide (wa < rx) = false := by simp; omega
              clear z1 z2 hz hw1
              go_wp2_with fail
              refine HXc.out.mono ?_
              rintro e wr ⟨rfl, hbr⟩
              have Br := Bq.trans (hbr.mono Bq.size)
              go_wp2_with fail
              refine (shown_any _).mono ?_
              rintro e wz ⟨rfl, hbz⟩
              go_wp2_with fail
              go_ret
              exact ⟨rfl, Br.trans (hbz.mono Br.size)⟩
            · have hz' : (cw == 0) = false := by simp [hz]
              clear hz hw1
              go_wp2_with fail
              refine (shown_any _).mono ?_
              rintro e wz ⟨rfl, hbz⟩
              go_wp2_with fail
              go_ret
              exact ⟨rfl, Bq.trans (hbz.mono Bq.size)⟩
          · have hk' : (k == 0) = false := by simp [hk]
            clear hk
            go_wp2_with fail
            refine (HWI.out _ r10 hk1.out).mono ?_
            rintro e wp ⟨A11, c11, rfl, ri11, hbp⟩
            have Bp := B9.trans (hbp.mono B9.size)
            have up := RU.laterQ u10 hbp
            have hbk := (Below.refl wp.heap.size wp).alloc (Nat.le_refl _) (.cells #[.slice A11 (n + 1) c11] 24)
            have Bk := Bp.trans (hbk.mono Bp.size)
            generalize hcw : chkT (withF xs x1) = cw at *
            have hcw' := Lib.hid hcw
            clear hcw
            have kN := Blk.new wp 24 #[.slice A11 (n + 1) c11]
            have HKc := Lib.hid (HK.out A11 c11 _ _ hwl.out (RI.laterQ ri11 hbk))
            rw [hcw'.out] at HKc
            go_wp2_with fail
            refine HKc.out.mono ?_
            rintro e wq ⟨rfl, hbq⟩
            have Bq := Bk.trans (hbq.mono Bk.size)
            have uq := RU.laterQ (RU.laterQ up hbk) hbq
            have rq := RI.laterQ (RI.laterQ ri11 hbk) hbq
            have kq := (kN.call hbq).cell
            clear HKc kN up hbk hbp Bk Bp
            by_cases hz : cw = 0
            · have hz' : (cw == 0) = true := by simp [hz]
              obtain ⟨z1, z2⟩ := hw1.out hz
              have HXc := Lib.hid (HWX.out A11 c11 _ _ hwl.out rq uq)
              generalize wasteT (withF xs x1) us = RX at *
              obtain ⟨rx, ex⟩ := RX
              simp only at z1 z2
              have z1' : (ex != 0) = false := by simp [z1]
              have z2' : decide (wa < rx) = false := by simp; omega
              clear z1 z2 hz hw1
              go_wp2_with fail
              refine HXc.out.mono ?_
              rintro e wr ⟨rfl, hbr⟩
              have Br := Bq.trans (hbr.mono Bq.size)
              go_wp2_with fail
              refine (shown_any _).mono ?_
              rintro e wz ⟨rfl, hbz⟩
              go_wp2_with fail
              go_ret
              exact ⟨rfl, Br.trans (hbz.mono Br.size)⟩
            · have hz' : (cw == 0) = false := by simp [hz]
              clear hz hw1
              go_wp2_with fail
              refine (shown_any _).mono ?_
              rintro e wz ⟨rfl, hbz⟩
              go_wp2_with fail
              go_ret
              exact ⟨rfl, Bq.trans (hbz.mono Bq.size)⟩
        · have gb' : (eb != 0) = true := by simp [gb]
          clear ga gb hsum hwit hck hbd1 hbd2 hmono
          go_wp2_with fail
          refine (shown_any _).mono ?_
          rintro e wz ⟨rfl, hbz⟩
          go_wp2_with fail
          go_ret
          exact ⟨rfl, B8.trans (hbz.mono B8.size)⟩
      · have ga' : (ea != 0) = true := by simp [ga]
        clear ga hsum hwit hck hbd1 hbd2 hmono
        go_wp2_with fail
        refine (shown_any _).mono ?_
        rintro e wz ⟨rfl, hbz⟩
        go_wp2_with fail
        go_ret
        exact ⟨rfl, B8.trans (hbz.mono B8.size)⟩
    · have g1 : (e1 == 0) = false := by simp [g]
      have g2 : (e1 != 0) = true := by simp [g]
      by_cases y1 : 1 ≤ x1
      · have y1' : decide (1 ≤ x1) = true := by simpa using y1
        have y2' : decide (1 ≤ x2) = false := by rw [f1, g1, g2, y1'] at hm; simpa using hm
        clear hm f g y1
        go_wp2_with fail
        refine (HW1.out _ r7 u7).mono ?_
        rintro e w7 ⟨rfl, hb7⟩
        have B7 := B6.trans (hb7.mono B6.size)
        have kT7 := kT6.call hb7
        have kX7 := kX6.call hb7
        have r8 := RI.laterQ r7 hb7
        have u8 := RU.laterQ u7 hb7
        have v8 := RU.laterQ v7 hb7
        clear B6 kT6 kX6 r7 u7 v7 hb7
        clear cT cX
        have cT := kT7.cell
        go_wp2_with fail
        refine (HW2.out _ r8 v8).mono ?_
        rintro e w8 ⟨rfl, hb8⟩
        have B8 := B7.trans (hb8.mono B7.size)
        have kT8 := kT7.call hb8
        have kX8 := kX7.call hb8
        have r9 := RI.laterQ r8 hb8
        have u9 := RU.laterQ u8 hb8
        have v9 := RU.laterQ v8 hb8
        clear B7 kT7 kX7 r8 u8 v8 hb8
        clear cT
        have cT := kT8.cell
        by_cases ga : ea = 0
        · have ga' : (ea != 0) = false := by simp [ga]
          by_cases gb : eb = 0
          · have gb' : (eb != 0) = false := by simp [gb]
            have hs1 := Lib.hid (hsum.out ga gb)
            have hw1 := Lib.hid (hwit.out ga)
            have hk1 := Lib.hid (hck.out ga)
            have hwab : wrap64 (wa + wb) = wa + wb := by have := hbd1.out ga; have := hbd2.out gb; unfold wrap64; omega
            clear ga gb hsum hwit hck hbd1 hbd2 hmono
            go_wp2_with fail
            refine (HM.out _ u9 v9).mono ?_
            rintro e w9 ⟨A9, c9, rfl, ru9, m9, x9, hb9⟩
            have B9 := B8.trans (hb9.mono B8.size)
            have kT9 := kT8.call hb9
            have kX9 := kX8.call hb9
            have r10 := RI.laterQ r9 hb9
            have u10 := RU.laterQ u9 hb9
            have v10 := RU.laterQ v9 hb9
            clear B8 kT8 kX8 r9 u9 v9 hb9
            clear cT
            have cT := kT9.cell
            have cX := kX9.cell
            simp only at ru9 m9
            by_cases hk : k = 0
            · have hk' : (k == 0) = true := by simp [hk]
              have hab : (wa + wb != wa + wb) = false := by simp
              have HZ := HWM.out A9 L.length c9 L w9 r10 rfl (Nat.le_trans m9 x9) ru9
              rw [hs1.out hk] at HZ
              have HZ' := Lib.hid HZ
              clear HZ hk
              go_wp2_with fail
              refine HZ'.out.mono ?_
              rintro e w10 ⟨rfl, hb10⟩
              have B10 := B9.trans (hb10.mono B9.size)
              have kT10 := kT9.call hb10
              have kX10 := kX9.call hb10
              have r11 := RI.laterQ r10 hb10
              have u11 := RU.laterQ u10 hb10
              have v11 := RU.laterQ v10 hb10
              clear B9 kT9 kX9 r10 u10 v10 hb10
              clear cT cX ru9 HZ'
              have cT := kT10.cell
              have cX := kX10.cell
              go_wp2_with fail
              refine (HWI.out _ r11 hk1.out).mono ?_
              rintro e wp ⟨A11, c11, rfl, ri11, hbp⟩
              have Bp := B10.trans (hbp.mono B10.size)
              have up := RU.laterQ u11 hbp
              have hbk := (Below.refl wp.heap.size wp).alloc (Nat.le_refl _) (.cells #[.slice A11 (n + 1) c11] 24)
              have Bk := Bp.trans (hbk.mono Bp.size)
              generalize hcw : chkT (withF xs x1) = cw at *
              have hcw' := Lib.hid hcw
              clear hcw
              have kN := Blk.new wp 24 #[.slice A11 (n + 1) c11]
              have HKc := Lib.hid (HK.out A11 c11 _ _ hwl.out (RI.laterQ ri11 hbk))
              rw [hcw'.out] at HKc
              go_wp2_with fail
              refine HKc.out.mono ?_
              rintro e wq ⟨rfl, hbq⟩
              have Bq := Bk.trans (hbq.mono Bk.size)
              have uq := RU.laterQ (RU.laterQ up hbk) hbq
              have rq := RI.laterQ (RI.laterQ ri11 hbk) hbq
              have kq := (kN.call hbq).cell
              clear HKc kN up hbk hbp Bk Bp
              by_cases hz : cw = 0
              · have hz' : (cw == 0) = true := by simp [hz]
                obtain ⟨z1, z2⟩ := hw1.out hz
                have HXc := Lib.hid (HWX.out A11 c11 _ _ hwl.out rq uq)
                generalize wasteT (withF xs x1) us = RX at *
                obtain ⟨rx, ex⟩ := RX
                simp only at z1 z2
                have z1' : (ex != 0) = false := by simp [z1]
                have z2' : decide (wa < rx) = false := by simp; omega
                clear z1 z2 hz hw1
                go_wp2_with fail
                refine HXc.out.mono ?_
                rintro e wr ⟨rfl, hbr⟩
                have Br := Bq.trans (hbr.mono Bq.size)
                go_wp2_with fail
                refine (shown_any _).mono ?_
                rintro e wz ⟨rfl, hbz⟩
                go_wp2_with fail
                go_ret
                exact ⟨rfl, Br.trans (hbz.mono Br.size)⟩
              · have hz' : (cw == 0) = false := by simp [hz]
                clear hz hw1
                go_wp2_with fail
                refine (shown_any _).mono ?_
                rintro e wz ⟨rfl, hbz⟩
                go_wp2_with fail
                go_ret
                exact ⟨rfl, Bq.trans (hbz.mono Bq.size)⟩
            · have hk' : (k == 0) = false := by simp [hk]
              clear hk
              go_wp2_with fail
              refine (HWI.out _ r10 hk1.out).mono ?_
              rintro e wp ⟨A11, c11, rfl, ri11, hbp⟩
              have Bp := B9.trans (hbp.mono B9.size)
              have up := RU.laterQ u10 hbp
              have hbk := (Below.refl wp.heap.size wp).alloc (Nat.le_refl _) (.cells #[.slice A11 (n + 1) c11] 24)
              have Bk := Bp.trans (hbk.mono Bp.size)
              generalize hcw : chkT (withF xs x1) = cw at *
              have hcw' := Lib.hid hcw
              clear hcw
              have kN := Blk.new wp 24 #[.slice A11 (n + 1) c11]
              have HKc := Lib.hid (HK.out A11 c11 _ _ hwl.out (RI.laterQ ri11 hbk))
              rw [hcw'.out] at HKc
              go_wp2_with fail
              refine HKc.out.mono ?_
              rintro e wq ⟨rfl, hbq⟩
              have Bq := Bk.trans (hbq.mono Bk.size)
              have uq := RU.laterQ (RU.laterQ up hbk) hbq
              have rq := RI.laterQ (RI.laterQ ri11 hbk) hbq
              have kq := (kN.call hbq).cell
              clear HKc kN up hbk hbp Bk Bp
              by_cases hz : cw = 0
              · have hz' : (cw == 0) = true := by simp [hz]
                obtain ⟨z1, z2⟩ := hw1.out hz
                have HXc := Lib.hid (HWX.out A11 c11 _ _ hwl.out rq uq)
                generalize wasteT (withF xs x1) us = RX at *
                obtain ⟨rx, ex⟩ := RX
                simp only at z1 z2
                have z1' : (ex != 0) = false := by simp [z1]
                have z2' : decide (wa < rx) = false := by simp; omega
                clear z1 z2 hz hw1
                go_wp2_with fail
                refine HXc.out.mono ?_
                rintro e wr ⟨rfl, hbr⟩
                have Br := Bq.trans (hbr.mono Bq.size)
                go_wp2_with fail
                refine (shown_any _).mono ?_
                rintro e wz ⟨rfl, hbz⟩
                go_wp2_with fail
                go_ret
                exact ⟨rfl, Br.trans (hbz.mono Br.size)⟩
              · have hz' : (cw == 0) = false := by simp [hz]
                clear hz hw1
                go_wp2_with fail
                refine (shown_any _).mono ?_
                rintro e wz ⟨rfl, hbz⟩
                go_wp2_with fail
                go_ret
                exact ⟨rfl, Bq.trans (hbz.mono Bq.size)⟩
          · have gb' : (eb != 0) = true := by simp [gb]
            clear ga gb hsum hwit hck hbd1 hbd2 hmono
            go_wp2_with fail
            refine (shown_any _).mono ?_
            rintro e wz ⟨rfl, hbz⟩
            go_wp2_with fail
            go_ret
            exact ⟨rfl, B8.trans (hbz.mono B8.size)⟩
        · have ga' : (ea != 0) = true := by simp [ga]
          clear ga hsum hwit hck hbd1 hbd2 hmono
          go_wp2_with fail
          refine (shown_any _).mono ?_
          rintro e wz ⟨rfl, hbz⟩
          go_wp2_with fail
          go_ret
          exact ⟨rfl, B8.trans (hbz.mono B8.size)⟩
      · have y1' : decide (1 ≤ x1) = false := by simpa using y1
        clear hm f g y1
        go_wp2_with fail
        refine (HW1.out _ r7 u7).mono ?_
        rintro e w7 ⟨rfl, hb7⟩
        have B7 := B6.trans (hb7.mono B6.size)
        have kT7 := kT6.call hb7
        have kX7 := kX6.call hb7
        have r8 := RI.laterQ r7 hb7
        have u8 := RU.laterQ u7 hb7
        have v8 := RU.laterQ v7 hb7
        clear B6 kT6 kX6 r7 u7 v7 hb7
        clear cT cX
        have cT := kT7.cell
        go_wp2_with fail
        refine (HW2.out _ r8 v8).mono ?_
        rintro e w8 ⟨rfl, hb8⟩
        have B8 := B7.trans (hb8.mono B7.size)
        have kT8 := kT7.call hb8
        have kX8 := kX7.call hb8
        have r9 := RI.laterQ r8 hb8
        have u9 := RU.laterQ u8 hb8
        have v9 := RU.laterQ v8 hb8
        clear B7 kT7 kX7 r8 u8 v8 hb8
        clear cT
        have cT := kT8.cell
        by_cases ga : ea = 0
        · have ga' : (ea != 0) = false := by simp [ga]
          by_cases gb : eb = 0
          · have gb' : (eb != 0) = false := by simp [gb]
            have hs1 := Lib.hid (hsum.out ga gb)
            have hw1 := Lib.hid (hwit.out ga)
            have hk1 := Lib.hid (hck.out ga)
            have hwab : wrap64 (wa + wb) = wa + wb := by have := hbd1.out ga; have := hbd2.out gb; unfold wrap64; omega
            clear ga gb hsum hwit hck hbd1 hbd2 hmono
            go_wp2_with fail
            refine (HM.out _ u9 v9).mono ?_
            rintro e w9 ⟨A9, c9, rfl, ru9, m9, x9, hb9⟩
            have B9 := B8.trans (hb9.mono B8.size)
            have kT9 := kT8.call hb9
            have kX9 := kX8.call hb9
            have r10 := RI.laterQ r9 hb9
            have u10 := RU.laterQ u9 hb9
            have v10 := RU.laterQ v9 hb9
            clear B8 kT8 kX8 r9 u9 v9 hb9
            clear cT
            have cT := kT9.cell
            have cX := kX9.cell
            simp only at ru9 m9
            by_cases hk : k = 0
            · have hk' : (k == 0) = true := by simp [hk]
              have hab : (wa + wb != wa + wb) = false := by simp
              have HZ := HWM.out A9 L.length c9 L w9 r10 rfl (Nat.le_trans m9 x9) ru9
              rw [hs1.out hk] at HZ
              have HZ' := Lib.hid HZ
              clear HZ hk
              go_wp2_with fail
              refine HZ'.out.mono ?_
              rintro e w10 ⟨rfl, hb10⟩
              have B10 := B9.trans (hb10.mono B9.size)
              have kT10 := kT9.call hb10
              have kX10 := kX9.call hb10
              have r11 := RI.laterQ r10 hb10
              have u11 := RU.laterQ u10 hb10
              have v11 := RU.laterQ v10 hb10
              clear B9 kT9 kX9 r10 u10 v10 hb10
              clear cT cX ru9 HZ'
              have cT := kT10.cell
              have cX := kX10.cell
              go_wp2_with fail
              refine (HWI.out _ r11 hk1.out).mono ?_
              rintro e wp ⟨A11, c11, rfl, ri11, hbp⟩
              have Bp := B10.trans (hbp.mono B10.size)
              have up := RU.laterQ u11 hbp
              have hbk := (Below.refl wp.heap.size wp).alloc (Nat.le_refl _) (.cells #[.slice A11 (n + 1) c11] 24)
              have Bk := Bp.trans (hbk.mono Bp.size)
              generalize hcw : chkT (withF xs x1) = cw at *
              have hcw' := Lib.hid hcw
              clear hcw
              have kN := Blk.new wp 24 #[.slice A11 (n + 1) c11]
              have HKc := Lib.hid (HK.out A11 c11 _ _ hwl.out (RI.laterQ ri11 hbk))
              rw [hcw'.out] at HKc
              go_wp2_with fail
              refine HKc.out.mono ?_
              rintro e wq ⟨rfl, hbq⟩
              have Bq := Bk.trans (hbq.mono Bk.size)
              have uq := RU.laterQ (RU.laterQ up hbk) hbq
              have rq := RI.laterQ (RI.laterQ ri11 hbk) hbq
              have kq := (kN.call hbq).cell
              clear HKc kN up hbk hbp Bk Bp
              by_cases hz : cw = 0
              · have hz' : (cw == 0) = true := by simp [hz]
                obtain ⟨z1, z2⟩ := hw1.out hz
                have HXc := Lib.hid (HWX.out A11 c11 _ _ hwl.out rq uq)
                generalize wasteT (withF xs x1) us = RX at *
                obtain ⟨rx, ex⟩ := RX
                simp only at z1 z2
                have z1' : (ex != 0) = false := by simp [z1]
                have z2' : decide (wa < rx) = false := by simp; omega
                clear z1 z2 hz hw1
                go_wp2_with fail
                refine HXc.out.mono ?_
                rintro e wr ⟨rfl, hbr⟩
                have Br := Bq.trans (hbr.mono Bq.size)
                go_wp2_with fail
                refine (shown_any _).mono ?_
                rintro e wz ⟨rfl, hbz⟩
                go_wp2_with fail
                go_ret
                exact ⟨rfl, Br.trans (hbz.mono Br.size)⟩
              · have hz' : (cw == 0) = false := by simp [hz]
                clear hz hw1
                go_wp2_with fail
                refine (shown_any _).mono ?_
                rintro e wz ⟨rfl, hbz⟩
                go_wp2_with fail
                go_ret
                exact ⟨rfl, Bq.trans (hbz.mono Bq.size)⟩
            · have hk' : (k == 0) = false := by simp [hk]
              clear hk
              go_wp2_with fail
              refine (HWI.out _ r10 hk1.out).mono ?_
              rintro e wp ⟨A11, c11, rfl, ri11, hbp⟩
              have Bp := B9.trans (hbp.mono B9.size)
              have up := RU.laterQ u10 hbp
              have hbk := (Below.refl wp.heap.size wp).alloc (Nat.le_refl _) (.cells #[.slice A11 (n + 1) c11] 24)
              have Bk := Bp.trans (hbk.mono Bp.size)
              generalize hcw : chkT (withF xs x1) = cw at *
              have hcw' := Lib.hid hcw
              clear hcw
              have kN := Blk.new wp 24 #[.slice A11 (n + 1) c11]
              have HKc := Lib.hid (HK.out A11 c11 _ _ hwl.out (RI.laterQ ri11 hbk))
              rw [hcw'.out] at HKc
              go_wp2_with fail
              refine HKc.out.mono ?_
              rintro e wq ⟨rfl, hbq⟩
              have Bq := Bk.trans (hbq.mono Bk.size)
              have uq := RU.laterQ (RU.laterQ up hbk) hbq
              have rq := RI.laterQ (RI.laterQ ri11 hbk) hbq
              have kq := (kN.call hbq).cell
              clear HKc kN up hbk hbp Bk Bp
              by_cases hz : cw = 0
              · have hz' : (cw == 0) = true := by simp [hz]
                obtain ⟨z1, z2⟩ := hw1.out hz
                have HXc := Lib.hid (HWX.out A11 c11 _ _ hwl.out rq uq)
                generalize wasteT (withF xs x1) us = RX at *
                obtain ⟨rx, ex⟩ := RX
                simp only at z1 z2
                have z1' : (ex != 0) = false := by simp [z1]
                have z2' : decide (wa < rx) = false := by simp; omega
                clear z1 z2 hz hw1
                go_wp2_with fail
                refine HXc.out.mono ?_
                rintro e wr ⟨rfl, hbr⟩
                have Br := Bq.trans (hbr.mono Bq.size)
                go_wp2_with fail
                refine (shown_any _).mono ?_
                rintro e wz ⟨rfl, hbz⟩
                go_wp2_with fail
                go_ret
                exact ⟨rfl, Br.trans (hbz.mono Br.size)⟩
              · have hz' : (cw == 0) = false := by simp [hz]
                clear hz hw1
                go_wp2_with fail
                refine (shown_any _).mono ?_
                rintro e wz ⟨rfl, hbz⟩
                go_wp2_with fail
                go_ret
                exact ⟨rfl, Bq.trans (hbz.mono Bq.size)⟩
          · have gb' : (eb != 0) = true := by simp [gb]
            clear ga gb hsum hwit hck hbd1 hbd2 hmono
            go_wp2_with fail
            refine (shown_any _).mono ?_
            rintro e wz ⟨rfl, hbz⟩
            go_wp2_with fail
            go_ret
            exact ⟨rfl, B8.trans (hbz.mono B8.size)⟩
        · have ga' : (ea != 0) = true := by simp [ga]
          clear ga hsum hwit hck hbd1 hbd2 hmono
          go_wp2_with fail
          refine (shown_any _).mono ?_
          rintro e wz ⟨rfl, hbz⟩
          go_wp2_with fail
          go_ret
          exact ⟨rfl, B8.trans (hbz.mono B8.size)⟩
  · have f1 : (e2 == 0) = false := by simp [f]
    by_cases g : e1 = 0
    · have g1 : (e1 == 0) = true := by simp [g]
      have g2 : (e1 != 0) = false := by simp [g]
      clear hm f g
      go_wp2_with fail
      refine (HW1.out _ r7 u7).mono ?_
      rintro e w7 ⟨rfl, hb7⟩
      have B7 := B6.trans (hb7.mono B6.size)
      have kT7 := kT6.call hb7
      have kX7 := kX6.call hb7
      have r8 := RI.laterQ r7 hb7
      have u8 := RU.laterQ u7 hb7
      have v8 := RU.laterQ v7 hb7
      clear B6 kT6 kX6 r7 u7 v7 hb7
      clear cT cX
      have cT := kT7.cell
      go_wp2_with fail
      refine (HW2.out _ r8 v8).mono ?_
      rintro e w8 ⟨rfl, hb8⟩
      have B8 := B7.trans (hb8.mono B7.size)
      have kT8 := kT7.call hb8
      have kX8 := kX7.call hb8
      have r9 := RI.laterQ r8 hb8
      have u9 := RU.laterQ u8 hb8
      have v9 := RU.laterQ v8 hb8
      clear B7 kT7 kX7 r8 u8 v8 hb8
      clear cT
      have cT := kT8.cell
      by_cases ga : ea = 0
      · have ga' : (ea != 0) = false := by simp [ga]
        by_cases gb : eb = 0
        · have gb' : (eb != 0) = false := by simp [gb]
          have hs1 := Lib.hid (hsum.out ga gb)
          have hw1 := Lib.hid (hwit.out ga)
          have hk1 := Lib.hid (hck.out ga)
          have hwab : wrap64 (wa + wb) = wa + wb := by have := hbd1.out ga; have := hbd2.out gb; unfold wrap64; omega
          clear ga gb hsum hwit hck hbd1 hbd2 hmono
          go_wp2_with fail
          refine (HM.out _ u9 v9).mono ?_
          rintro e w9 ⟨A9, c9, rfl, ru9, m9, x9, hb9⟩
          have B9 := B8.trans (hb9.mono B8.size)
          have kT9 := kT8.call hb9
          have kX9 := kX8.call hb9
          have r10 := RI.laterQ r9 hb9
          have u10 := RU.laterQ u9 hb9
          have v10 := RU.laterQ v9 hb9
          clear B8 kT8 kX8 r9 u9 v9 hb9
          clear cT
          have cT := kT9.cell
          have cX := kX9.cell
          simp only at ru9 m9
          by_cases hk : k = 0
          · have hk' : (k == 0) = true := by simp [hk]
            have hab : (wa + wb != wa + wb) = false := by simp
            have HZ := HWM.out A9 L.length c9 L w9 r10 rfl (Nat.le_trans m9 x9) ru9
            rw [hs1.out hk] at HZ
            have HZ' := Lib.hid HZ
            clear HZ hk
            go_wp2_with fail
            refine HZ'.out.mono ?_
            rintro e w10 ⟨rfl, hb10⟩
            have B10 := B9.trans (hb10.mono B9.size)
            have kT10 := kT9.call hb10
            have kX10 := kX9.call hb10
            have r11 := RI.laterQ r10 hb10
            have u11 := RU.laterQ u10 hb10
            have v11 := RU.laterQ v10 hb10
            clear B9 kT9 kX9 r10 u10 v10 hb10
            clear cT cX ru9 HZ'
            have cT := kT10.cell
            have cX := kX10.cell
            go_wp2_with fail
            refine (HWI.out _ r11 hk1.out).mono ?_
            rintro e wp ⟨A11, c11, rfl, ri11, hbp⟩
            have Bp := B10.trans (hbp.mono B10.size)
            have up := RU.laterQ u11 hbp
            have hbk := (Below.refl wp.heap.size wp).alloc (Nat.le_refl _) (.cells #[.slice A11 (n + 1) c11] 24)
            have Bk := Bp.trans (hbk.mono Bp.size)
            generalize hcw : chkT (withF xs x1) = cw at *
            have hcw' := Lib.hid hcw
            clear hcw
            have kN := Blk.new wp 24 #[.slice A11 (n + 1) c11]
            have HKc := Lib.hid (HK.out A11 c11 _ _ hwl.out (RI.laterQ ri11 hbk))
            rw [hcw'.out] at HKc
            go_wp2_with fail
            refine HKc.out.mono ?_
            rintro e wq ⟨rfl, hbq⟩
            have Bq := Bk.trans (hbq.mono Bk.size)
            have uq := RU.laterQ (RU.laterQ up hbk) hbq
            have rq := RI.laterQ (RI.laterQ ri11 hbk) hbq
            have kq := (kN.call hbq).cell
            clear HKc kN up hbk hbp Bk Bp
            by_cases hz : cw = 0
            · have hz' : (cw == 0) = true := by simp [hz]
              obtain ⟨z1, z2⟩ := hw1.out hz
              have HXc := Lib.hid (HWX.out A11 c11 _ _ hwl.out rq uq)
              generalize wasteT (withF xs x1) us = RX at *
              obtain ⟨rx, ex⟩ := RX
              simp only at z1 z2
              have z1' : (ex != 0) = false := by simp [z1]
              have z2' : decide (wa < rx) = false := by simp; omega
              clear z1 z2 hz hw1
              go_wp2_with fail
              refine HXc.out.mono ?_
              rintro e wr ⟨rfl, hbr⟩
              have Br := Bq.trans (hbr.mono Bq.size)
              go_wp2_with fail
              refine (shown_any _).mono ?_
              rintro e wz ⟨rfl, hbz⟩
              go_wp2_with fail
              go_ret
              exact ⟨rfl, Br.trans (hbz.mono Br.size)⟩
            · have hz' : (cw == 0) = false := by simp [hz]
              clear hz hw1
              go_wp2_with fail
              refine (shown_any _).mono ?_
              rintro e wz ⟨rfl, hbz⟩
              go_wp2_with fail
              go_ret
              exact ⟨rfl, Bq.trans (hbz.mono Bq.size)⟩
          · have hk' : (k == 0) = false := by simp [hk]
            clear hk
            go_wp2_with fail
            refine (HWI.out _ r10 hk1.out).mono ?_
            rintro e wp ⟨A11, c11, rfl, ri11, hbp⟩
            have Bp := B9.trans (hbp.mono B9.size)
            have up := RU.laterQ u10 hbp
            have hbk := (Below.refl wp.heap.size wp).alloc (Nat.le_refl _) (.cells #[.slice A11 (n + 1) c11] 24)
            have Bk := Bp.trans (hbk.mono Bp.size)
            generalize hcw : chkT (withF xs x1) = cw at *
            have hcw' := Lib.hid hcw
            clear hcw
            have kN := Blk.new wp 24 #[.slice A11 (n + 1) c11]
            have HKc := Lib.hid (HK.out A11 c11 _ _ hwl.out (RI.laterQ ri11 hbk))
            rw [hcw'.out] at HKc
            go_wp2_with fail
            refine HKc.out.mono ?_
            rintro e wq ⟨rfl, hbq⟩
            have Bq := Bk.trans (hbq.mono Bk.size)
            have uq := RU.laterQ (RU.laterQ up hbk) hbq
            have rq := RI.laterQ (RI.laterQ ri11 hbk) hbq
            have kq := (kN.call hbq).cell
            clear HKc kN up hbk hbp Bk Bp
            by_cases hz : cw = 0
            · have hz' : (cw == 0) = true := by simp [hz]
              obtain ⟨z1, z2⟩ := hw1.out hz
              have HXc := Lib.hid (HWX.out A11 c11 _ _ hwl.out rq uq)
              generalize wasteT (withF xs x1) us = RX at *
              obtain ⟨rx, ex⟩ := RX
              simp only at z1 z2
              have z1' : (ex != 0) = false := by simp [z1]
              have z2' : decide (wa < rx) = false := by simp; omega
              clear z1 z2 hz hw1
              go_wp2_with fail
              refine HXc.out.mono ?_
              rintro e wr ⟨rfl, hbr⟩
              have Br := Bq.trans (hbr.mono Bq.size)
              go_wp2_with fail
              refine (shown_any _).mono ?_
              rintro e wz ⟨rfl, hbz⟩
              go_wp2_with fail
              go_ret
              exact ⟨rfl, Br.trans (hbz.mono Br.size)⟩
            · have hz' : (cw == 0) = false := by simp [hz]
              clear hz hw1
              go_wp2_with fail
              refine (shown_any _).mono ?_
              rintro e wz ⟨rfl, hbz⟩
              go_wp2_with fail
              go_ret
              exact ⟨rfl, Bq.trans (hbz.mono Bq.size)⟩
        · have gb' : (eb != 0) = true := by simp [gb]
          clear ga gb hsum hwit hck hbd1 hbd2 hmono
          go_wp2_with fail
          refine (shown_any _).mono ?_
          rintro e wz ⟨rfl, hbz⟩
          go_wp2_with fail
          go_ret
          exact ⟨rfl, B8.trans (hbz.mono B8.size)⟩
      · have ga' : (ea != 0) = true := by simp [ga]
        clear ga hsum hwit hck hbd1 hbd2 hmono
        go_wp2_with fail
        refine (shown_any _).mono ?_
        rintro e wz ⟨rfl, hbz⟩
        go_wp2_with fail
        go_ret
        exact ⟨rfl, B8.trans (hbz.mono B8.size)⟩
    · have g1 : (e1 == 0) = false := by simp [g]
      have g2 : (e1 != 0) = true := by simp [g]
      clear hm f g
      go_wp2_with fail
      refine (HW1.out _ r7 u7).mono ?_
      rintro e w7 ⟨rfl, hb7⟩
      have B7 := B6.trans (hb7.mono B6.size)
      have kT7 := kT6.call hb7
      have kX7 := kX6.call hb7
      have r8 := RI.laterQ r7 hb7
      have u8 := RU.laterQ u7 hb7
      have v8 := RU.laterQ v7 hb7
      clear B6 kT6 kX6 r7 u7 v7 hb7
      clear cT cX
      have cT := kT7.cell
      go_wp2_with fail
      refine (HW2.out _ r8 v8).mono ?_
      rintro e w8 ⟨rfl, hb8⟩
      have B8 := B7.trans (hb8.mono B7.size)
      have kT8 := kT7.call hb8
      have kX8 := kX7.call hb8
      have r9 := RI.laterQ r8 hb8
      have u9 := RU.laterQ u8 hb8
      have v9 := RU.laterQ v8 hb8
      clear B7 kT7 kX7 r8 u8 v8 hb8
      clear cT
      have cT := kT8.cell
      by_cases ga : ea = 0
      · have ga' : (ea != 0) = false := by simp [ga]
        by_cases gb : eb = 0
        · have gb' : (eb != 0) = false := by simp [gb]
          have hs1 := Lib.hid (hsum.out ga gb)
          have hw1 := Lib.hid (hwit.out ga)
          have hk1 := Lib.hid (hck.out ga)
          have hwab : wrap64 (wa + wb) = wa + wb := by have := hbd1.out ga; have := hbd2.out gb; unfold wrap64; omega
          clear ga gb hsum hwit hck hbd1 hbd2 hmono
          go_wp2_with fail
          refine (HM.out _ u9 v9).mono ?_
          rintro e w9 ⟨A9, c9, rfl, ru9, m9, x9, hb9⟩
          have B9 := B8.trans (hb9.mono B8.size)
          have kT9 := kT8.call hb9
          have kX9 := kX8.call hb9
          have r10 := RI.laterQ r9 hb9
          have u10 := RU.laterQ u9 hb9
          have v10 := RU.laterQ v9 hb9
          clear B8 kT8 kX8 r9 u9 v9 hb9
          clear cT
          have cT := kT9.cell
          have cX := kX9.cell
          simp only at ru9 m9
          by_cases hk : k = 0
          · have hk' : (k == 0) = true := by simp [hk]
            have hab : (wa + wb != wa + wb) = false := by simp
            have HZ := HWM.out A9 L.length c9 L w9 r10 rfl (Nat.le_trans m9 x9) ru9
            rw [hs1.out hk] at HZ
            have HZ' := Lib.hid HZ
            clear HZ hk
            go_wp2_with fail
            refine HZ'.out.mono ?_
            rintro e w10 ⟨rfl, hb10⟩
            have B10 := B9.trans (hb10.mono B9.size)
            have kT10 := kT9.call hb10
            have kX10 := kX9.call hb10
            have r11 := RI.laterQ r10 hb10
            have u11 := RU.laterQ u10 hb10
            have v11 := RU.laterQ v10 hb10
            clear B9 kT9 kX9 r10 u10 v10 hb10
            clear cT cX ru9 HZ'
            have cT := kT10.cell
            have cX := kX10.cell
            go_wp2_with fail
            refine (HWI.out _ r11 hk1.out).mono ?_
            rintro e wp ⟨A11, c11, rfl, ri11, hbp⟩
            have Bp := B10.trans (hbp.mono B10.size)
            have up := RU.laterQ u11 hbp
            have hbk := (Below.refl wp.heap.size wp).alloc (Nat.le_refl _) (.cells #[.slice A11 (n + 1) c11] 24)
            have Bk := Bp.trans (hbk.mono Bp.size)
            generalize hcw : chkT (withF xs x1) = cw at *
            have hcw' := Lib.hid hcw
            clear hcw
            have kN := Blk.new wp 24 #[.slice A11 (n + 1) c11]
            have HKc := Lib.hid (HK.out A11 c11 _ _ hwl.out (RI.laterQ ri11 hbk))
            rw [hcw'.out] at HKc
            go_wp2_with fail
            refine HKc.out.mono ?_
            rintro e wq ⟨rfl, hbq⟩
            have Bq := Bk.trans (hbq.mono Bk.size)
            have uq := RU.laterQ (RU.laterQ up hbk) hbq
            have rq := RI.laterQ (RI.laterQ ri11 hbk) hbq
            have kq := (kN.call hbq).cell
            clear HKc kN up hbk hbp Bk Bp
            by_cases hz : cw = 0
            · have hz' : (cw == 0) = true := by simp [hz]
              obtain ⟨z1, z2⟩ := hw1.out hz
              have HXc := Lib.hid (HWX.out A11 c11 _ _ hwl.out rq uq)
              generalize wasteT (withF xs x1) us = RX at *
              obtain ⟨rx, ex⟩ := RX
              simp only at z1 z2
              have z1' : (ex != 0) = false := by simp [z1]
              have z2' : decide (wa < rx) = false := by simp; omega
              clear z1 z2 hz hw1
              go_wp2_with fail
              refine HXc.out.mono ?_
              rintro e wr ⟨rfl, hbr⟩
              have Br := Bq.trans (hbr.mono Bq.size)
              go_wp2_with fail
              refine (shown_any _).mono ?_
              rintro e wz ⟨rfl, hbz⟩
              go_wp2_with fail
              go_ret
              exact ⟨rfl, Br.trans (hbz.mono Br.size)⟩
            · have hz' : (cw == 0) = false := by simp [hz]
              clear hz hw1
              go_wp2_with fail
              refine (shown_any _).mono ?_
              rintro e wz ⟨rfl, hbz⟩
              go_wp2_with fail
              go_ret
              exact ⟨rfl, Bq.trans (hbz.mono Bq.size)⟩
          · have hk' : (k == 0) = false := by simp [hk]
            clear hk
            go_wp2_with fail
            refine (HWI.out _ r10 hk1.out).mono ?_
            rintro e wp ⟨A11, c11, rfl, ri11, hbp⟩
            have Bp := B9.trans (hbp.mono B9.size)
            have up := RU.laterQ u10 hbp
            have hbk := (Below.refl wp.heap.size wp).alloc (Nat.le_refl _) (.cells #[.slice A11 (n + 1) c11] 24)
            have Bk := Bp.trans (hbk.mono Bp.size)
            generalize hcw : chkT (withF xs x1) = cw at *
            have hcw' := Lib.hid hcw
            clear hcw
            have kN := Blk.new wp 24 #[.slice A11 (n + 1) c11]
            have HKc := Lib.hid (HK.out A11 c11 _ _ hwl.out (RI.laterQ ri11 hbk))
            rw [hcw'.out] at HKc
            go_wp2_with fail
            refine HKc.out.mono ?_
            rintro e wq ⟨rfl, hbq⟩
            have Bq := Bk.trans (hbq.mono Bk.size)
            have uq := RU.laterQ (RU.laterQ up hbk) hbq
            have rq := RI.laterQ (RI.laterQ ri11 hbk) hbq
            have kq := (kN.call hbq).cell
            clear HKc kN up hbk hbp Bk Bp
            by_cases hz : cw = 0
            · have hz' : (cw == 0) = true := by simp [hz]
              obtain ⟨z1, z2⟩ := hw1.out hz
              have HXc := Lib.hid (HWX.out A11 c11 _ _ hwl.out rq uq)
              generalize wasteT (withF xs x1) us = RX at *
              obtain ⟨rx, ex⟩ := RX
              simp only at z1 z2
              have z1' : (ex != 0) = false := by simp [z1]
              have z2' : decide (wa < rx) = false := by simp; omega
              clear z1 z2 hz hw1
              go_wp2_with fail
              refine HXc.out.mono ?_
              rintro e wr ⟨rfl, hbr⟩
              have Br := Bq.trans (hbr.mono Bq.size)
              go_wp2_with fail
              refine (shown_any _).mono ?_
              rintro e wz ⟨rfl, hbz⟩
              go_wp2_with fail
              go_ret
              exact ⟨rfl, Br.trans (hbz.mono Br.size)⟩
            · have hz' : (cw == 0) = false := by simp [hz]
              clear hz hw1
              go_wp2_with fail
              refine (shown_any _).mono ?_
              rintro e wz ⟨rfl, hbz⟩
              go_wp2_with fail
              go_ret
              exact ⟨rfl, Bq.trans (hbz.mono Bq.size)⟩
        · have gb' : (eb != 0) = true := by simp [gb]
          clear ga gb hsum hwit hck hbd1 hbd2 hmono
          go_wp2_with fail
          refine (shown_any _).mono ?_
          rintro e wz ⟨rfl, hbz⟩
          go_wp2_with fail
          go_ret
          exact ⟨rfl, B8.trans (hbz.mono B8.size)⟩
      · have ga' : (ea != 0) = true := by simp [ga]
        clear ga hsum hwit hck hbd1 hbd2 hmono
        go_wp2_with fail
        refine (shown_any _).mono ?_
        rintro e wz ⟨rfl, hbz⟩
        go_wp2_with fail
        go_ret
        exact ⟨rfl, B8.trans (hbz.mono B8.size)⟩
end Go.Proofs.Ytiohcegkkpeodaa
