/- The law ClassesTables: for every table, usage and size, Check, CheckUse, Class and Waste of the program and of the reference answer alike (more than 70 classes or 210 entries are not looked at), and the examples hold. -/
import Derived.Test.YtiohcegkkpeodaaWalkQ
import Derived.Test.YtiohcegkkpeodaaLawC
namespace Go.Proofs.Ytiohcegkkpeodaa
open Go Go.Proofs Go.RowKit Go.Pol Go.ChangeShapes Go.WideShapes Go.Deep
set_option maxHeartbeats 800000 in
theorem tablesLaw_any (A U : Option Addr) (n cap m ucap : Nat) (xs : List Int) (us : List (Int × Int)) (s : Int) (w : World) (hn : xs.length = n) (hm : us.length = m) (hn2 : n ≤ maxLen) (hm2 : m ≤ maxLen) (hr : RI w w.heap.size A xs) (hu : RU w w.heap.size U us) :
    Calls Try.prog 7 #[.agg #[.slice A n cap], .slice U m ucap, .int .i64 s] w fun e w' => e = .returned (.bool true) ∧ Below w.heap.size w w' := by
  have HF := Lib.hid (fun W b hb => far_any A U n cap m ucap W b hb hn2 hm2)
  have hb0 := (Below.refl w.heap.size w).alloc (Nat.le_refl _) (.cells #[.slice A n cap] 24)
  have k0 := Blk.new w 24 #[.slice A n cap]
  have hr0 := RI.laterQ hr hb0
  have hu0 := RU.laterQ hu hb0
  by_cases hf : (decide (70 < n) || decide (210 < m)) = true
  · have HFC := Lib.hid (HF.out (w.alloc (.cells #[.slice A n cap] 24)) true hf.symm)
    clear hf hn hm HF
    go_enter Try.func7, Try.ntmps7
    go_wp2_with fail
    refine HFC.out.mono ?_
    rintro e w1 ⟨rfl, hb1⟩
    have B1 := hb0.trans (hb1.mono hb0.size)
    go_wp2_with fail
    refine (shown_any _).mono ?_
    rintro e wZ ⟨rfl, hbZ⟩
    go_wp2_with fail
    go_ret
    exact ⟨rfl, (B1).trans (hbZ.mono (B1).size)⟩
  · have hf' : (decide (70 < n) || decide (210 < m)) = false := by simpa using hf
    have HFC := Lib.hid (HF.out (w.alloc (.cells #[.slice A n cap] 24)) false hf'.symm)
    have HC1 := Lib.hid (fun W (h : RI W W.heap.size A xs) => class_any A n cap xs s W hn hn2 h)
    have HC2 := Lib.hid (fun W (h : RI W W.heap.size A xs) => refClassT_any A n cap xs s W hn hn2 h)
    have HW1 := Lib.hid (fun W (h : RI W W.heap.size A xs) (h2 : RU W W.heap.size U us) => waste_any A U n cap m ucap xs us W hn hm hn2 hm2 h h2)
    have HW2 := Lib.hid (fun W (h : RI W W.heap.size A xs) (h2 : RU W W.heap.size U us) => refWasteT_any A U n cap m ucap xs us W hn hm hn2 hm2 h h2)
    have HK1 := Lib.hid (fun W (h : RI W W.heap.size A xs) => check_any A n cap xs W hn hn2 h)
    have HK2 := Lib.hid (fun W (h : RI W W.heap.size A xs) => refCheck_any A n cap xs W hn hn2 h)
    have HU1 := Lib.hid (fun W (h : RU W W.heap.size U us) => checkUse_any U m ucap us W hm hm2 h)
    have HU2 := Lib.hid (fun W (h : RU W W.heap.size U us) => refCheckUse_any U m ucap us W hm hm2 h)
    clear hf hf' hn hm HF
    generalize classT xs s = R1 at *
    generalize wasteT xs us = R2 at *
    generalize chkT xs = ck at *
    generalize chkU us = cu at *
    obtain ⟨r1, r2⟩ := R1
    obtain ⟨r3, r4⟩ := R2
    have b1 : (ck == ck) = true := by simp
    have b2 : (cu == cu) = true := by simp
    have b3 : (r1 == r1) = true := by simp
    have b4 : (r2 == r2) = true := by simp
    have b5 : (r3 == r3) = true := by simp
    have b6 : (r4 == r4) = true := by simp
    go_enter Try.func7, Try.ntmps7
    go_wp2_with fail
    refine HFC.out.mono ?_
    rintro e w1 ⟨rfl, hb1⟩
    have k1 := k0.call hb1
    have hr1 := RI.laterQ hr0 hb1
    have hu1 := RU.laterQ hu0 hb1
    have B1 := hb0.trans (hb1.mono hb0.size)
    have c1 := k1.cell
    clear k0 hr0 hu0 hb0 hb1
    go_wp2_with fail
    refine (HC1.out _ hr1).mono ?_
    rintro e w2 ⟨rfl, hb2⟩
    have k2 := k1.call hb2
    have hr2 := RI.laterQ hr1 hb2
    have hu2 := RU.laterQ hu1 hb2
    have B2 := B1.trans (hb2.mono B1.size)
    have c2 := k2.cell
    clear k1 hr1 hu1 B1 hb2 c1
    go_wp2_with fail
    refine (HC2.out _ hr2).mono ?_
    rintro e w3 ⟨rfl, hb3⟩
    have k3 := k2.call hb3
    have hr3 := RI.laterQ hr2 hb3
    have hu3 := RU.laterQ hu2 hb3
    have B3 := B2.trans (hb3.mono B2.size)
    have c3 := k3.cell
    clear k2 hr2 hu2 B2 hb3 c2
    go_wp2_with fail
    refine (HW1.out _ hr3 hu3).mono ?_
    rintro e w4 ⟨rfl, hb4⟩
    have k4 := k3.call hb4
    have hr4 := RI.laterQ hr3 hb4
    have hu4 := RU.laterQ hu3 hb4
    have B4 := B3.trans (hb4.mono B3.size)
    have c4 := k4.cell
    clear k3 hr3 hu3 B3 hb4 c3
    go_wp2_with fail
    refine (HW2.out _ hr4 hu4).mono ?_
    rintro e w5 ⟨rfl, hb5⟩
    have k5 := k4.call hb5
    have hr5 := RI.laterQ hr4 hb5
    have hu5 := RU.laterQ hu4 hb5
    have B5 := B4.trans (hb5.mono B4.size)
    clear k4 hr4 hu4 B4 hb5 c4
    have q0 := fun z : Ext w5 => (z.blk k5).cell
    have G1 := Lib.hid (fun z : Ext w5 => Ext.call (HK1.out _ (RI.laterQ hr5 z.le)))
    have G2 := Lib.hid (fun z : Ext w5 => Ext.call (HK2.out _ (RI.laterQ hr5 z.le)))
    have G3 := Lib.hid (fun z : Ext w5 => Ext.call (HU1.out _ (RU.laterQ hu5 z.le)))
    have G4 := Lib.hid (fun z : Ext w5 => Ext.call (HU2.out _ (RU.laterQ hu5 z.le)))
    have G5 := Lib.hid (fun z : Ext w5 => Ext.call (x := z) (shown_any z.w))
    go_upto_region 7 with fail
    refine region_ext (by kernel_rfl) (by kernel_rfl) ?_
    repeat (go_big_quiet_step ((first | (go_at_call 17; exact G1.out _) | (go_at_call 24; exact G2.out _) | (go_at_call 25; exact G3.out _) | (go_at_call 26; exact G4.out _) | (go_at_call 11; exact G5.out _))))
    refine wpQuiet_nil ?_
    rintro w6 ⟨⟨_, hw6⟩, rfl⟩
    go_wp2_with fail
    go_ret
    exact ⟨rfl, B5.trans (hw6.mono B5.size)⟩
set_option maxRecDepth 100000 in
theorem classesTables_lifted (os : Os) (started : os.Started) (H : Type) (enc : TypeId × Value → H) :
    ReturnsInHanded {} Try.checked os 7 .any (Rows.classesTablesSpec.pre6 enc Try.prog Try.f7 Rows.classesTablesRow.domain false) (Rows.classesTablesSpec.post enc Try.prog Try.f7 false true false false) := by
  refine returnsInHanded_of_change (C := Try.checked) own_ started (by kernel_rfl) Try.func7
    (ChangeSpec.witness6 (enc := enc) (C := Try.checked) false ⟨#[], #[.agg #[.slice none 0 0], .slice none 0 0, .int .i64 0], []⟩ 8 (by kernel_rfl) (by kernel_rfl) (by kernel_rfl) (by kernel_rfl)) ?_
  intro W base args ds gs before hval0 hW _ _
  have hval : ∀ (j : Nat) t v, Try.f7.params[j]? = some t → args[j]? = some v → Value.okWide Try.prog W .any base t v := hval0
  have hW' := hW
  obtain ⟨p, q, hA0, hV, rfl, _, _⟩ := hW
  have hA : DataW.TrodAll enc Try.prog W 0 (fun _ => true) true Try.f7.params.toList args.toList ds p := hA0
  rw [Try.params7] at hA hval
  obtain ⟨v0, v1, v2, d0, d1, d2, p0, p1, p2, rfl, rfl, rfl, h0, h1, h2⟩ := trodAll_three hA
  obtain ⟨rfl, rfl⟩ := trodVars_none hV
  obtain ⟨A, n, cap, xs, rfl, e1, e2, e3⟩ := openTab (hval 0 24 v0 rfl rfl) h0
  obtain ⟨fuel, hf⟩ := h1
  obtain ⟨U, m, ucap, us, rfl, g1, g2, g3⟩ := openUse hf (hval 1 36 v1 rfl rfl)
  replace h1 : DataW.Trod enc Try.prog W 0 (fun _ => true) true 36 _ d1 p1 := ⟨fuel, hf⟩
  obtain ⟨n1, rfl⟩ := okWide_i64 (hval 2 3 v2 rfl rfl)
  simp only [List.append_nil] at hW'
  refine (tablesLaw_any A U n cap m ucap xs us n1 W e1 g1 e2 g2 e3 g3).mono fun e W' ⟨he, hb⟩ => ?_
  subst he
  exact ⟨_, rfl, post_of_below (pv := []) hW' (fun _ _ _ => trodAll_mk1 (shut_bool Try.underlying4 true))
    (fun sp hsp => by rw [Try.params7]; exact trodAll_mk3 (WideElems.Trod_stays laidOut_ (by kernel_rfl) (of_decide_eq_true (by kernel_rfl)) h0 (fun x hx => hb.same (hW'.lt x (by simp [hx]))) (fun x hx => hsp x (by simp [hx]))) (WideElems.Trod_stays laidOut_ (by kernel_rfl) (of_decide_eq_true (by kernel_rfl)) h1 (fun x hx => hb.same (hW'.lt x (by simp [hx]))) (fun x hx => hsp x (by simp [hx]))) (WideElems.Trod_stays laidOut_ (by kernel_rfl) (of_decide_eq_true (by kernel_rfl)) h2 (fun x hx => hb.same (hW'.lt x (by simp [hx]))) (fun x hx => hsp x (by simp [hx]))))
    (fun _ _ => rfl) (by simp) hb (ok_one (by kernel_rfl) rfl (okWide_bool_mk Try.underlying4 true))⟩
theorem classesTables_holds : Rows.ClassesTablesSaid :=
  OpenClaim.holds_of_wide 7 Try.f7 rfl rfl rfl rfl rfl rfl rfl ⟨rfl, rfl, rfl, rfl, rfl⟩ rfl rfl rfl rfl rfl (by kernel_rfl) Try.func7 (by kernel_rfl)
    (of_decide_eq_true (by kernel_rfl)) (by unfold Func.isWrapper; rw [if_neg (of_decide_eq_false (by kernel_rfl))]; exact ⟨rfl, rfl⟩)
    (fun os started H enc _ => classesTables_lifted os started H enc)
end Go.Proofs.Ytiohcegkkpeodaa
