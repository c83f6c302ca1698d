/- The law ClassesWorst: for every table, Worst of the program and of the reference answer alike (tables of more than 70 classes are not looked at), and the examples hold. -/
import Derived.Test.YtiohcegkkpeodaaWalkJ
import Derived.Test.YtiohcegkkpeodaaWalkK
import Derived.Test.YtiohcegkkpeodaaRow
namespace Go.Proofs.Ytiohcegkkpeodaa
open Go Go.Proofs Go.RowKit Go.Pol Go.ChangeShapes Go.WideShapes Go.Deep

set_option maxHeartbeats 400000 in
theorem worstLaw_any (A : Option Addr) (n cap : Nat) (xs : List Int) (w : World) (hn : xs.length = n) (hm : n ≤ maxLen) (hr : RI w w.heap.size A xs) :
    Calls Try.prog 3 #[.agg #[.slice A n cap]] w fun e w' => e = .returned (.bool true) ∧ Below w.heap.size w w' := by
  have HW := Lib.hid (fun W (h : RI W W.heap.size A xs) => worst_any A n cap xs W hn hm h)
  have HV := Lib.hid (fun W (h : RI W W.heap.size A xs) => refWorst_any A n cap xs W hn hm h)
  have hl := worst_law xs
  rw [hl] at HW
  clear hl hn
  generalize refW xs = R at *
  have hb0 := (Below.refl w.heap.size w).alloc (Nat.le_refl _) (.cells #[.slice A n cap] 24)
  have k0 := Blk.new w 24 #[.slice A n cap]
  have hr0 := RI.later hr hb0
  clear hr
  by_cases h70 : 70 < n
  · go_enter Try.func3, Try.ntmps3
    go_wp2_with fail
    refine (far_any _ _ _ _ _ _ _ true (by simp [h70]) hm (by unfold maxLen; omega)).mono ?_
    rintro e w1 ⟨rfl, hb1⟩
    have B1 := hb0.trans (hb1.mono hb0.size)
    go_wp2_with fail
    refine (shown_any _).mono ?_
    rintro e w2 ⟨rfl, hb2⟩
    go_wp2_with fail
    go_ret
    exact ⟨rfl, B1.trans (hb2.mono B1.size)⟩
  · go_enter Try.func3, Try.ntmps3
    go_wp2_with fail
    refine (far_any _ _ _ _ _ _ _ false (by simp [h70]) hm (by unfold maxLen; omega)).mono ?_
    rintro e w1 ⟨rfl, hb1⟩
    have B1 := hb0.trans (hb1.mono hb0.size)
    have k1 := k0.call hb1
    have hr1 := RI.later hr0 hb1
    have c1 := k1.cell
    clear k0 hr0 hb0 hb1
    go_wp2_with fail
    refine (HW.out _ hr1).mono ?_
    rintro e w2 ⟨rfl, hb2⟩
    have B2 := B1.trans (hb2.mono B1.size)
    have k2 := k1.call hb2
    have hr2 := RI.later hr1 hb2
    have c2 := k2.cell
    clear k1 hr1 c1 hb2 B1
    go_wp2_with fail
    refine (HV.out _ hr2).mono ?_
    rintro e w3 ⟨rfl, hb3⟩
    have B3 := B2.trans (hb3.mono B2.size)
    clear k2 hr2 c2 hb3 B2
    go_wp2_with fail
    refine (shown_any _).mono ?_
    rintro e w4 ⟨rfl, hb4⟩
    have B4 := B3.trans (hb4.mono B3.size)
    clear hb4 B3
    go_wp2_with fail
    go_ret
    exact ⟨rfl, B4⟩

theorem own_ : ownKnob Try.prog.godebug = none := by kernel_rfl
theorem laidOut_ : laidOutB Try.prog = true := by kernel_rfl
theorem tabCells : Try.prog.cellsOf 24 = 1 := by kernel_rfl
theorem tabStruct : ∃ f0 : Field, Try.prog.underlying 24 = some (.struct #[f0]) ∧ oneCellFields Try.prog #[f0] = true ∧ f0.type = 22 := ⟨_, Try.underlying24, by kernel_rfl, rfl⟩
set_option maxRecDepth 100000 in
/-- a table that came in -/
theorem openTab {H : Type} {enc : TypeId × Value → H} {w : World} {base b0 : Nat} {held : Bool} {r : Reach} {v : Value} {d : DataW H} {p : List MemPlace}
    (hv : Value.okWide Try.prog w r b0 24 v) (h : DataW.Trod enc Try.prog w base (fun _ => true) held 24 v d p) :
    ∃ (A : Option Addr) (n cap : Nat) (xs : List Int), v = .agg #[.slice A n cap] ∧ xs.length = n ∧ n ≤ maxLen ∧ RI w w.heap.size A xs := by
  obtain ⟨f0, hs, hone, ht⟩ := tabStruct
  obtain ⟨v0, y0, k, rfl, _, _, h0⟩ := open_agg1 hs hone tabCells hv h
  rw [ht] at h0
  obtain ⟨A, n, cap, xs, rfl, h1, h2, h3, _⟩ := openI Try.underlying22 Try.underlying3 (by kernel_rfl) h0
  exact ⟨A, n, cap, xs, rfl, h1, h2, h3⟩

set_option maxRecDepth 100000 in
theorem worst_lifted (os : Os) (started : os.Started) (H : Type) (enc : TypeId × Value → H) :
    ReturnsInHanded {} Try.checked os 3 .any (Rows.classesWorstSpec.pre6 enc Try.prog Try.f3 Rows.classesWorstRow.domain false) (Rows.classesWorstSpec.post enc Try.prog Try.f3 false true false false) := by
  refine returnsInHanded_of_change (C := Try.checked) own_ started (by kernel_rfl) Try.func3
    (ChangeSpec.witness6 (enc := enc) (C := Try.checked) false ⟨#[], #[.agg #[.slice none 0 0]], []⟩ 8 (by kernel_rfl) (by kernel_rfl) (by kernel_rfl) (by kernel_rfl)) ?_
  intro W base args ds gs before hval0 hW _ _
  have hval : ∀ (j : Nat) t v, Try.f3.params[j]? = some t → args[j]? = some v → Value.okWide Try.prog W .any base t v := hval0
  have hW' := hW
  obtain ⟨p, q, hA0, hV, rfl, _, _⟩ := hW
  have hA : DataW.TrodAll enc Try.prog W 0 (fun _ => true) true Try.f3.params.toList args.toList ds p := hA0
  rw [Try.params3] at hA hval
  obtain ⟨v0, d0, rfl, rfl, h0⟩ := trodAll_one hA
  obtain ⟨rfl, rfl⟩ := trodVars_none hV
  obtain ⟨A, n, cap, xs, rfl, h1, h2, h3⟩ := openTab (hval 0 24 v0 rfl rfl) h0
  simp only [List.append_nil] at hW'
  refine (worstLaw_any A n cap xs W h1 h2 h3).mono fun e W' ⟨he, hb⟩ => ?_
  subst he
  have hlt : ∀ x ∈ p, x.block < W.heap.size := fun x hx => hW'.lt x hx
  exact ⟨_, rfl, post_of_below (pv := []) hW' (fun _ _ _ => trodAll_mk1 (shut_bool Try.underlying4 true))
    (fun sp hsp => by rw [Try.params3]; exact trodAll_mk1 (WideElems.Trod_stays laidOut_ (by kernel_rfl) (of_decide_eq_true (by kernel_rfl)) h0 (fun x hx => hb.same (hlt x hx)) hsp))
    (fun _ _ => rfl) (by simp) hb (ok_one (by kernel_rfl) rfl (okWide_bool_mk Try.underlying4 true))⟩

theorem classesWorst_holds : Rows.ClassesWorstSaid :=
  OpenClaim.holds_of_wide 3 Try.f3 rfl rfl rfl rfl rfl rfl rfl ⟨rfl, rfl, rfl, rfl, rfl⟩ rfl rfl rfl rfl rfl (by kernel_rfl) Try.func3 (by kernel_rfl)
    (of_decide_eq_true (by kernel_rfl)) (by unfold Func.isWrapper; rw [if_neg (of_decide_eq_false (by kernel_rfl))]; exact ⟨rfl, rfl⟩)
    (fun os started H enc _ => worst_lifted os started H enc)
end Go.Proofs.Ytiohcegkkpeodaa
