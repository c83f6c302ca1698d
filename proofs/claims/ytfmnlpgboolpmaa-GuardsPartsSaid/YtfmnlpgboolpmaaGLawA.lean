/- The law GuardsHits: Hit of the program and of the reference answer alike, whatever the plan and the access, and the examples of the document hold. -/
import Derived.Test.YtfmnlpgboolpmaaGWalkN
import Derived.Test.YtfmnlpgboolpmaaGWalkO
import Derived.Test.YtfmnlpgboolpmaaRow
namespace Go.Proofs.Ytfmnlpgboolpmaa
open Go Go.Proofs Go.RowKit Go.Pol Go.ChangeShapes Go.WideShapes Go.Deep

set_option maxHeartbeats 800000 in
theorem hitsLaw_any (pg n f b ev a m : Int) (w : World) :
    Calls Try.prog 4 #[planV pg n f b ev, .int .i64 a, .int .i64 m] w fun e w' => e = .returned (.bool true) ∧ Below w.heap.size w w' := by
  have HP := Lib.hid (fun W => hit_any pg n f b ev a m W _ rfl)
  have HQ := Lib.hid (fun W => refHit_any pg n f b ev a m W _ (hit_law pg n f b ev a m))
  generalize hitF pg n f b ev a m = R at *
  obtain ⟨r1, r2, r3⟩ := R
  simp only at HP HQ
  have hb0 := (Below.refl w.heap.size w).alloc (Nat.le_refl _) (.cells (planC pg n f b ev) 25)
  have k0 := Blk.new w 25 (planC pg n f b ev)
  have c0 := k0.cell
  have x1 : (r1 == r1) = true := by simp
  have x2 : (r2 == r2) = true := by simp
  have x3 : (r3 == r3) = true := by simp
  go_enter Try.func4, Try.ntmps4
  go_wp2_with fail
  refine (HP.out _).mono ?_
  rintro e w1 ⟨rfl, hb1⟩
  have B1 := hb0.trans (hb1.mono hb0.size)
  have k1 := k0.call hb1
  have c1 := k1.cell
  go_wp2_with fail
  refine (HQ.out _).mono ?_
  rintro e w2 ⟨rfl, hb2⟩
  have B2 := B1.trans (hb2.mono B1.size)
  go_wp2_with fail
  refine (awake_any _).mono ?_
  rintro e w3 ⟨rfl, hb3⟩
  go_wp2_with fail
  go_ret
  exact ⟨rfl, B2.trans (hb3.mono B2.size)⟩

theorem own_ : ownKnob Try.prog.godebug = none := by kernel_rfl
theorem laidOut_ : laidOutB Try.prog = true := by kernel_rfl
section
variable {H : Type} {enc : TypeId × Value → H} {w : World} {base b0 : Nat} {held : Bool} {r : Reach} {v : Value} {d : DataW H} {p : List MemPlace}
theorem planCells : Try.prog.cellsOf 25 = 5 := by kernel_rfl
theorem specCells : Try.prog.cellsOf 23 = 3 := by kernel_rfl
theorem intCells : Try.prog.cellsOf 3 = 1 := by kernel_rfl
set_option maxRecDepth 100000 in
/-- a spec that came in, by its cells -/
theorem specOf {n : Nat} {cs : List Value} {x : DataW H × List MemPlace} (h : DataW.trod enc Try.prog w base (fun _ => true) held n 23 cs = some x) : ∃ f b ev : Int, cs = [.int .i64 f, .int .i64 b, .int .i64 ev] := by
  obtain ⟨xs, m, _, hx, hl, hlen, hg⟩ := DataW.trod_struct Try.underlying23 h
  rw [specCells] at hl
  match cs, hl with
  | [c0, c1, c2], _ =>
    have g0 : DataW.trod enc Try.prog w base (fun _ => true) held m 3 [c0] = xs[0]? := by have := hg 0 _ rfl; simpa [intCells] using this
    have g1 : DataW.trod enc Try.prog w base (fun _ => true) held m 3 [c1] = xs[1]? := by have := hg 1 _ rfl; simpa [intCells] using this
    have g2 : DataW.trod enc Try.prog w base (fun _ => true) held m 3 [c2] = xs[2]? := by have := hg 2 _ rfl; simpa [intCells] using this
    match xs, hlen with
    | [y0, y1, y2], _ =>
      obtain ⟨n0, e0, _⟩ := DataW.trod_int Try.underlying3 (g0.trans rfl)
      obtain ⟨n1, e1, _⟩ := DataW.trod_int Try.underlying3 (g1.trans rfl)
      obtain ⟨n2, e2, _⟩ := DataW.trod_int Try.underlying3 (g2.trans rfl)
      simp only [List.cons.injEq, and_true] at e0 e1 e2
      subst e0; subst e1; subst e2
      exact ⟨n0, n1, n2, rfl⟩
set_option maxRecDepth 100000 in
/-- a plan that came in -/
theorem openPlan (hv : Value.okWide Try.prog w r b0 25 v) (h : DataW.Trod enc Try.prog w base (fun _ => true) held 25 v d p) :
    ∃ pg n f b ev : Int, v = planV pg n f b ev := by
  obtain ⟨cs, rfl, hsz⟩ := okWide_struct Try.underlying25 hv
  obtain ⟨l⟩ := cs
  obtain ⟨fuel, hf⟩ := h
  obtain ⟨xs, m, _, hx, hl, hlen, hg⟩ := DataW.trod_struct Try.underlying25 hf
  rw [planCells] at hsz
  match l, hsz with
  | [c0, c1, c2, c3, c4], _ =>
    have g0 : DataW.trod enc Try.prog w base (fun _ => true) held m 3 [c0] = xs[0]? := by have := hg 0 _ rfl; simpa [Value.cells, intCells] using this
    have g1 : DataW.trod enc Try.prog w base (fun _ => true) held m 3 [c1] = xs[1]? := by have := hg 1 _ rfl; simpa [Value.cells, intCells] using this
    have g2 : DataW.trod enc Try.prog w base (fun _ => true) held m 23 [c2, c3, c4] = xs[2]? := by have := hg 2 _ rfl; simpa [Value.cells, specCells] using this
    match xs, hlen with
    | [y0, y1, y2], _ =>
      obtain ⟨n0, e0, _⟩ := DataW.trod_int Try.underlying3 (g0.trans rfl)
      obtain ⟨n1, e1, _⟩ := DataW.trod_int Try.underlying3 (g1.trans rfl)
      obtain ⟨f, b, ev, e2⟩ := specOf (g2.trans rfl)
      simp only [List.cons.injEq, and_true] at e0 e1 e2
      obtain ⟨rfl, rfl, rfl⟩ := e2
      subst e0; subst e1
      exact ⟨n0, n1, f, b, ev, rfl⟩
end
set_option maxRecDepth 100000 in
theorem okWide_i64 {w : World} {r : Reach} {b0 : Nat} {v : Value} (h : Value.okWide Try.prog w r b0 3 v) : ∃ n : Int, v = .int .i64 n := okWide_int Try.underlying3 h
set_option maxRecDepth 100000 in
theorem okWide_int64 {w : World} {r : Reach} {b0 : Nat} {v : Value} (h : Value.okWide Try.prog w r b0 2 v) : ∃ n : Int, v = .int .i64 n := okWide_int Try.underlying2 h
set_option maxRecDepth 100000 in
theorem guardsHits_lifted (os : Os) (started : os.Started) (H : Type) (enc : TypeId × Value → H) :
    ReturnsInHanded {} Try.checked os 4 .any (Rows.guardsHitsSpec.pre6 enc Try.prog Try.f4 Rows.guardsHitsRow.domain false) (Rows.guardsHitsSpec.post enc Try.prog Try.f4 false true false false) := by
  refine returnsInHanded_of_change (C := Try.checked) own_ started (by kernel_rfl) Try.func4
    (ChangeSpec.witness6 (enc := enc) (C := Try.checked) false ⟨#[], #[.agg #[.int .i64 0, .int .i64 0, .int .i64 0, .int .i64 0, .int .i64 0], .int .i64 0, .int .i64 0], []⟩ 8 (by kernel_rfl) (by kernel_rfl) (by kernel_rfl) (by kernel_rfl)) ?_
  intro W base args ds gs before hval0 hW _ _
  have hval : ∀ (j : Nat) t v, Try.f4.params[j]? = some t → args[j]? = some v → Value.okWide Try.prog W .any base t v := hval0
  have hW' := hW
  obtain ⟨p, q, hA0, hV, rfl, _, _⟩ := hW
  have hA : DataW.TrodAll enc Try.prog W 0 (fun _ => true) true Try.f4.params.toList args.toList ds p := hA0
  rw [Try.params4] at hA hval
  obtain ⟨v0, v1, v2, d0, d1, d2, p0, p1, p2, rfl, rfl, rfl, h0, h1, h2⟩ := trodAll_three hA
  obtain ⟨rfl, rfl⟩ := trodVars_none hV
  obtain ⟨pg, n, f, b, ev, rfl⟩ := openPlan (hval 0 25 v0 rfl rfl) h0
  obtain ⟨n1, rfl⟩ := okWide_int64 (hval 1 2 v1 rfl rfl)
  obtain ⟨n2, rfl⟩ := okWide_int64 (hval 2 2 v2 rfl rfl)
  simp only [List.append_nil] at hW'
  refine (hitsLaw_any pg n f b ev n1 n2 W).mono fun e W' ⟨he, hb⟩ => ?_
  subst he
  exact ⟨_, rfl, post_of_below (pv := []) hW' (fun _ _ _ => trodAll_mk1 (shut_bool Try.underlying4 true))
    (fun sp hsp => by rw [Try.params4]; exact trodAll_mk3 (WideElems.Trod_stays laidOut_ (by kernel_rfl) (of_decide_eq_true (by kernel_rfl)) h0 (fun x hx => hb.same (hW'.lt x (by simp [hx]))) (fun x hx => hsp x (by simp [hx]))) (WideElems.Trod_stays laidOut_ (by kernel_rfl) (of_decide_eq_true (by kernel_rfl)) h1 (fun x hx => hb.same (hW'.lt x (by simp [hx]))) (fun x hx => hsp x (by simp [hx]))) (WideElems.Trod_stays laidOut_ (by kernel_rfl) (of_decide_eq_true (by kernel_rfl)) h2 (fun x hx => hb.same (hW'.lt x (by simp [hx]))) (fun x hx => hsp x (by simp [hx]))))
    (fun _ _ => rfl) (by simp) hb (ok_one (by kernel_rfl) rfl (okWide_bool_mk Try.underlying4 true))⟩
theorem guardsHits_holds : Rows.GuardsHitsSaid :=
  OpenClaim.holds_of_wide 4 Try.f4 rfl rfl rfl rfl rfl rfl rfl ⟨rfl, rfl, rfl, rfl, rfl⟩ rfl rfl rfl rfl rfl (by kernel_rfl) Try.func4 (by kernel_rfl)
    (of_decide_eq_true (by kernel_rfl)) (by unfold Func.isWrapper; rw [if_neg (of_decide_eq_false (by kernel_rfl))]; exact ⟨rfl, rfl⟩)
    (fun os started H enc _ => guardsHits_lifted os started H enc)
end Go.Proofs.Ytfmnlpgboolpmaa
