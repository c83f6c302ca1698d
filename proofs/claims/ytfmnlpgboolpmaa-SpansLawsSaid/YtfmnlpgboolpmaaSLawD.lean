/- The law SpansLaws: page by page Union, Meet, Minus and Not have what they should, Minus is Meet with Not, Not of Union is Meet of both Nots, what is returned are sets, whatever the sets (of at most 600 spans each) and the page, and the examples of the document hold. -/
import Derived.Test.YtfmnlpgboolpmaaSWalkM
import Derived.Test.YtfmnlpgboolpmaaSRow
namespace Go.Proofs.Ytfmnlpgboolpmaa
open Go Go.Proofs Go.RowKit Go.Pol Go.ChangeShapes Go.WideShapes Go.Deep

set_option maxRecDepth 100000 in
/-- a short number that came in, and its bounds -/
theorem openShort {H : Type} {enc : TypeId × Value → H} {w : World} {base : Nat} {held : Bool} {r : Reach} {b0 : Nat} {v : Value} {d : DataW H} {p : List MemPlace}
    (hv : Value.okWide Try.prog w r b0 35 v) (h : DataW.Trod enc Try.prog w base (fun _ => true) held 35 v d p) : ∃ n : Int, v = .int .u16 n ∧ 0 ≤ n ∧ n ≤ 65535 := by
  obtain ⟨n, rfl⟩ : ∃ n : Int, v = .int .u16 n := okWide_int Try.underlying35 hv
  obtain ⟨fuel, hf⟩ := h
  obtain ⟨m, e, _, wf⟩ := DataW.trod_int Try.underlying35 hf
  simp only [Value.cells, List.cons.injEq, and_true, Value.int.injEq, true_and] at e
  subst e
  simp only [Lit.wf, Bool.and_eq_true, decide_eq_true_eq] at wf
  have e1 : IntKind.u16.min = 0 := by rfl
  have e2 : IntKind.u16.max = 65535 := by rfl
  rw [e1, e2] at wf
  exact ⟨n, rfl, wf.1, wf.2⟩
set_option maxRecDepth 100000 in
theorem spansLaws_lifted (os : Os) (started : os.Started) (H : Type) (enc : TypeId × Value → H) :
    ReturnsInHanded {} Try.checked os 16 .any (Rows.spansLawsSpec.pre6 enc Try.prog Try.f16 Rows.spansLawsRow.domain false) (Rows.spansLawsSpec.post enc Try.prog Try.f16 false true false false) := by
  refine returnsInHanded_of_change (C := Try.checked) own_ started (by kernel_rfl) Try.func16
    (ChangeSpec.witness6 (enc := enc) (C := Try.checked) false ⟨#[], #[.slice none 0 0, .slice none 0 0, .int .u16 0], []⟩ 8 (by kernel_rfl) (by kernel_rfl) (by kernel_rfl) (by kernel_rfl)) ?_
  intro W base args ds gs before hval0 hW _ _
  have hval : ∀ (j : Nat) t v, Try.f16.params[j]? = some t → args[j]? = some v → Value.okWide Try.prog W .any base t v := hval0
  have hW' := hW
  obtain ⟨p, q, hA0, hV, rfl, _, _⟩ := hW
  have hA : DataW.TrodAll enc Try.prog W 0 (fun _ => true) true Try.f16.params.toList args.toList ds p := hA0
  rw [Try.params16] at hA hval
  obtain ⟨v0, v1, v2, d0, d1, d2, p0, p1, p2, rfl, rfl, rfl, h0, h1, h2⟩ := trodAll_three hA
  obtain ⟨rfl, rfl⟩ := trodVars_none hV
  obtain ⟨fuel, hf⟩ := h0
  obtain ⟨A, n, cap, us, rfl, e1, e2, e3, e5, e4⟩ := openSps hf (hval 0 36 v0 rfl rfl)
  replace h0 : DataW.Trod enc Try.prog W 0 (fun _ => true) true 36 _ d0 p0 := ⟨fuel, hf⟩
  obtain ⟨fuel1, hf1⟩ := h1
  obtain ⟨A', n', cap', us', rfl, e1', e2', e3', e5', e4'⟩ := openSps hf1 (hval 1 36 v1 rfl rfl)
  replace h1 : DataW.Trod enc Try.prog W 0 (fun _ => true) true 36 _ d1 p1 := ⟨fuel1, hf1⟩
  obtain ⟨pv, rfl, hpv⟩ := openShort (hval 2 35 v2 rfl rfl) h2
  simp only [List.append_nil] at hW'
  refine (lawsLaw_any A A' n cap n' cap' us us' pv W e1 e2 e3 e4 e1' e2' e3' e4' e5 e5' hpv).mono fun e W' ⟨he, hb⟩ => ?_
  subst he
  exact ⟨_, rfl, post_of_below (pv := []) hW' (fun _ _ _ => trodAll_mk1 (shut_bool Try.underlying4 true))
    (fun sp hsp => by rw [Try.params16]; exact trodAll_mk3 (WideElems.Trod_stays laidOut_ (by kernel_rfl) (of_decide_eq_true (by kernel_rfl)) h0 (fun x hx => hb.same (hW'.lt x (by simp [hx]))) (fun x hx => hsp x (by simp [hx]))) (WideElems.Trod_stays laidOut_ (by kernel_rfl) (of_decide_eq_true (by kernel_rfl)) h1 (fun x hx => hb.same (hW'.lt x (by simp [hx]))) (fun x hx => hsp x (by simp [hx]))) (WideElems.Trod_stays laidOut_ (by kernel_rfl) (of_decide_eq_true (by kernel_rfl)) h2 (fun x hx => hb.same (hW'.lt x (by simp [hx]))) (fun x hx => hsp x (by simp [hx]))))
    (fun _ _ => rfl) (by simp) hb (ok_one (by kernel_rfl) rfl (okWide_bool_mk Try.underlying4 true))⟩
theorem spansLaws_holds : Rows.SpansLawsSaid :=
  OpenClaim.holds_of_wide 16 Try.f16 rfl rfl rfl rfl rfl rfl rfl ⟨rfl, rfl, rfl, rfl, rfl⟩ rfl rfl rfl rfl rfl (by kernel_rfl) Try.func16 (by kernel_rfl)
    (of_decide_eq_true (by kernel_rfl)) (by unfold Func.isWrapper; rw [if_neg (of_decide_eq_false (by kernel_rfl))]; exact ⟨rfl, rfl⟩)
    (fun os started H enc _ => spansLaws_lifted os started H enc)
end Go.Proofs.Ytfmnlpgboolpmaa
