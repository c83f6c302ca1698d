/- The law SpansLeast: the places of First and Best are places, and none lies before that of First, nor in a span with fewer pages than that of Best, whatever the set (of at most 600 spans), the numbers and the page, and the examples of the document hold. -/
import Derived.Test.YtfmnlpgboolpmaaSWalkP
import Derived.Test.YtfmnlpgboolpmaaSRow
namespace Go.Proofs.Ytfmnlpgboolpmaa
open Go Go.Proofs Go.RowKit Go.Pol Go.ChangeShapes Go.WideShapes Go.Deep

set_option maxRecDepth 100000 in
/-- a short number that came in, and its bounds -/
theorem openShort {H : Type} {enc : TypeId × Value → H} {w : World} {base : Nat} {held : Bool} {r : Reach} {b0 : Nat} {v : Value} {d : DataW H} {p : List MemPlace}
    (hv : Value.okWide Try.prog w r b0 35 v) (h : DataW.Trod enc Try.prog w base (fun _ => true) held 35 v d p) : ∃ n : Int, v = .int .u16 n ∧ 0 ≤ n ∧ n ≤ 65535 := by
  obtain ⟨n, rfl⟩ : ∃ n : Int, v = .int .u16 n := okWide_int Try.underlying35 hv
  obtain ⟨fuel, hf⟩ := h
  obtain ⟨m, e, _, wf⟩ := DataW.trod_int Try.underlying35 hf
  simp only [Value.cells, List.cons.injEq, and_true, Value.int.injEq, true_and] at e
  subst e
  simp only [Lit.wf, Bool.and_eq_true, decide_eq_true_eq] at wf
  have e1 : IntKind.u16.min = 0 := by rfl
  have e2 : IntKind.u16.max = 65535 := by rfl
  rw [e1, e2] at wf
  exact ⟨n, rfl, wf.1, wf.2⟩
section
variable {H : Type} {enc : TypeId × Value → H} {w : World} {base b0 : Nat} {held : Bool} {r : Reach} {v : Value} {d : DataW H} {p : List MemPlace}
theorem pairCells : Try.prog.cellsOf 72 = 2 := by kernel_rfl
set_option maxRecDepth 100000 in
/-- two numbers that came in -/
theorem openPair (hv : Value.okWide Try.prog w r b0 72 v) (h : DataW.Trod enc Try.prog w base (fun _ => true) held 72 v d p) :
    ∃ a b : Int, v = .agg #[.int .i64 a, .int .i64 b] := by
  obtain ⟨cs, rfl, hsz⟩ : ∃ cs : Array Value, v = .agg cs ∧ cs.size = Try.prog.cellsOf 72 := by
    cases v with
    | agg cs =>
      obtain ⟨fuel, hf⟩ := h
      obtain ⟨xs, m, _, hx, hl, hlen, hg⟩ := DataW.trod_array Try.underlying72 hf
      exact ⟨cs, rfl, by simpa [Value.cells] using hl⟩
    | _ =>
      exfalso
      obtain ⟨fuel, hf⟩ := h
      obtain ⟨xs, m, _, hx, hl, hlen, hg⟩ := DataW.trod_array Try.underlying72 hf
      rw [pairCells] at hl
      simp [Value.cells] at hl
  obtain ⟨l⟩ := cs
  obtain ⟨fuel, hf⟩ := h
  obtain ⟨xs, m, _, hx, hl, hlen, hg⟩ := DataW.trod_array Try.underlying72 hf
  rw [pairCells] at hsz
  match l, hsz with
  | [c0, c1], _ =>
    have g0 : DataW.trod enc Try.prog w base (fun _ => true) held m 3 [c0] = xs[0]? := by have := hg 0 (by omega); simpa [Value.cells, intCells] using this
    have g1 : DataW.trod enc Try.prog w base (fun _ => true) held m 3 [c1] = xs[1]? := by have := hg 1 (by omega); simpa [Value.cells, intCells] using this
    match xs, hlen with
    | [y0, y1], _ =>
      obtain ⟨n0, e0, _⟩ := DataW.trod_int Try.underlying3 (g0.trans rfl)
      obtain ⟨n1, e1, _⟩ := DataW.trod_int Try.underlying3 (g1.trans rfl)
      simp only [List.cons.injEq, and_true] at e0 e1
      subst e0; subst e1
      exact ⟨n0, n1, rfl⟩
end
set_option maxRecDepth 100000 in
theorem spansLeast_lifted (os : Os) (started : os.Started) (H : Type) (enc : TypeId × Value → H) :
    ReturnsInHanded {} Try.checked os 14 .any (Rows.spansLeastSpec.pre6 enc Try.prog Try.f14 Rows.spansLeastRow.domain false) (Rows.spansLeastSpec.post enc Try.prog Try.f14 false true false false) := by
  refine returnsInHanded_of_change (C := Try.checked) own_ started (by kernel_rfl) Try.func14
    (ChangeSpec.witness6 (enc := enc) (C := Try.checked) false ⟨#[], #[.slice none 0 0, .agg #[.int .i64 0, .int .i64 0], .int .u16 0], []⟩ 8 (by kernel_rfl) (by kernel_rfl) (by kernel_rfl) (by kernel_rfl)) ?_
  intro W base args ds gs before hval0 hW _ _
  have hval : ∀ (j : Nat) t v, Try.f14.params[j]? = some t → args[j]? = some v → Value.okWide Try.prog W .any base t v := hval0
  have hW' := hW
  obtain ⟨p, q, hA0, hV, rfl, _, _⟩ := hW
  have hA : DataW.TrodAll enc Try.prog W 0 (fun _ => true) true Try.f14.params.toList args.toList ds p := hA0
  rw [Try.params14] at hA hval
  obtain ⟨v0, v1, v2, d0, d1, d2, p0, p1, p2, rfl, rfl, rfl, h0, h1, h2⟩ := trodAll_three hA
  obtain ⟨rfl, rfl⟩ := trodVars_none hV
  obtain ⟨fuel, hf⟩ := h0
  obtain ⟨A, n, cap, us, rfl, e1, e2, e3, _, e4⟩ := openSps hf (hval 0 36 v0 rfl rfl)
  replace h0 : DataW.Trod enc Try.prog W 0 (fun _ => true) true 36 _ d0 p0 := ⟨fuel, hf⟩
  obtain ⟨m, al, rfl⟩ := openPair (hval 1 72 v1 rfl rfl) h1
  obtain ⟨pv, rfl, hpv⟩ := openShort (hval 2 35 v2 rfl rfl) h2
  simp only [List.append_nil] at hW'
  refine (leastLaw3_any A n cap us m al pv W e1 e2 e3 e4 hpv).mono fun e W' ⟨he, hb⟩ => ?_
  subst he
  exact ⟨_, rfl, post_of_below (pv := []) hW' (fun _ _ _ => trodAll_mk1 (shut_bool Try.underlying4 true))
    (fun sp hsp => by rw [Try.params14]; exact trodAll_mk3 (WideElems.Trod_stays laidOut_ (by kernel_rfl) (of_decide_eq_true (by kernel_rfl)) h0 (fun x hx => hb.same (hW'.lt x (by simp [hx]))) (fun x hx => hsp x (by simp [hx]))) (WideElems.Trod_stays laidOut_ (by kernel_rfl) (of_decide_eq_true (by kernel_rfl)) h1 (fun x hx => hb.same (hW'.lt x (by simp [hx]))) (fun x hx => hsp x (by simp [hx]))) (WideElems.Trod_stays laidOut_ (by kernel_rfl) (of_decide_eq_true (by kernel_rfl)) h2 (fun x hx => hb.same (hW'.lt x (by simp [hx]))) (fun x hx => hsp x (by simp [hx]))))
    (fun _ _ => rfl) (by simp) hb (ok_one (by kernel_rfl) rfl (okWide_bool_mk Try.underlying4 true))⟩
theorem spansLeast_holds : Rows.SpansLeastSaid :=
  OpenClaim.holds_of_wide 14 Try.f14 rfl rfl rfl rfl rfl rfl rfl ⟨rfl, rfl, rfl, rfl, rfl⟩ rfl rfl rfl rfl rfl (by kernel_rfl) Try.func14 (by kernel_rfl)
    (of_decide_eq_true (by kernel_rfl)) (by unfold Func.isWrapper; rw [if_neg (of_decide_eq_false (by kernel_rfl))]; exact ⟨rfl, rfl⟩)
    (fun os started H enc _ => spansLeast_lifted os started H enc)
end Go.Proofs.Ytfmnlpgboolpmaa
