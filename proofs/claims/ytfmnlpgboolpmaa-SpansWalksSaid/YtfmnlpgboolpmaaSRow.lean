/- Opening the arguments of the laws of layer 3: lists of spans, numbers. -/
import Derived.Test.YtfmnlpgboolpmaaSWalkF
import Derived.Test.YtfmnlpgboolpmaaRow
namespace Go.Proofs.Ytfmnlpgboolpmaa
open Go Go.Proofs Go.RowKit Go.Pol Go.ChangeShapes Go.WideShapes Go.Deep

theorem own_ : ownKnob Try.prog.godebug = none := by kernel_rfl
theorem laidOut_ : laidOutB Try.prog = true := by kernel_rfl
set_option maxRecDepth 100000 in
theorem okWide_i64 {w : World} {r : Reach} {b0 : Nat} {v : Value} (h : Value.okWide Try.prog w r b0 3 v) : ∃ n : Int, v = .int .i64 n := okWide_int Try.underlying3 h
theorem spStruct : ∃ f0 f1 : Field, Try.prog.underlying 40 = some (.struct #[f0, f1]) ∧ oneCellFields Try.prog #[f0, f1] = true ∧ f0.type = 3 ∧ f1.type = 3 := ⟨_, _, Try.underlying40, by kernel_rfl, rfl, rfl⟩
set_option maxRecDepth 100000 in
/-- a list of spans that came in -/
theorem openSps {H : Type} {enc : TypeId × Value → H} {w : World} {base : Nat} {held : Bool} {v : Value} {fuel : Nat} {x : DataW H × List MemPlace} (h : DataW.trod enc Try.prog w base (fun _ => true) held fuel 36 v.cells.toList = some x) (hv : Value.okWide Try.prog w .any base 36 v) :
    ∃ (A : Option Addr) (n cap : Nat) (us : List Sp), v = .slice A n cap ∧ us.length = n ∧ n ≤ cap ∧ cap ≤ maxLen ∧ (A = none → cap = 0) ∧ RU w w.heap.size A us := by
  obtain ⟨f0, f1, hs, hone, t0, t1⟩ := spStruct
  obtain ⟨A, n, cap, rfl⟩ := okWide_slice Try.underlying36 hv
  obtain ⟨A', n', cap', us, e, h1, h2, h3⟩ := openU Try.underlying36 hs hone (by kernel_rfl) (by rw [t0]; exact Try.underlying3) (by rw [t1]; exact Try.underlying3) h
  cases e
  rcases open_slice_fields Try.underlying36 hs hone (by kernel_rfl) h with ⟨hcs, _⟩ | ⟨a, len, cap', m, D, Pl, hcs, _, hl, hm, _⟩
  · have e : Value.slice A n cap = .slice none 0 0 := by simpa [Value.cells] using hcs
    cases e
    exact ⟨_, _, _, us, rfl, h1, Nat.le_refl _, by unfold maxLen; omega, fun _ => rfl, h3⟩
  · have e : Value.slice A n cap = .slice (some a) len cap' := by simpa [Value.cells] using hcs
    cases e
    exact ⟨_, _, _, us, rfl, h1, hl, hm, fun e => (by cases e), h3⟩
section
variable {H : Type} {enc : TypeId × Value → H} {w : World} {base b0 : Nat} {held : Bool} {r : Reach} {v : Value} {d : DataW H} {p : List MemPlace}
theorem spanCells : Try.prog.cellsOf 40 = 2 := by kernel_rfl
theorem intCells : Try.prog.cellsOf 3 = 1 := by kernel_rfl
set_option maxRecDepth 100000 in
/-- a span that came in -/
theorem openSp (hv : Value.okWide Try.prog w r b0 40 v) (h : DataW.Trod enc Try.prog w base (fun _ => true) held 40 v d p) :
    ∃ a b : Int, v = .agg #[.int .i64 a, .int .i64 b] := by
  obtain ⟨cs, rfl, hsz⟩ := okWide_struct Try.underlying40 hv
  obtain ⟨l⟩ := cs
  obtain ⟨fuel, hf⟩ := h
  obtain ⟨xs, m, _, hx, hl, hlen, hg⟩ := DataW.trod_struct Try.underlying40 hf
  rw [spanCells] at hsz
  match l, hsz with
  | [c0, c1], _ =>
    have g0 : DataW.trod enc Try.prog w base (fun _ => true) held m 3 [c0] = xs[0]? := by have := hg 0 _ rfl; simpa [Value.cells, intCells] using this
    have g1 : DataW.trod enc Try.prog w base (fun _ => true) held m 3 [c1] = xs[1]? := by have := hg 1 _ rfl; simpa [Value.cells, intCells] using this
    match xs, hlen with
    | [y0, y1], _ =>
      obtain ⟨n0, e0, _⟩ := DataW.trod_int Try.underlying3 (g0.trans rfl)
      obtain ⟨n1, e1, _⟩ := DataW.trod_int Try.underlying3 (g1.trans rfl)
      simp only [List.cons.injEq, and_true] at e0 e1
      subst e0; subst e1
      exact ⟨n0, n1, rfl⟩
end
end Go.Proofs.Ytfmnlpgboolpmaa
