/- Opening the arguments of the last laws of layer 18: a table, two usages, a pair of numbers. -/
import Derived.Test.YtiohcegkkpeodaaLawD
namespace Go.Proofs.Ytiohcegkkpeodaa
open Go Go.Proofs Go.RowKit Go.Pol Go.ChangeShapes Go.WideShapes Go.Deep

section
variable {H : Type} {enc : TypeId × Value → H} {w : World} {base b0 : Nat} {held : Bool} {r : Reach} {v : Value} {d : DataW H} {p : List MemPlace}
set_option maxRecDepth 100000 in
/-- a usage that came in -/
theorem openSz {fuel : Nat} {x : DataW H × List MemPlace} (h : DataW.trod enc Try.prog w base (fun _ => true) held fuel 36 [v] = some x) :
    ∃ (A : Option Addr) (n cap : Nat) (us : List (Int × Int)), v = .slice A n cap ∧ us.length = n ∧ n ≤ cap ∧ cap ≤ maxLen ∧ (A = none → cap = 0) ∧ RU w w.heap.size A us := by
  obtain ⟨f0, f1, hs, hone, t0, t1⟩ := useStruct
  obtain ⟨A', n', cap', us, rfl, h1, h2, h3⟩ := openU Try.underlying36 hs hone (by kernel_rfl) (by rw [t0]; exact Try.underlying3) (by rw [t1]; exact Try.underlying2) h
  rcases open_slice_fields Try.underlying36 hs hone (by kernel_rfl) h with ⟨hcs, _⟩ | ⟨a, len, cap', m, D, Pl, hcs, _, hl, hm, _⟩
  · simp only [List.cons.injEq, and_true] at hcs
    cases hcs
    exact ⟨_, _, _, us, rfl, h1, Nat.le_refl _, by unfold maxLen; omega, fun _ => rfl, h3⟩
  · simp only [List.cons.injEq, and_true] at hcs
    cases hcs
    exact ⟨_, _, _, us, rfl, h1, hl, hm, fun e => (by cases e), h3⟩
set_option maxRecDepth 100000 in
/-- a table that came in, with its capacity -/
theorem openTab2 (hv : Value.okWide Try.prog w r b0 24 v) (h : DataW.Trod enc Try.prog w base (fun _ => true) held 24 v d p) :
    ∃ (A : Option Addr) (n cap : Nat) (xs : List Int), v = .agg #[.slice A n cap] ∧ xs.length = n ∧ n ≤ cap ∧ cap ≤ maxLen ∧ RI w w.heap.size A xs := by
  obtain ⟨f0, hs, hone, ht⟩ := tabStruct
  obtain ⟨v0, y0, k, rfl, _, _, h0⟩ := open_agg1 hs hone tabCells hv h
  rw [ht] at h0
  obtain ⟨A, n, cap, xs, rfl, h1, h2, h3, _⟩ := openI Try.underlying22 Try.underlying3 (by kernel_rfl) h0
  rcases open_ints Try.underlying22 Try.underlying3 (by kernel_rfl) h0 with ⟨hcs, _⟩ | ⟨a, len, cap', zs, hcs, _, hl, hm, _⟩
  · simp only [List.cons.injEq, and_true] at hcs
    cases hcs
    exact ⟨_, _, _, xs, rfl, h1, Nat.le_refl _, by unfold maxLen; omega, h3⟩
  · simp only [List.cons.injEq, and_true] at hcs
    cases hcs
    exact ⟨_, _, _, xs, rfl, h1, hl, hm, h3⟩
theorem twoStruct : ∃ f0 f1 : Field, Try.prog.underlying 52 = some (.struct #[f0, f1]) ∧ f0.type = 36 ∧ f1.type = 36 := ⟨_, _, Try.underlying52, rfl, rfl⟩
theorem twoCells : Try.prog.cellsOf 52 = 2 := by kernel_rfl
theorem useCells1 : Try.prog.cellsOf 36 = 1 := by kernel_rfl
theorem intCells1 : Try.prog.cellsOf 3 = 1 := by kernel_rfl
set_option maxRecDepth 100000 in
/-- two usages that came in -/
theorem openTwo (hv : Value.okWide Try.prog w r b0 52 v) (h : DataW.Trod enc Try.prog w base (fun _ => true) held 52 v d p) :
    ∃ (U V : Option Addr) (m ucap m2 vcap : Nat) (us vs : List (Int × Int)), v = .agg #[.slice U m ucap, .slice V m2 vcap] ∧ (us.length = m ∧ m ≤ ucap ∧ ucap ≤ maxLen ∧ (U = none → ucap = 0) ∧ RU w w.heap.size U us) ∧ (vs.length = m2 ∧ m2 ≤ vcap ∧ vcap ≤ maxLen ∧ (V = none → vcap = 0) ∧ RU w w.heap.size V vs) := by
  obtain ⟨cs, rfl, hsz⟩ := okWide_struct Try.underlying52 hv
  obtain ⟨l⟩ := cs
  obtain ⟨fuel, hf⟩ := h
  obtain ⟨xs, m, _, hx, hl, hlen, hg⟩ := DataW.trod_struct Try.underlying52 hf
  rw [twoCells] at hsz
  match l, hsz with
  | [c0, c1], _ =>
    have g0 : DataW.trod enc Try.prog w base (fun _ => true) held m 36 [c0] = xs[0]? := by have := hg 0 _ rfl; simpa [Value.cells, useCells1] using this
    have g1 : DataW.trod enc Try.prog w base (fun _ => true) held m 36 [c1] = xs[1]? := by have := hg 1 _ rfl; simpa [Value.cells, useCells1] using this
    match xs, hlen with
    | [y0, y1], _ =>
      obtain ⟨U, a, b, us, rfl, hU⟩ := openSz (g0.trans rfl)
      obtain ⟨V, c, e, vs, rfl, hV⟩ := openSz (g1.trans rfl)
      exact ⟨U, V, a, b, c, e, us, vs, rfl, hU, hV⟩
set_option maxRecDepth 100000 in
/-- a pair of numbers that came in -/
theorem openPair (hv : Value.okWide Try.prog w r b0 54 v) (h : DataW.Trod enc Try.prog w base (fun _ => true) held 54 v d p) :
    ∃ a b : Int, v = .agg #[.int .i64 a, .int .i64 b] := by
  obtain ⟨cs, rfl, hsz⟩ := okWide_struct Try.underlying54 hv
  obtain ⟨l⟩ := cs
  obtain ⟨fuel, hf⟩ := h
  obtain ⟨xs, m, _, hx, hl, hlen, hg⟩ := DataW.trod_struct Try.underlying54 hf
  rw [show Try.prog.cellsOf 54 = 2 by kernel_rfl] at hsz
  match l, hsz with
  | [c0, c1], _ =>
    have g0 : DataW.trod enc Try.prog w base (fun _ => true) held m 3 [c0] = xs[0]? := by have := hg 0 _ rfl; simpa [Value.cells, intCells1] using this
    have g1 : DataW.trod enc Try.prog w base (fun _ => true) held m 3 [c1] = xs[1]? := by have := hg 1 _ rfl; simpa [Value.cells, intCells1] using this
    match xs, hlen with
    | [y0, y1], _ =>
      obtain ⟨n0, e0, _⟩ := DataW.trod_int Try.underlying3 (g0.trans rfl)
      obtain ⟨n1, e1, _⟩ := DataW.trod_int Try.underlying3 (g1.trans rfl)
      simp only [List.cons.injEq, and_true] at e0 e1
      subst e0; subst e1
      exact ⟨n0, n1, rfl⟩
end
end Go.Proofs.Ytiohcegkkpeodaa
