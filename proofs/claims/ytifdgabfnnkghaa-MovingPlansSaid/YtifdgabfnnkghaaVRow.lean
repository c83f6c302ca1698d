/- Opening the arguments of the laws of layer 24: lists of blocks and of moves, numbers. -/
import Derived.Test.YtifdgabfnnkghaaVWalkS
import Derived.Test.YtifdgabfnnkghaaRow
namespace Go.Pol
open Go Go.RowKit Go.ChangeShapes Go.WideShapes Go.Deep
section
variable {H : Type} {enc : TypeId × Value → H} {P : Program} {w : World} {base : Nat} {held : Bool}
/-- A slice of triples (two integers, a Boolean) that came in reads as a list. -/
theorem openT {t e : TypeId} {f0 f1 f2 : Field} {fuel : Nat} {v : Value} {x : DataW H × List MemPlace} (ht : P.underlying t = some (.slice e)) (he : P.underlying e = some (.struct #[f0, f1, f2])) (hone : oneCellFields P #[f0, f1, f2] = true) (hC : P.cellsOf e = 3)
    (h0 : P.underlying f0.type = some (.int .i64)) (h1 : P.underlying f1.type = some (.int .i64)) (h2 : P.underlying f2.type = some .bool)
    (h : DataW.trod enc P w base (fun _ => true) held fuel t [v] = some x) : ∃ (A : Option Addr) (n cap : Nat) (us : List B3), v = .slice A n cap ∧ us.length = n ∧ n ≤ maxLen ∧ RT w w.heap.size A us := by
  rcases open_slice_fields ht he hone hC h with ⟨hcs, _⟩ | ⟨a, len, cap, m, D, Pl, hcs, _, hl, hm, hmm, _, hi⟩
  · simp only [List.cons.injEq, and_true] at hcs
    exact ⟨none, 0, 0, [], hcs, rfl, by unfold maxLen; omega, RT.nil⟩
  · simp only [List.cons.injEq, and_true] at hcs
    simp only [if_true] at hmm
    have each : ∀ i, i < len → ∃ (p q : Int) (s : Bool), w.cell? (a.add (i * 3)) = some (.int .i64 p) ∧ w.cell? (a.add (i * 3 + 1)) = some (.int .i64 q) ∧ w.cell? (a.add (i * 3 + 2)) = some (.bool s) := by
      intro i hil
      obtain ⟨ys, n, _, _, _, hf⟩ := hi i (by omega)
      obtain ⟨v0, y0, c0, _, t0⟩ := hf 0 f0 rfl
      obtain ⟨v1, y1, c1, _, t1⟩ := hf 1 f1 rfl
      obtain ⟨v2, y2, c2, _, t2⟩ := hf 2 f2 rfl
      obtain ⟨p, e0, _⟩ := DataW.trod_int h0 t0
      obtain ⟨q, e1, _⟩ := DataW.trod_int h1 t1
      obtain ⟨s, e2, _⟩ := DataW.trod_bool h2 t2
      simp only [List.cons.injEq, and_true] at e0 e1 e2
      subst e0; subst e1; subst e2
      exact ⟨p, q, s, c0, c1, c2⟩
    obtain ⟨f, hf⟩ := Classical.axiomOfChoice (r := fun (i : Nat) (pq : B3) => i < len → w.cell? (a.add (i * 3)) = some (.int .i64 pq.1) ∧ w.cell? (a.add (i * 3 + 1)) = some (.int .i64 pq.2.1) ∧ w.cell? (a.add (i * 3 + 2)) = some (.bool pq.2.2)) (fun i => by
      by_cases hil : i < len
      · obtain ⟨p, q, s, c0, c1, c2⟩ := each i hil
        exact ⟨(p, q, s), fun _ => ⟨c0, c1, c2⟩⟩
      · exact ⟨(0, 0, false), fun h => absurd h hil⟩)
    refine ⟨some a, len, cap, (List.range len).map f, hcs, by simp, by omega, ?_⟩
    intro k hk
    have hk' : k < len := by simpa using hk
    obtain ⟨c0, c1, c2⟩ := hf k hk'
    obtain ⟨b, off, spot⟩ := a
    have hspot : spot = none := by
      obtain ⟨c0', _⟩ := hf 0 (by omega)
      simpa [Addr.add] using World.cell?_spot c0'
    subst hspot
    rw [add_plain] at c0 c1 c2
    have e : ((List.range len).map f).getD k b0 = f k := by simp [List.getD_eq_getElem?_getD, hk']
    refine ⟨b, off, rfl, World.block_lt_of_cell? _ _ c0, ?_, ?_, ?_⟩
    · rw [e]; exact c0
    · rw [e, Nat.add_assoc]; exact c1
    · rw [e, Nat.add_assoc]; exact c2
end
end Go.Pol
namespace Go.Proofs.Ytifdgabfnnkghaa
open Go Go.Proofs Go.RowKit Go.Pol Go.ChangeShapes Go.WideShapes Go.Deep

theorem own_ : ownKnob Try.prog.godebug = none := by kernel_rfl
theorem laidOut_ : laidOutB Try.prog = true := by kernel_rfl
set_option maxRecDepth 100000 in
theorem okWide_i64 {w : World} {r : Reach} {b0 : Nat} {v : Value} (h : Value.okWide Try.prog w r b0 3 v) : ∃ n : Int, v = .int .i64 n := okWide_int Try.underlying3 h
theorem mvStruct : ∃ f0 f1 : Field, Try.prog.underlying 42 = some (.struct #[f0, f1]) ∧ oneCellFields Try.prog #[f0, f1] = true ∧ f0.type = 3 ∧ f1.type = 3 := ⟨_, _, Try.underlying42, by kernel_rfl, rfl, rfl⟩
theorem blStruct : ∃ f0 f1 f2 : Field, Try.prog.underlying 44 = some (.struct #[f0, f1, f2]) ∧ oneCellFields Try.prog #[f0, f1, f2] = true ∧ f0.type = 3 ∧ f1.type = 3 ∧ f2.type = 4 := ⟨_, _, _, Try.underlying44, by kernel_rfl, rfl, rfl, rfl⟩
set_option maxRecDepth 100000 in
/-- a list of moves that came in -/
theorem openMvs {H : Type} {enc : TypeId × Value → H} {w : World} {base : Nat} {held : Bool} {v : Value} {fuel : Nat} {x : DataW H × List MemPlace} (h : DataW.trod enc Try.prog w base (fun _ => true) held fuel 23 v.cells.toList = some x) (hv : Value.okWide Try.prog w .any base 23 v) :
    ∃ (A : Option Addr) (n cap : Nat) (us : List (Int × Int)), v = .slice A n cap ∧ us.length = n ∧ n ≤ maxLen ∧ RU w w.heap.size A us := by
  obtain ⟨f0, f1, hs, hone, t0, t1⟩ := mvStruct
  obtain ⟨A, n, cap, rfl⟩ := okWide_slice Try.underlying23 hv
  obtain ⟨A', n', cap', us, e, h1, h2, h3⟩ := openU Try.underlying23 hs hone (by kernel_rfl) (by rw [t0]; exact Try.underlying3) (by rw [t1]; exact Try.underlying3) h
  cases e
  exact ⟨_, _, _, us, rfl, h1, h2, h3⟩
set_option maxRecDepth 100000 in
/-- a list of blocks that came in -/
theorem openBls {H : Type} {enc : TypeId × Value → H} {w : World} {base : Nat} {held : Bool} {v : Value} {fuel : Nat} {x : DataW H × List MemPlace} (h : DataW.trod enc Try.prog w base (fun _ => true) held fuel 22 v.cells.toList = some x) (hv : Value.okWide Try.prog w .any base 22 v) :
    ∃ (A : Option Addr) (n cap : Nat) (us : List B3), v = .slice A n cap ∧ us.length = n ∧ n ≤ maxLen ∧ (A = none → cap = 0) ∧ RT w w.heap.size A us := by
  obtain ⟨f0, f1, f2, hs, hone, t0, t1, t2⟩ := blStruct
  obtain ⟨A, n, cap, rfl⟩ := okWide_slice Try.underlying22 hv
  obtain ⟨A', n', cap', us, e, h1, h2, h3⟩ := openT Try.underlying22 hs hone (by kernel_rfl) (by rw [t0]; exact Try.underlying3) (by rw [t1]; exact Try.underlying3) (by rw [t2]; exact Try.underlying4) h
  cases e
  rcases open_slice_fields Try.underlying22 hs hone (by kernel_rfl) h with ⟨hcs, _⟩ | ⟨a, len, cap', m, D, Pl, hcs, _, hl, hm, _⟩
  · have e : Value.slice A n cap = .slice none 0 0 := by simpa [Value.cells] using hcs
    cases e
    exact ⟨_, _, _, us, rfl, h1, h2, fun _ => rfl, h3⟩
  · have e : Value.slice A n cap = .slice (some a) len cap' := by simpa [Value.cells] using hcs
    cases e
    exact ⟨_, _, _, us, rfl, h1, h2, fun e => (by cases e), h3⟩
end Go.Proofs.Ytifdgabfnnkghaa
