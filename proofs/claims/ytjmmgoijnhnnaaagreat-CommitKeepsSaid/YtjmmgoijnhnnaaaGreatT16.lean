/- A slice of its own that a loop over a function value appends to, while the function makes blocks of its own: the slice's block is none of those. -/
import Derived.Laws.AppendOwn
import Derived.Test.YtjmmgoijnhnnaaaGreatT15
namespace Go.Pol
open Go Go.RowKit
theorem rangeXB {P : Program} {g : Operand} {ps : Array Tmp} {assign body : Code} {Q : Exit → Act → World → Prop} {a : Act} {w : World} (ib pb : Nat) (tE : TypeId)
  {gf : Nat} {lb : Array Value} (hg : a.eval g = .func (.func gf) #[] lb) (eg : ∀ args w, (callFunc gf args).run P w = .ok (.enter gf args) w)
  {T K : Nat → Prop} {xs : List Sp} (hseq : SeqX P gf lb spA T K xs w) (hps : ps = #[pb])
  (hT : ∀ k, T k → k < w.heap.size) (hK : ∀ k, K k → k < w.heap.size)
  (I : (Nat → Prop) → List Sp → World → Prop) (Ix : Code → (Nat → Prop) → List Sp → World → Prop)
  (hI : ∀ X pre A B, I X pre A → Far (fun k => T k ∨ X k ∨ k = w.heap.size ∨ k = w.heap.size + 1) A B → I X pre B)
  (hIx : ∀ c X pre A B, Ix c X pre A → Far (fun k => T k ∨ X k ∨ k = w.heap.size ∨ k = w.heap.size + 1) A B → Ix c X pre B)
  (hnew : ∀ X X' pre A, I X pre A → (∀ k, X' k → X k ∨ A.heap.size ≤ k) → I X' pre A)
  (h0 : I (fun _ => False) [] w)
  (hassign : ∀ (m l : Nat) (x : Sp) (W : World) (C : Act → World → Prop),
   C { tmps := (a.tmps.setIfInBounds pb (.agg #[.int .i64 x.1, .int .i64 x.2])).setIfInBounds ib (.pointer (some ⟨W.heap.size, 0, none⟩)), defers := [] } (W.alloc (.cells #[.int .i64 x.1, .int .i64 x.2] tE)) →
   assign.wpIn (Fence.wide.inRound l) m P (Exit.then C (fun _ _ _ => False)) { tmps := a.tmps.setIfInBounds pb (.agg #[.int .i64 x.1, .int .i64 x.2]), defers := [] } W)
  (hbody : ∀ (m l : Nat) (X : Nat → Prop) (pre : List Sp) (x : Sp) (Bx : Nat) (Wa W : World), w.heap.size + 2 ≤ W.heap.size → (∀ k, X k → k < Wa.heap.size ∧ k ≠ w.heap.size ∧ k ≠ w.heap.size + 1) → I X pre W → pre ++ [x] <+: xs → w.heap.size + 2 ≤ Bx → Blk W Bx tE #[.int .i64 x.1, .int .i64 x.2] → Wa.heap.size ≤ Bx →
   body.wpIn (Fence.wide.inRound l) m P (xPost w.heap.size K X I Ix (pre ++ [x]) W) { tmps := (a.tmps.setIfInBounds pb (.agg #[.int .i64 x.1, .int .i64 x.2])).setIfInBounds ib (.pointer (some ⟨Bx, 0, none⟩)), defers := [] } W)
  (hdone : ∀ (X : Nat → Prop) (W : World), w.heap.size + 2 ≤ W.heap.size → I X xs W → W.heap[w.heap.size]? = some (.deferred (some [])) → Q .normal { a with defers := markOf w.heap.size :: a.defers } W)
  (hstop : ∀ (c : Code) (X : Nat → Prop) (pre : List Sp) (W : World), w.heap.size + 2 ≤ W.heap.size → pre <+: xs → Ix c X pre W → W.heap[w.heap.size]? = some (.deferred (some [])) → c.wp P Q { a with defers := markOf w.heap.size :: a.defers } W) :
  (Code.rangeFunc g ps assign body).wp P Q a w := by
 subst hps
 refine rangeX hg eg hseq (fun _ => rfl) hT hK I Ix hI hIx hnew h0
  (fun N x a' W => ∃ Bx, N ≤ Bx ∧ w.heap.size + 2 ≤ Bx ∧ Blk W Bx tE #[.int .i64 x.1, .int .i64 x.2] ∧ a' = { tmps := (a.tmps.setIfInBounds pb (.agg #[.int .i64 x.1, .int .i64 x.2])).setIfInBounds ib (.pointer (some ⟨Bx, 0, none⟩)), defers := [] })
  (fun N x a' A B ⟨Bx, h0, h1, h2, h3⟩ hf => ⟨Bx, h0, h1, hf.blk h2 (by omega), h3⟩) ?_ ?_ hdone hstop
 ·intro m l x W C hs hC
  have e : (#[pb].zip (spA x)).foldl (fun t (p, v) => t.setIfInBounds p v) a.tmps = a.tmps.setIfInBounds pb (.agg #[.int .i64 x.1, .int .i64 x.2]) := by simp [spA]
  rw [e]
  exact hassign m l x W C (hC _ _ ((Far.refl _ W).alloc _) ⟨W.heap.size, Nat.le_refl _, hs, Blk.new _ _ _, rfl⟩)
 ·rintro m l X pre x a' Wa W hs hX hi ⟨Bx, h0, h1, h2, rfl⟩ hpre _ _
  exact hbody m l X pre x Bx Wa W hs hX hi hpre h1 h2 h0
end Go.Pol
