/- Slices of spans that a call has made itself: as cells, as readings, across steps. -/
import Derived.Test.YtifdgabfnnkghaaGLibR
import Derived.Test.YtifdgabfnnkghaaGSpecA
namespace Go.Pol
open Go Go.RowKit
def spCells (us : List Sp) : List Value := us.flatMap fun x => [.int .i64 x.1, .int .i64 x.2]
theorem spCells_len (us : List Sp) : (spCells us).length = us.length * 2 := by
  induction us with
  | nil => rfl
  | cons x r ih => simp only [spCells, List.flatMap_cons, List.length_append, List.length_cons, List.length_nil] at ih ⊢; omega
theorem spCells_snoc (us : List Sp) (x : Sp) : spCells (us ++ [x]) = spCells us ++ [.int .i64 x.1, .int .i64 x.2] := by simp [spCells]
theorem spCells_at : ∀ (us : List Sp) (k : Nat), k < us.length → (spCells us)[k * 2]? = some (.int .i64 (us.getD k (0,0)).1) ∧ (spCells us)[k * 2 + 1]? = some (.int .i64 (us.getD k (0,0)).2)
  | [], k, h => by simp at h
  | x :: r, 0, _ => by simp [spCells]
  | x :: r, k + 1, h => by
    have ih := spCells_at r k (by simpa using h)
    have e : spCells (x :: r) = .int .i64 x.1 :: .int .i64 x.2 :: spCells r := by simp [spCells]
    rw [e, show (k + 1) * 2 = k * 2 + 1 + 1 by omega]
    simpa using ih
section
variable {T : Nat → Prop} {w w' : World} {base : Nat} {e : TypeId} {size : Nat} {v : Value} {n : Nat} {xs : List Value} {us : List Sp}
theorem ownsRow_far (h : w.ownsRow base e size v n xs) (hf : Far T w w') (hT : ∀ g, v.ownBlock = some g → ¬ T g) : w'.ownsRow base e size v n xs := by
  refine ⟨h.1, ?_⟩
  rcases h.2 with hn | ⟨g, cap, cur, rfl, hb, hg, rest⟩
  · exact .inl hn
  · exact .inr ⟨g, cap, cur, rfl, hb, hf.same hg (hT g rfl), rest⟩
theorem ownsRow_call (h : w.ownsRow base e size v n xs) (hf : Below w.heap.size w w') : w'.ownsRow base e size v n xs := ownsRow_far (T := fun _ => False) h (.of_below hf) (fun _ _ h => h)
theorem ownsRow_base {base' : Nat} (h : w.ownsRow base e size v n xs) (hb : base' ≤ base) : w.ownsRow base' e size v n xs := by
  refine ⟨h.1, ?_⟩
  rcases h.2 with hn | ⟨g, cap, cur, rfl, hb', rest⟩
  · exact .inl hn
  · exact .inr ⟨g, cap, cur, rfl, by omega, rest⟩
theorem Far.grown {A B C : World} {row : Option Nat} (h : Far T A B) (hg : B.grownBy C row) (hr : ∀ r, row = some r → r < A.heap.size → T r) : Far T A C :=
  ⟨hg.os.trans h.os, hg.tape.trans h.tape, hg.output.trans h.output, Nat.le_trans h.size hg.size, fun k hk hT => (hg.block k (Nat.lt_of_lt_of_le hk h.size) (fun e => hT (hr k e.symm hk))).trans (h.block k hk hT)⟩
/-- what a call of the own made reads as a list -/
theorem own_RU (h : w.ownsRow base e 2 v n (spCells us)) (hn : us.length = n) : ∃ (A : Option Addr) (cap : Nat), v = .slice A n cap ∧ RU w w.heap.size A us ∧ n ≤ cap ∧ cap ≤ maxLen ∧ (∀ b o, A = some ⟨b, o, none⟩ → base ≤ b) ∧ (us = [] ∨ A ≠ none) := by
  have hv := h
  rcases h.2 with ⟨rfl, h0⟩ | ⟨g, cap, cur, rfl, hg, hk, hnc, hcm, _⟩
  · subst h0
    obtain rfl : us = [] := List.eq_nil_of_length_eq_zero hn
    exact ⟨none, 0, rfl, RU.nil, Nat.le_refl _, by unfold maxLen; omega, fun b o e => (by cases e), .inl rfl⟩
  · refine ⟨_, cap, rfl, fun k hk' => ?_, hnc, hcm, fun b o e => by cases e; exact hg, .inr (by simp)⟩
    have h2 := spCells_at us k hk'
    have h0 := hv.cellAt (k * 2) (by omega)
    have h1 := hv.cellAt (k * 2 + 1) (by omega)
    refine ⟨g, 0, rfl, Blk.lt hk, ?_, ?_⟩
    · rw [Nat.zero_add, h0]; exact h2.1
    · rw [Nat.zero_add, h1]; exact h2.2
theorem own_cap {A : Option Addr} {cap m : Nat} (h : w.ownsRow base e size (.slice A n cap) m xs) (hA : A = none) : cap = 0 := by
  rcases h.2 with ⟨h0, _⟩ | ⟨g, cap', cur, h0, _⟩
  · cases h0; rfl
  · cases h0; cases hA
theorem own_nil_iff (h : w.ownsRow base e 2 v n (spCells us)) (hn : us.length = n) : ∃ (A : Option Addr) (cap : Nat), v = .slice A n cap := by
  obtain ⟨A, cap, hv, _⟩ := own_RU h hn
  exact ⟨A, cap, hv⟩
/-- a box is not a slice's own row -/
theorem Blk.not_row {g : Nat} {t : TypeId} {cs : Array Value} (h : Blk w g t cs) (hr : w.ownsRow base e size v n xs) (hte : t ≠ e) : v.ownBlock ≠ some g := by
  rcases hr.2 with ⟨rfl, _⟩ | ⟨g', cap, cur, rfl, _, hgb, _⟩
  · simp [Value.ownBlock]
  · intro e'
    obtain rfl : g' = g := by simpa [Value.ownBlock] using e'
    unfold Blk at h
    rw [h] at hgb
    simp at hgb
    exact hte hgb.2
theorem news_two {g : Nat} {t : TypeId} {a b : Int} (h : Blk w g t #[.int .i64 a, .int .i64 b]) : ∀ (j : Nat) (u : Value), [Value.int .i64 a, Value.int .i64 b][j]? = some u → w.cell? ((⟨g, 0, none⟩ : Addr).add j) = some u := by
  intro j u hu
  rw [addr_add0, Nat.zero_add]
  rw [h.cell]
  simpa using hu
theorem news_one2 {a b : Int} : ∀ u ∈ [Value.int .i64 a, Value.int .i64 b], u.oneCell' = true := by
  intro u hu
  simp only [List.mem_cons, List.not_mem_nil, or_false] at hu
  rcases hu with rfl | rfl <;> rfl
end
/-- the box of a slice of spans, and the row that the slice owns beyond 'base' -/
structure BoxS (w : World) (B : Nat) (tb te : TypeId) (base : Nat) (us : List Sp) : Prop where
  ex : ∃ v, Blk w B tb #[v] ∧ w.ownsRow base te 2 v us.length (spCells us) ∧ (v = .slice none 0 0 ↔ us = [])
theorem BoxS.far {T : Nat → Prop} {w w' : World} {B : Nat} {tb te : TypeId} {base : Nat} {us : List Sp} (h : BoxS w B tb te base us) (hf : Far T w w') (hB : ¬ T B) (hT : ∀ g, base ≤ g → ¬ T g) : BoxS w' B tb te base us := by
  obtain ⟨v, h1, h2, h3⟩ := h.ex
  exact ⟨v, hf.blk h1 hB, ownsRow_far h2 hf (fun g hg => hT g (h2.lt g hg).1), h3⟩
/-- 'out = append(out, x)': what lies behind it -/
theorem BoxS.appended {w w1 : World} {B : Nat} {tb te : TypeId} {base : Nat} {us us' : List Sp} {v v' : Value} {tmp : Obj} {m : Nat} (hv : Blk w B tb #[v]) (hte : tb ≠ te) (hrow : w.ownsRow base te 2 v us.length (spCells us))
    (hown : w1.ownsRow base te 2 v' m (spCells us')) (hm : m = us'.length) (hne : us' ≠ []) (hg : (w.alloc tmp).grownBy w1 v.ownBlock) :
    Blk w1 B tb #[v] ∧ BoxS (w1.setCell ⟨B, 0, none⟩ v') B tb te base us' ∧ ∀ (T : Nat → Prop), T B → (∀ g, v.ownBlock = some g → T g) → Far T w (w1.setCell ⟨B, 0, none⟩ v') := by
  subst hm
  have hv1 : Blk w1 B tb #[v] := (hv.alloc tmp).grown hg (fun e => hv.not_row hrow hte e.symm)
  refine ⟨hv1, ⟨v', by simpa using hv1.set_ 0 v', ?_, ?_⟩, fun T hTB hT => ?_⟩
  · have hfar : Far (fun k => k = B) w1 (w1.setCell ⟨B, 0, none⟩ v') := Far.setCell (T := fun k => k = B) (p := ⟨B, 0, none⟩) (Far.refl _ _) (fun _ => rfl) v'
    exact ownsRow_far hown hfar (fun g hg' e => by subst e; exact hv1.not_row hown hte hg')
  · constructor
    · intro e
      subst e
      rcases hown.2 with ⟨_, h0⟩ | ⟨g, cap, cur, e, _⟩
      · exact List.eq_nil_of_length_eq_zero h0
      · cases e
    · intro e; exact absurd e hne
  · have h1 : Far T w (w.alloc tmp) := (Far.refl T w).alloc tmp
    refine (h1.grown hg (fun r e hr => ?_)).setCell (p := ⟨B, 0, none⟩) (fun _ => hTB) v'
    exact hT r e

/-- two variables in boxes are stored into -/
theorem two_set {W : World} {p q : Nat} {t t' : TypeId} {x y : Value} (hpq : p ≠ q) (k1 : Blk W p t #[x]) (k2 : Blk W q t' #[y]) (a b : Value) :
    Blk ((W.setCell ⟨p, 0, none⟩ a).setCell ⟨q, 0, none⟩ b) p t #[a] ∧ Blk ((W.setCell ⟨p, 0, none⟩ a).setCell ⟨q, 0, none⟩ b) q t' #[b] ∧
      Far (fun k => k = p ∨ k = q) W ((W.setCell ⟨p, 0, none⟩ a).setCell ⟨q, 0, none⟩ b) := by
  have h1 : Blk (W.setCell ⟨p, 0, none⟩ a) p t #[a] := k1.set_ 0 a
  have h2 : Blk (W.setCell ⟨p, 0, none⟩ a) q t' #[y] := k2.far (p := ⟨p, 0, none⟩) (Ne.symm hpq) a
  exact ⟨h1.far (p := ⟨q, 0, none⟩) hpq b, h2.set_ 0 b, Far.setCell (T := fun k => k = p ∨ k = q) (p := ⟨q, 0, none⟩) (Far.setCell (T := fun k => k = p ∨ k = q) (p := ⟨p, 0, none⟩) (Far.refl _ _) (fun _ => .inl rfl) a) (fun _ => .inr rfl) b⟩
/-- the values that a loop over spans is handed -/
abbrev spA (x : Sp) : Array Value := #[.agg #[.int .i64 x.1, .int .i64 x.2]]
/-- a loop over spans whose variable lies in a box -/
theorem rangeFB {P : Program} {g : Operand} {ps : Array Tmp} {assign body : Code} {Q : Exit → Act → World → Prop} {a : Act} {w : World} (ib pb : Nat) (tE : TypeId)
    {gf : Nat} {lb : Array Value} (hg : a.eval g = .func (.func gf) #[] lb) (eg : ∀ args w, (callFunc gf args).run P w = .ok (.enter gf args) w)
    {T K : Nat → Prop} {xs : List Sp} (hseq : SeqF P gf lb spA T K xs w) (hps : ps = #[pb])
    (hT : ∀ k, T k → k < w.heap.size) (hK : ∀ k, K k → k < w.heap.size)
    (I : List Sp → World → Prop) (Ix : Code → List Sp → World → Prop)
    (hI : ∀ pre A B, I pre A → Far (fun k => T k ∨ k = w.heap.size ∨ k = w.heap.size + 1) A B → I pre B)
    (hIx : ∀ c pre A B, Ix c pre A → Far (fun k => T k ∨ k = w.heap.size ∨ k = w.heap.size + 1) A B → Ix c pre B)
    (h0 : I [] w)
    (hassign : ∀ (m l : Nat) (x : Sp) (W : World) (C : Act → World → Prop),
      C { tmps := (a.tmps.setIfInBounds pb (.agg #[.int .i64 x.1, .int .i64 x.2])).setIfInBounds ib (.pointer (some ⟨W.heap.size, 0, none⟩)), defers := [] } (W.alloc (.cells #[.int .i64 x.1, .int .i64 x.2] tE)) →
      assign.wpIn (Fence.wide.inRound l) m P (Exit.then C (fun _ _ _ => False)) { tmps := a.tmps.setIfInBounds pb (.agg #[.int .i64 x.1, .int .i64 x.2]), defers := [] } W)
    (hbody : ∀ (m l : Nat) (pre : List Sp) (x : Sp) (Bx : Nat) (Wa W : World), w.heap.size + 2 ≤ W.heap.size → I pre W → pre ++ [x] <+: xs → w.heap.size + 2 ≤ Bx → Blk W Bx tE #[.int .i64 x.1, .int .i64 x.2] → Wa.heap.size ≤ Bx → I pre Wa → Far (fun k => k = w.heap.size + 1) Wa W →
      body.wpIn (Fence.wide.inRound l) m P (fPost w.heap.size K I Ix (pre ++ [x]) W) { tmps := (a.tmps.setIfInBounds pb (.agg #[.int .i64 x.1, .int .i64 x.2])).setIfInBounds ib (.pointer (some ⟨Bx, 0, none⟩)), defers := [] } W)
    (hdone : ∀ (W : World), w.heap.size + 2 ≤ W.heap.size → I xs W → W.heap[w.heap.size]? = some (.deferred (some [])) → Q .normal { a with defers := markOf w.heap.size :: a.defers } W)
    (hstop : ∀ (c : Code) (pre : List Sp) (W : World), w.heap.size + 2 ≤ W.heap.size → pre <+: xs → Ix c pre W → W.heap[w.heap.size]? = some (.deferred (some [])) → c.wp P Q { a with defers := markOf w.heap.size :: a.defers } W) :
    (Code.rangeFunc g ps assign body).wp P Q a w := by
  subst hps
  refine rangeF hg eg hseq (fun _ => rfl) hT hK I Ix hI hIx h0
    (fun N x a' W => ∃ Bx, N ≤ Bx ∧ w.heap.size + 2 ≤ Bx ∧ Blk W Bx tE #[.int .i64 x.1, .int .i64 x.2] ∧ a' = { tmps := (a.tmps.setIfInBounds pb (.agg #[.int .i64 x.1, .int .i64 x.2])).setIfInBounds ib (.pointer (some ⟨Bx, 0, none⟩)), defers := [] })
    (fun N x a' A B ⟨Bx, h0, h1, h2, h3⟩ hf => ⟨Bx, h0, h1, hf.blk h2 (by omega), h3⟩) ?_ ?_ hdone hstop
  · intro m l x W C hs hC
    have e : (#[pb].zip (spA x)).foldl (fun t (p, v) => t.setIfInBounds p v) a.tmps = a.tmps.setIfInBounds pb (.agg #[.int .i64 x.1, .int .i64 x.2]) := by simp [spA]
    rw [e]
    exact hassign m l x W C (hC _ _ ((Far.refl _ W).alloc _) ⟨W.heap.size, Nat.le_refl _, hs, Blk.new _ _ _, rfl⟩)
  · rintro m l pre x a' Wa W hs hi ⟨Bx, h0, h1, h2, rfl⟩ hpre hia hfa
    exact hbody m l pre x Bx Wa W hs hi hpre h1 h2 h0 hia hfa
end Go.Pol
