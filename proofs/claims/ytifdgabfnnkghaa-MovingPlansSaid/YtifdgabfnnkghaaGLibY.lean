/- A slice of its own that a loop over a function value appends to, while the function makes blocks of its own: the slice's block is none of those. -/
import Derived.Test.YtifdgabfnnkghaaGLibX
import Derived.Test.YtifdgabfnnkghaaGLibS
import Derived.Laws.AppendOwn
namespace Go.Pol
open Go Go.RowKit

section
variable {P : Program} (w : World)
theorem append_block (base : Nat) (t ty e : TypeId) (i : TypeInfo) (z : Value) (size bytes : Nat) (ht : P.underlying t = some (.slice e)) (hi : P.info? e = some i) (hz : i.zero = some z)
    (hsize : i.size = size) (hby : i.bytes = bytes) (hzs : z.cells.size = size) (hsz : 0 < size)
    (v : Value) (n : Nat) (xs : List Value) (hown : w.ownsRow base e size v n xs)
    (a : Addr) (m c : Nat) (news : List Value) (hl : news.length = m * size) (hnews : ∀ j u, news[j]? = some u → w.cell? (a.add j) = some u) (h1 : ∀ u ∈ news, u.oneCell' = true)
    (h63 : n + m ≤ maxLen) (hbytes : (n + m) * bytes ≤ 140737488355328) (hbase : base ≤ w.heap.size) :
    ∃ v' w', (Builtin.append_ #[t, t] ty #[v, .slice (some a) m c]).run P w = .ok v' w' ∧ w'.ownsRow base e size v' (n + m) (xs ++ news) ∧ w.grownBy w' v.ownBlock ∧
      ∀ g, v'.ownBlock = some g → v.ownBlock = some g ∨ w.heap.size ≤ g := by
  obtain ⟨v', w', hr, r1, r2, _⟩ := run_append_own (P := P) w base t ty e i z size bytes ht hi hz hsize hby hzs hsz v n xs hown a m c news hl hnews h1 h63 hbytes hbase
  refine ⟨v', w', hr, r1, r2, fun g' hg' => ?_⟩
  have hsmall : n + m ≤ 9223372036854775807 := by simp only [maxLen] at h63; omega
  rcases hown.2 with ⟨hv, h0⟩ | ⟨g, cap, cur, hv, hbg, hg, hnc, hcm, hcs, htake⟩
  · subst h0
    have hx : xs = [] := List.eq_nil_of_length_eq_zero (by simpa using hown.1)
    have hown2 : w.ownsRow w.heap.size e size v 0 xs := by rw [hv, hx]; exact World.ownsRow_nil _ _ _ _
    obtain ⟨v2, w2, hr2, s1, _, _⟩ := run_append_own (P := P) w w.heap.size t ty e i z size bytes ht hi hz hsize hby hzs hsz v 0 xs hown2 a m c news hl hnews h1 h63 hbytes (Nat.le_refl _)
    rw [hr] at hr2
    injection hr2 with e1 e2
    subst e1; subst e2
    exact .inr (s1.lt g' hg').1
  · subst hsize
    subst hby
    subst hv
    by_cases hroom : n + m ≤ cap
    · have hfit : n * i.size + news.length ≤ cur.size := by rw [hl, hcs, ← Nat.add_mul]; exact Nat.mul_le_mul_right _ hroom
      have hr2 := run_append_room (P := P) w t ty e i ht hi g n cap cur hg a m c news hl hnews h1 hroom hfit
      rw [hr] at hr2
      injection hr2 with e1 e2
      subst e1
      exact .inl hg'
    · have holds : ∀ j u, xs[j]? = some u → w.cell? ((⟨g, 0, none⟩ : Addr).add j) = some u := hown.cells (g := g) rfl
      have hr2 := run_append_grow (P := P) w t ty e i z ht hi hz ⟨g, 0, none⟩ n cap xs hown.1 holds a m c news hl hnews (by omega) (by omega) (growslice_fits (by omega) hbytes)
      rw [hr] at hr2
      injection hr2 with e1 e2
      subst e1
      simp only [Value.ownBlock, Option.some.injEq] at hg'
      exact .inr (by omega)
end

theorem wpListIn_append_x {F : Fence} {n : Nat} {P : Program} (w : World) {ops : Array Oper} {rest : List Oper} {o : Oper} {a : Act} {Q : Exit → Act → World → Prop}
    (hg : o.guard = none) (s x : Operand) (t : TypeId) (hop : o.op = Op.call { callee := Callee.builtin Builtin.append, args := #[s, x], argTypes := #[t, t] })
    (base : Nat) (e : TypeId) (i : TypeInfo) (z : Value) (size bytes : Nat) (h1 : P.underlying t = some (.slice e)) (h2 : P.info? e = some i) (h3 : i.zero = some z) (h4 : i.size = size) (h5 : i.bytes = bytes) (h6 : z.cells.size = size) (h7 : 0 < size)
    (v : Value) (k : Nat) (xs : List Value) (hs : a.eval s = v) (hown : w.ownsRow base e size v k xs) (ad : Addr) (m c : Nat) (news : List Value) (hx : a.eval x = .slice (some ad) m c) (hn : news.length = m * size)
    (hc : ∀ j u, news[j]? = some u → w.cell? (ad.add j) = some u) (h1c : ∀ u ∈ news, u.oneCell' = true) (b1 : k + m ≤ maxLen) (b2 : (k + m) * bytes ≤ 140737488355328) (b3 : base ≤ w.heap.size)
    (hK : ∀ v' w', w'.ownsRow base e size v' (k + m) (xs ++ news) → w.grownBy w' v.ownBlock → (∀ g, v'.ownBlock = some g → v.ownBlock = some g ∨ w.heap.size ≤ g) → wpListIn F n P ops Q rest (a.put o.dst v') w') :
    wpListIn F n P ops Q (o :: rest) a w := by
  refine wpListIn_plain hg fun K hK' => ?_
  obtain ⟨v', w', hrun, r1, r2, r3⟩ := append_block (P := P) w base t o.type e i z size bytes h1 h2 h3 h4 h5 h6 h7 v k xs hown ad m c news hn hc h1c b1 b2 b3
  unfold Oper.wpIn
  refine ⟨?_, ?_⟩
  · simp [Oper.about, hop, resolve, Target.leads, Sem.run_pure]
  · rw [Oper.semAt_plain F _ _ (by rw [hop]; intro c hc'; cases hc')]
    simp [execOp, hop, resolve, invoke, builtin, hs, hx, hrun, Result.andThen]
    exact hK' _ _ (hK v' w' r1 r2 r3)

/-- the box of a slice, and the row that the slice owns beyond 'base'; neither is a block of X -/
structure BoxX (X : Nat → Prop) (w : World) (B : Nat) (tb te : TypeId) (base size n : Nat) (cs : List Value) : Prop where
  ex : ∃ v, Blk w B tb #[v] ∧ w.ownsRow base te size v n cs ∧ ¬ X B ∧ ∀ g, v.ownBlock = some g → ¬ X g
section
variable {X X' T : Nat → Prop} {w w' w1 : World} {B : Nat} {tb te : TypeId} {base size n : Nat} {cs cs' : List Value} {v v' : Value}
theorem BoxX.far (h : BoxX X w B tb te base size n cs) (hf : Far T w w') (hB : T B → X B) (hT : ∀ g, base ≤ g → T g → X g) : BoxX X w' B tb te base size n cs := by
  obtain ⟨v, h1, h2, h3, h4⟩ := h.ex
  exact ⟨v, hf.blk h1 (fun h => h3 (hB h)), ownsRow_far h2 hf (fun g hg h => h4 g hg (hT g (h2.lt g hg).1 h)), h3, h4⟩
theorem BoxX.new (h : BoxX X w B tb te base size n cs) (hX : ∀ k, X' k → X k ∨ w.heap.size ≤ k) : BoxX X' w B tb te base size n cs := by
  obtain ⟨v, h1, h2, h3, h4⟩ := h.ex
  refine ⟨v, h1, h2, fun h => (hX _ h).elim h3 (fun h => by have := h1.lt; omega), fun g hg h => (hX _ h).elim (h4 g hg) (fun h => by have := (h2.lt g hg).2; omega)⟩
/-- 'out = append(out, x)': what lies behind it -/
theorem BoxX.appended {tmp : Obj} {m : Nat} (hv : Blk w B tb #[v]) (hte : tb ≠ te) (hrow : w.ownsRow base te size v n cs) (hXB : ¬ X B) (hXg : ∀ g, v.ownBlock = some g → ¬ X g)
    (hown : w1.ownsRow base te size v' m cs') (hg : (w.alloc tmp).grownBy w1 v.ownBlock) (hblk : ∀ g, v'.ownBlock = some g → v.ownBlock = some g ∨ (w.alloc tmp).heap.size ≤ g) (hXlt : ∀ k, X k → k < w.heap.size) :
    Blk w1 B tb #[v] ∧ BoxX X (w1.setCell ⟨B, 0, none⟩ v') B tb te base size m cs' ∧ ∀ (T : Nat → Prop), T B → (∀ g, v.ownBlock = some g → T g) → Far T w (w1.setCell ⟨B, 0, none⟩ v') := by
  have hv1 : Blk w1 B tb #[v] := (hv.alloc tmp).grown hg (fun e => hv.not_row hrow hte e.symm)
  refine ⟨hv1, ⟨v', by simpa using hv1.set_ 0 v', ?_, hXB, fun g hg' hx => ?_⟩, fun T hTB hT => ?_⟩
  · have hfar : Far (fun k => k = B) w1 (w1.setCell ⟨B, 0, none⟩ v') := Far.setCell (T := fun k => k = B) (p := ⟨B, 0, none⟩) (Far.refl _ _) (fun _ => rfl) v'
    exact ownsRow_far hown hfar (fun g hg' e => by subst e; exact hv1.not_row hown hte hg')
  · rcases hblk g hg' with h | h
    · exact hXg g h hx
    · have := hXlt g hx
      simp at h; omega
  · have h1 : Far T w (w.alloc tmp) := (Far.refl T w).alloc tmp
    refine (h1.grown hg (fun r e hr => ?_)).setCell (p := ⟨B, 0, none⟩) (fun _ => hTB) v'
    exact hT r e
end

/-- a loop over values of one parameter whose variable lies in a box -/
theorem rangeXB {P : Program} {g : Operand} {ps : Array Tmp} {assign body : Code} {Q : Exit → Act → World → Prop} {a : Act} {w : World} (ib pb : Nat) (tE : TypeId)
    {gf : Nat} {lb : Array Value} (hg : a.eval g = .func (.func gf) #[] lb) (eg : ∀ args w, (callFunc gf args).run P w = .ok (.enter gf args) w)
    {T K : Nat → Prop} {xs : List Sp} (hseq : SeqX P gf lb spA T K xs w) (hps : ps = #[pb])
    (hT : ∀ k, T k → k < w.heap.size) (hK : ∀ k, K k → k < w.heap.size)
    (I : (Nat → Prop) → List Sp → World → Prop) (Ix : Code → (Nat → Prop) → List Sp → World → Prop)
    (hI : ∀ X pre A B, I X pre A → Far (fun k => T k ∨ X k ∨ k = w.heap.size ∨ k = w.heap.size + 1) A B → I X pre B)
    (hIx : ∀ c X pre A B, Ix c X pre A → Far (fun k => T k ∨ X k ∨ k = w.heap.size ∨ k = w.heap.size + 1) A B → Ix c X pre B)
    (hnew : ∀ X X' pre A, I X pre A → (∀ k, X' k → X k ∨ A.heap.size ≤ k) → I X' pre A)
    (h0 : I (fun _ => False) [] w)
    (hassign : ∀ (m l : Nat) (x : Sp) (W : World) (C : Act → World → Prop),
      C { tmps := (a.tmps.setIfInBounds pb (.agg #[.int .i64 x.1, .int .i64 x.2])).setIfInBounds ib (.pointer (some ⟨W.heap.size, 0, none⟩)), defers := [] } (W.alloc (.cells #[.int .i64 x.1, .int .i64 x.2] tE)) →
      assign.wpIn (Fence.wide.inRound l) m P (Exit.then C (fun _ _ _ => False)) { tmps := a.tmps.setIfInBounds pb (.agg #[.int .i64 x.1, .int .i64 x.2]), defers := [] } W)
    (hbody : ∀ (m l : Nat) (X : Nat → Prop) (pre : List Sp) (x : Sp) (Bx : Nat) (Wa W : World), w.heap.size + 2 ≤ W.heap.size → (∀ k, X k → k < Wa.heap.size ∧ k ≠ w.heap.size ∧ k ≠ w.heap.size + 1) → I X pre W → pre ++ [x] <+: xs → w.heap.size + 2 ≤ Bx → Blk W Bx tE #[.int .i64 x.1, .int .i64 x.2] → Wa.heap.size ≤ Bx →
      body.wpIn (Fence.wide.inRound l) m P (xPost w.heap.size K X I Ix (pre ++ [x]) W) { tmps := (a.tmps.setIfInBounds pb (.agg #[.int .i64 x.1, .int .i64 x.2])).setIfInBounds ib (.pointer (some ⟨Bx, 0, none⟩)), defers := [] } W)
    (hdone : ∀ (X : Nat → Prop) (W : World), w.heap.size + 2 ≤ W.heap.size → I X xs W → W.heap[w.heap.size]? = some (.deferred (some [])) → Q .normal { a with defers := markOf w.heap.size :: a.defers } W)
    (hstop : ∀ (c : Code) (X : Nat → Prop) (pre : List Sp) (W : World), w.heap.size + 2 ≤ W.heap.size → pre <+: xs → Ix c X pre W → W.heap[w.heap.size]? = some (.deferred (some [])) → c.wp P Q { a with defers := markOf w.heap.size :: a.defers } W) :
    (Code.rangeFunc g ps assign body).wp P Q a w := by
  subst hps
  refine rangeX hg eg hseq (fun _ => rfl) hT hK I Ix hI hIx hnew h0
    (fun N x a' W => ∃ Bx, N ≤ Bx ∧ w.heap.size + 2 ≤ Bx ∧ Blk W Bx tE #[.int .i64 x.1, .int .i64 x.2] ∧ a' = { tmps := (a.tmps.setIfInBounds pb (.agg #[.int .i64 x.1, .int .i64 x.2])).setIfInBounds ib (.pointer (some ⟨Bx, 0, none⟩)), defers := [] })
    (fun N x a' A B ⟨Bx, h0, h1, h2, h3⟩ hf => ⟨Bx, h0, h1, hf.blk h2 (by omega), h3⟩) ?_ ?_ hdone hstop
  · intro m l x W C hs hC
    have e : (#[pb].zip (spA x)).foldl (fun t (p, v) => t.setIfInBounds p v) a.tmps = a.tmps.setIfInBounds pb (.agg #[.int .i64 x.1, .int .i64 x.2]) := by simp [spA]
    rw [e]
    exact hassign m l x W C (hC _ _ ((Far.refl _ W).alloc _) ⟨W.heap.size, Nat.le_refl _, hs, Blk.new _ _ _, rfl⟩)
  · rintro m l X pre x a' Wa W hs hX hi ⟨Bx, h0, h1, h2, rfl⟩ hpre _ _
    exact hbody m l X pre x Bx Wa W hs hX hi hpre h1 h2 h0
end Go.Pol
