/- Slices of spans that a call has made itself: as cells, as readings, across steps. -/
import Derived.Maps.AppendAt
import Derived.Shelf.Abstract
import Derived.OrdersHeld
import Derived.Lib.BitFns
import Derived.Lib.Strings
import Derived.Lib.Small
import Derived.Lib.Walk
import Derived.Deep.MidRow
import Derived.OrdersIn
import Derived.Test.YtjmmgoijnhnnaaaGreatT1
namespace Go.Pol
open Go Go.RowKit
def spCells (us : List Sp) : List Value := us.flatMap fun x => [.int .i64 x.1, .int .i64 x.2]
theorem spCells_len (us : List Sp) : (spCells us).length = us.length * 2 := by
 induction us with
 | nil => rfl
 | cons x r ih => simp only [spCells, List.flatMap_cons, List.length_append, List.length_cons, List.length_nil] at ih ⊢; omega
theorem spCells_snoc (us : List Sp) (x : Sp) : spCells (us ++ [x]) = spCells us ++ [.int .i64 x.1, .int .i64 x.2] := by simp [spCells]
theorem spCells_at : ∀ (us : List Sp) (k : Nat), k < us.length → (spCells us)[k * 2]? = some (.int .i64 (us.getD k (0,0)).1) ∧ (spCells us)[k * 2 + 1]? = some (.int .i64 (us.getD k (0,0)).2)
 | [], k, h => by simp at h
 | x :: r, 0, _ => by simp [spCells]
 | x :: r, k + 1, h => by
  have ih := spCells_at r k (by simpa using h)
  have e : spCells (x :: r) = .int .i64 x.1 :: .int .i64 x.2 :: spCells r := by simp [spCells]
  rw [e, show (k + 1) * 2 = k * 2 + 1 + 1 by omega]
  simpa using ih
section
variable {T : Nat → Prop} {w w' : World} {base : Nat} {e : TypeId} {size : Nat} {v : Value} {n : Nat} {xs : List Value} {us : List Sp}
theorem ownsRow_far (h : w.ownsRow base e size v n xs) (hf : Far T w w') (hT : ∀ g, v.ownBlock = some g → ¬ T g) : w'.ownsRow base e size v n xs := by
 refine ⟨h.1, ?_⟩
 rcases h.2 with hn | ⟨g, cap, cur, rfl, hb, hg, rest⟩
 ·exact .inl hn
 ·exact .inr ⟨g, cap, cur, rfl, hb, hf.same hg (hT g rfl), rest⟩
theorem ownsRow_call (h : w.ownsRow base e size v n xs) (hf : Below w.heap.size w w') : w'.ownsRow base e size v n xs := ownsRow_far (T := fun _ => False) h (.of_below hf) (fun _ _ h => h)
theorem ownsRow_base {base' : Nat} (h : w.ownsRow base e size v n xs) (hb : base' ≤ base) : w.ownsRow base' e size v n xs := by
 refine ⟨h.1, ?_⟩
 rcases h.2 with hn | ⟨g, cap, cur, rfl, hb', rest⟩
 ·exact .inl hn
 ·exact .inr ⟨g, cap, cur, rfl, by omega, rest⟩
theorem Far.grown {A B C : World} {row : Option Nat} (h : Far T A B) (hg : B.grownBy C row) (hr : ∀ r, row = some r → r < A.heap.size → T r) : Far T A C :=
 ⟨hg.os.trans h.os, hg.tape.trans h.tape, hg.output.trans h.output, Nat.le_trans h.size hg.size, fun k hk hT => (hg.block k (Nat.lt_of_lt_of_le hk h.size) (fun e => hT (hr k e.symm hk))).trans (h.block k hk hT)⟩
theorem own_RU (h : w.ownsRow base e 2 v n (spCells us)) (hn : us.length = n) : ∃ (A : Option Addr) (cap : Nat), v = .slice A n cap ∧ RU w w.heap.size A us ∧ n ≤ cap ∧ cap ≤ maxLen ∧ (∀ b o, A = some ⟨b, o, none⟩ → base ≤ b) ∧ (us = [] ∨ A ≠ none) := by
 have hv := h
 rcases h.2 with ⟨rfl, h0⟩ | ⟨g, cap, cur, rfl, hg, hk, hnc, hcm, _⟩
 ·subst h0
  obtain rfl : us = [] := List.eq_nil_of_length_eq_zero hn
  exact ⟨none, 0, rfl, RU.nil, Nat.le_refl _, by unfold maxLen; omega, fun b o e => (by cases e), .inl rfl⟩
 ·refine ⟨_, cap, rfl, fun k hk' => ?_, hnc, hcm, fun b o e => by cases e; exact hg, .inr (by simp)⟩
  have h2 := spCells_at us k hk'
  have h0 := hv.cellAt (k * 2) (by omega)
  have h1 := hv.cellAt (k * 2 + 1) (by omega)
  refine ⟨g, 0, rfl, Blk.lt hk, ?_, ?_⟩
  ·rw [Nat.zero_add, h0]; exact h2.1
  ·rw [Nat.zero_add, h1]; exact h2.2
theorem own_cap {A : Option Addr} {cap m : Nat} (h : w.ownsRow base e size (.slice A n cap) m xs) (hA : A = none) : cap = 0 := by
 rcases h.2 with ⟨h0, _⟩ | ⟨g, cap', cur, h0, _⟩
 ·cases h0; rfl
 ·cases h0; cases hA
theorem own_nil_iff (h : w.ownsRow base e 2 v n (spCells us)) (hn : us.length = n) : ∃ (A : Option Addr) (cap : Nat), v = .slice A n cap := by
 obtain ⟨A, cap, hv, _⟩ := own_RU h hn
 exact ⟨A, cap, hv⟩
theorem Blk.not_row {g : Nat} {t : TypeId} {cs : Array Value} (h : Blk w g t cs) (hr : w.ownsRow base e size v n xs) (hte : t ≠ e) : v.ownBlock ≠ some g := by
 rcases hr.2 with ⟨rfl, _⟩ | ⟨g', cap, cur, rfl, _, hgb, _⟩
 ·simp [Value.ownBlock]
 ·intro e'
  obtain rfl : g' = g := by simpa [Value.ownBlock] using e'
  unfold Blk at h
  rw [h] at hgb
  simp at hgb
  exact hte hgb.2
theorem news_two {g : Nat} {t : TypeId} {a b : Int} (h : Blk w g t #[.int .i64 a, .int .i64 b]) : ∀ (j : Nat) (u : Value), [Value.int .i64 a, Value.int .i64 b][j]? = some u → w.cell? ((⟨g, 0, none⟩ : Addr).add j) = some u := by
 intro j u hu
 rw [addr_add0, Nat.zero_add]
 rw [h.cell]
 simpa using hu
theorem news_one2 {a b : Int} : ∀ u ∈ [Value.int .i64 a, Value.int .i64 b], u.oneCell' = true := by
 intro u hu
 simp only [List.mem_cons, List.not_mem_nil, or_false] at hu
 rcases hu with rfl | rfl <;> rfl
end
structure BoxS (w : World) (B : Nat) (tb te : TypeId) (base : Nat) (us : List Sp) : Prop where
 ex : ∃ v, Blk w B tb #[v] ∧ w.ownsRow base te 2 v us.length (spCells us) ∧ (v = .slice none 0 0 ↔ us = [])
theorem BoxS.far {T : Nat → Prop} {w w' : World} {B : Nat} {tb te : TypeId} {base : Nat} {us : List Sp} (h : BoxS w B tb te base us) (hf : Far T w w') (hB : ¬ T B) (hT : ∀ g, base ≤ g → ¬ T g) : BoxS w' B tb te base us := by
 obtain ⟨v, h1, h2, h3⟩ := h.ex
 exact ⟨v, hf.blk h1 hB, ownsRow_far h2 hf (fun g hg => hT g (h2.lt g hg).1), h3⟩
theorem BoxS.appended {w w1 : World} {B : Nat} {tb te : TypeId} {base : Nat} {us us' : List Sp} {v v' : Value} {tmp : Obj} {m : Nat} (hv : Blk w B tb #[v]) (hte : tb ≠ te) (hrow : w.ownsRow base te 2 v us.length (spCells us))
  (hown : w1.ownsRow base te 2 v' m (spCells us')) (hm : m = us'.length) (hne : us' ≠ []) (hg : (w.alloc tmp).grownBy w1 v.ownBlock) :
  Blk w1 B tb #[v] ∧ BoxS (w1.setCell ⟨B, 0, none⟩ v') B tb te base us' ∧ ∀ (T : Nat → Prop), T B → (∀ g, v.ownBlock = some g → T g) → Far T w (w1.setCell ⟨B, 0, none⟩ v') := by
 subst hm
 have hv1 : Blk w1 B tb #[v] := (hv.alloc tmp).grown hg (fun e => hv.not_row hrow hte e.symm)
 refine ⟨hv1, ⟨v', by simpa using hv1.set_ 0 v', ?_, ?_⟩, fun T hTB hT => ?_⟩
 ·have hfar : Far (fun k => k = B) w1 (w1.setCell ⟨B, 0, none⟩ v') := Far.setCell (T := fun k => k = B) (p := ⟨B, 0, none⟩) (Far.refl _ _) (fun _ => rfl) v'
  exact ownsRow_far hown hfar (fun g hg' e => by subst e; exact hv1.not_row hown hte hg')
 ·constructor
  ·intro e
   subst e
   rcases hown.2 with ⟨_, h0⟩ | ⟨g, cap, cur, e, _⟩
   ·exact List.eq_nil_of_length_eq_zero h0
   ·cases e
  ·intro e; exact absurd e hne
 ·have h1 : Far T w (w.alloc tmp) := (Far.refl T w).alloc tmp
  refine (h1.grown hg (fun r e hr => ?_)).setCell (p := ⟨B, 0, none⟩) (fun _ => hTB) v'
  exact hT r e
theorem two_set {W : World} {p q : Nat} {t t' : TypeId} {x y : Value} (hpq : p ≠ q) (k1 : Blk W p t #[x]) (k2 : Blk W q t' #[y]) (a b : Value) :
  Blk ((W.setCell ⟨p, 0, none⟩ a).setCell ⟨q, 0, none⟩ b) p t #[a] ∧ Blk ((W.setCell ⟨p, 0, none⟩ a).setCell ⟨q, 0, none⟩ b) q t' #[b] ∧
   Far (fun k => k = p ∨ k = q) W ((W.setCell ⟨p, 0, none⟩ a).setCell ⟨q, 0, none⟩ b) := by
 have h1 : Blk (W.setCell ⟨p, 0, none⟩ a) p t #[a] := k1.set_ 0 a
 have h2 : Blk (W.setCell ⟨p, 0, none⟩ a) q t' #[y] := k2.far (p := ⟨p, 0, none⟩) (Ne.symm hpq) a
 exact ⟨h1.far (p := ⟨q, 0, none⟩) hpq b, h2.set_ 0 b, Far.setCell (T := fun k => k = p ∨ k = q) (p := ⟨q, 0, none⟩) (Far.setCell (T := fun k => k = p ∨ k = q) (p := ⟨p, 0, none⟩) (Far.refl _ _) (fun _ => .inl rfl) a) (fun _ => .inr rfl) b⟩
abbrev spA (x : Sp) : Array Value := #[.agg #[.int .i64 x.1, .int .i64 x.2]]
theorem rangeFB {P : Program} {g : Operand} {ps : Array Tmp} {assign body : Code} {Q : Exit → Act → World → Prop} {a : Act} {w : World} (ib pb : Nat) (tE : TypeId)
  {gf : Nat} {lb : Array Value} (hg : a.eval g = .func (.func gf) #[] lb) (eg : ∀ args w, (callFunc gf args).run P w = .ok (.enter gf args) w)
  {T K : Nat → Prop} {xs : List Sp} (hseq : SeqF P gf lb spA T K xs w) (hps : ps = #[pb])
  (hT : ∀ k, T k → k < w.heap.size) (hK : ∀ k, K k → k < w.heap.size)
  (I : List Sp → World → Prop) (Ix : Code → List Sp → World → Prop)
  (hI : ∀ pre A B, I pre A → Far (fun k => T k ∨ k = w.heap.size ∨ k = w.heap.size + 1) A B → I pre B)
  (hIx : ∀ c pre A B, Ix c pre A → Far (fun k => T k ∨ k = w.heap.size ∨ k = w.heap.size + 1) A B → Ix c pre B)
  (h0 : I [] w)
  (hassign : ∀ (m l : Nat) (x : Sp) (W : World) (C : Act → World → Prop),
   C { tmps := (a.tmps.setIfInBounds pb (.agg #[.int .i64 x.1, .int .i64 x.2])).setIfInBounds ib (.pointer (some ⟨W.heap.size, 0, none⟩)), defers := [] } (W.alloc (.cells #[.int .i64 x.1, .int .i64 x.2] tE)) →
   assign.wpIn (Fence.wide.inRound l) m P (Exit.then C (fun _ _ _ => False)) { tmps := a.tmps.setIfInBounds pb (.agg #[.int .i64 x.1, .int .i64 x.2]), defers := [] } W)
  (hbody : ∀ (m l : Nat) (pre : List Sp) (x : Sp) (Bx : Nat) (Wa W : World), w.heap.size + 2 ≤ W.heap.size → I pre W → pre ++ [x] <+: xs → w.heap.size + 2 ≤ Bx → Blk W Bx tE #[.int .i64 x.1, .int .i64 x.2] → Wa.heap.size ≤ Bx → I pre Wa → Far (fun k => k = w.heap.size + 1) Wa W →
   body.wpIn (Fence.wide.inRound l) m P (fPost w.heap.size K I Ix (pre ++ [x]) W) { tmps := (a.tmps.setIfInBounds pb (.agg #[.int .i64 x.1, .int .i64 x.2])).setIfInBounds ib (.pointer (some ⟨Bx, 0, none⟩)), defers := [] } W)
  (hdone : ∀ (W : World), w.heap.size + 2 ≤ W.heap.size → I xs W → W.heap[w.heap.size]? = some (.deferred (some [])) → Q .normal { a with defers := markOf w.heap.size :: a.defers } W)
  (hstop : ∀ (c : Code) (pre : List Sp) (W : World), w.heap.size + 2 ≤ W.heap.size → pre <+: xs → Ix c pre W → W.heap[w.heap.size]? = some (.deferred (some [])) → c.wp P Q { a with defers := markOf w.heap.size :: a.defers } W) :
  (Code.rangeFunc g ps assign body).wp P Q a w := by
 subst hps
 refine rangeF hg eg hseq (fun _ => rfl) hT hK I Ix hI hIx h0
  (fun N x a' W => ∃ Bx, N ≤ Bx ∧ w.heap.size + 2 ≤ Bx ∧ Blk W Bx tE #[.int .i64 x.1, .int .i64 x.2] ∧ a' = { tmps := (a.tmps.setIfInBounds pb (.agg #[.int .i64 x.1, .int .i64 x.2])).setIfInBounds ib (.pointer (some ⟨Bx, 0, none⟩)), defers := [] })
  (fun N x a' A B ⟨Bx, h0, h1, h2, h3⟩ hf => ⟨Bx, h0, h1, hf.blk h2 (by omega), h3⟩) ?_ ?_ hdone hstop
 ·intro m l x W C hs hC
  have e : (#[pb].zip (spA x)).foldl (fun t (p, v) => t.setIfInBounds p v) a.tmps = a.tmps.setIfInBounds pb (.agg #[.int .i64 x.1, .int .i64 x.2]) := by simp [spA]
  rw [e]
  exact hassign m l x W C (hC _ _ ((Far.refl _ W).alloc _) ⟨W.heap.size, Nat.le_refl _, hs, Blk.new _ _ _, rfl⟩)
 ·rintro m l pre x a' Wa W hs hi ⟨Bx, h0, h1, h2, rfl⟩ hpre hia hfa
  exact hbody m l pre x Bx Wa W hs hi hpre h1 h2 h0 hia hfa
end Go.Pol
namespace Go.Proofs.YtjmmgoijnhnnaaaGreat
open Go Go.Proofs Go.RowKit Go.Pol Go.Shelf
attribute [local go_sem] Oper.semAt_some Go.Pol.wide_fn Go.Pol.wide_depth Go.Pol.wide_fn' Go.Pol.wide_depth'
theorem runs_any (pg n f b ev : Int) (w : World) :
  Calls Tryz.prog 116 #[planV pg n f b ev] w fun e w' => e = .returned (.func (.func 175) #[] #[.pointer (some ⟨w.heap.size, 0, none⟩)]) ∧ w' = w.alloc (.cells (planC pg n f b ev) 25) := by
 go_enter Tryz.func116, Tryz.ntmps116
 go_wp2
 go_ret
 exact ⟨rfl, rfl⟩
theorem common_any (A1 A2 : Option Addr) (n1 c1 n2 c2 : Nat) (w : World) :
  Calls Tryz.prog 119 #[.slice A1 n1 c1, .slice A2 n2 c2] w fun e w' => e = .returned (.func (.func 178) #[] #[.pointer (some ⟨w.heap.size, 0, none⟩), .pointer (some ⟨w.heap.size + 1, 0, none⟩)]) ∧
   w' = (w.alloc (.cells #[.slice A1 n1 c1] 41)).alloc (.cells #[.slice A2 n2 c2] 41) := by
 go_enter Tryz.func119, Tryz.ntmps119
 go_wp2
 go_ret
 exact ⟨rfl, rfl⟩
theorem infoSp : (Tryz.prog.info? 140).map (fun i => (i.zero, i.size, i.bytes)) = some (some (.agg #[.int .i64 0, .int .i64 0]), 2, 16) := by kernel_rfl
theorem infoSp_parts : ∃ i0, Tryz.prog.info? 140 = some i0 ∧ i0.zero = some (.agg #[.int .i64 0, .int .i64 0]) ∧ i0.size = 2 ∧ i0.bytes = 16 := by
 obtain ⟨i0, h⟩ := info_parts infoSp
 exact ⟨i0, h⟩
set_option maxRecDepth 100000 in
set_option maxHeartbeats 1600000 in
theorem appendSeq_any (g : Nat) (lb : Array Value) (T K : Nat → Prop) (xs : List Sp) (w : World) (hxs : xs.length ≤ 1000000)
  (hseq : SeqF Tryz.prog g lb spV T K xs w) (eg : ∀ args w, (callFunc g args).run Tryz.prog w = .ok (.enter g args) w) (hT : ∀ k, T k → k < w.heap.size) (hK : ∀ k, K k → k < w.heap.size) :
  Calls Tryz.prog 177 #[.slice none 0 0, .func (.func g) #[] lb] w fun e w' => ∃ v, e = .returned v ∧ w'.ownsRow w.heap.size 140 2 v xs.length (spCells xs) ∧ (v = .slice none 0 0 ↔ xs = []) ∧ Far T w w' := by
 obtain ⟨i0, hi, hz0, hz1, hz2⟩ := infoSp_parts
 refine calls_of_marks Tryz.func177 rfl ?_
 simp only [Tryz.ntmps177, List.size_toArray, List.length_cons, List.length_nil, Nat.reduceAdd, Nat.reduceSub, Array.replicate_succ, Array.replicate_zero, List.push_toArray, List.append_toArray, List.nil_append, List.cons_append]
 go_wp2_with fail
 obtain ⟨W0, hW0⟩ : ∃ W0, w.alloc (.cells #[.slice none 0 0] 41) = W0 := ⟨_, rfl⟩
 have hs0 : W0.heap.size = w.heap.size + 1 := by rw [← hW0]; simp
 have kB : Blk W0 w.heap.size 41 #[.slice none 0 0] := by rw [← hW0]; exact Blk.new _ _ _
 have hF0 : Far (fun _ => False) w W0 := by rw [← hW0]; exact (Far.refl _ w).alloc _
 rw [hW0]
 clear hW0
 refine rangeF (gf := g) (lb := lb) rfl eg (hseq.later (hF0.mono fun _ _ h => h.elim)) (fun _ => rfl) (fun k h => by have := hT k h; omega) (fun k h => by have := hK k h; omega)
  (fun pre W => BoxS W w.heap.size 41 140 (W0.heap.size + 2) pre ∧ Far T w W) (fun _ _ _ => False)
  (fun pre A B h hf => ⟨h.1.far hf (fun h => by rcases h with h | h | h; have := hT _ h; omega; omega; omega) (fun g hg h => by rcases h with h | h | h; have := hT _ h; omega; omega; omega), h.2.trans' hf (fun i hi h => by rcases h with h | h | h; exact h; omega; omega)⟩)
  (fun _ _ _ _ h _ => h.elim) ⟨⟨_, kB, World.ownsRow_nil _ _ _ _, by simp⟩, hF0.mono fun _ _ h => h.elim⟩
  (fun _ x a' W => ∃ Bx, W0.heap.size + 2 ≤ Bx ∧ Blk W Bx 140 #[.int .i64 x.1, .int .i64 x.2] ∧ a' = { tmps := #[.slice none 0 0, .func (.func g) #[] lb, .pointer (some ⟨w.heap.size, 0, none⟩), undef, .slice none 0 0, .pointer (some ⟨Bx, 0, none⟩), .func (.func g) #[] lb, .agg #[.int .i64 x.1, .int .i64 x.2], undef, undef, undef, undef, undef], defers := [] })
  (fun _ x a' A B ⟨Bx, h1, h2, h3⟩ hf => ⟨Bx, h1, hf.blk h2 (by omega), h3⟩) ?assign ?body ?done ?stop
 case assign =>
  intro m l x W C hs hC
  gi_wp2
  exact hC _ _ ((Far.refl _ W).alloc _) ⟨W.heap.size, hs, Blk.new _ _ _, rfl⟩
 case body =>
  rintro m l pre x a' _ W hs ⟨hbox, hF⟩ ⟨Bx, hBx, kx, rfl⟩ hpre _ _
  obtain ⟨v, hv, hrow, hnil⟩ := hbox.ex
  have cx := kx.cell
  have cv := hv.cell
  have fv := hv.frozen
  have hlen : pre.length + 1 ≤ xs.length := by have := hpre.length_le; simpa using this
  have kN := Blk.new W 140 #[.int .i64 x.1, .int .i64 x.2]
  gi_wp2_with (gi_at_builtin; refine wpListIn_append_own _ rfl (.tmp 8) (.tmp 10) 41 rfl (W0.heap.size + 2) 140 i0 (.agg #[.int .i64 0, .int .i64 0]) 2 16 Tryz.underlying41 hi hz0 hz1 hz2 rfl (by decide) v pre.length (spCells pre) rfl (hrow.alloc _) ⟨W.heap.size, 0, none⟩ 1 1 [.int .i64 x.1, .int .i64 x.2] rfl rfl (news_two kN) news_one2 (by unfold maxLen; omega) (by omega) (by simp; omega) ?_; intro v' w1 hown' hgrow _; rw [← spCells_snoc] at hown'; obtain ⟨hv1, hb2, hf2⟩ := BoxS.appended hv (by decide) hrow hown' (by simp) (by simp) hgrow; obtain ⟨A', cap', rfl⟩ := own_nil_iff hown' (by simp); have cv1 := hv1.cell; have fv1 := hv1.frozen)
  exact ⟨hf2 _ (by rintro (h | h | h); have := hK _ h; omega; omega; omega) (fun g hg => by have := (hrow.lt g hg).1; rintro (h | h | h); have := hK _ h; omega; omega; omega), hb2, hF.trans' (hf2 (fun k => w.heap.size ≤ k) (Nat.le_refl _) (fun g hg => by have := (hrow.lt g hg).1; omega)) (fun i hi h => by omega)⟩
 case done =>
  rintro W hs ⟨hbox, hF⟩ hd
  obtain ⟨v, hv, hrow, hnil⟩ := hbox.ex
  have cv := hv.cell
  obtain ⟨A', cap', rfl⟩ := own_nil_iff hrow rfl
  go_wp2_with fail
  have hfp : Far (fun k => k = W0.heap.size) W (W.putObj W0.heap.size (.deferred none)) := Far.putObj (T := fun k => k = W0.heap.size) (Far.refl _ _) (fun _ => rfl) _
  exact leave_mark (v := .slice A' xs.length cap') hd (by simp [results, Tryz.results177, go_sem]) ⟨_, rfl, ownsRow_base (ownsRow_far hrow hfp (fun g hg h => by have := (hrow.lt g hg).1; omega)) (by omega), hnil, hF.putObj (fun h => absurd h (by omega)) _⟩
 case stop => exact fun _ _ _ _ _ h _ => h.elim
theorem collect_any (g : Nat) (lb : Array Value) (T K : Nat → Prop) (xs : List Sp) (w : World) (hxs : xs.length ≤ 1000000)
  (hseq : SeqF Tryz.prog g lb spV T K xs w) (eg : ∀ args w, (callFunc g args).run Tryz.prog w = .ok (.enter g args) w) (hT : ∀ k, T k → k < w.heap.size) (hK : ∀ k, K k → k < w.heap.size) :
  Calls Tryz.prog 118 #[.func (.func g) #[] lb] w fun e w' => ∃ v, e = .returned v ∧ w'.ownsRow w.heap.size 140 2 v xs.length (spCells xs) ∧ (v = .slice none 0 0 ↔ xs = []) ∧ Far T w w' := by
 have HA := Lib.hid (appendSeq_any g lb T K xs w hxs hseq eg hT hK)
 go_enter Tryz.func118, Tryz.ntmps118
 go_wp2_with (go_at_call 177; refine (HA.out).mono ?_; rintro e w1 ⟨v, rfl, hown, hnil, hf⟩)
 go_ret
 exact ⟨v, rfl, hown, hnil, hf⟩
theorem runsF_len (size en : Int) : ∀ (k : Nat) (a : Int), (runsF size en k a).length ≤ k
 | 0, _ => by simp [runsF]
 | k + 1, a => by
  have := runsF_len size en k (a + size + 1)
  rw [runsF]; split
  ·simp; omega
  ·simp
theorem runsL_len {pg n f b ev : Int} (_ : PlanOk pg n f b ev) : (runsL pg n f b ev).length ≤ 1000000 := by
 have := runsF_len (if ev = 0 then 1024 else ev) (pg + n - b) 1025 (pg + f)
 unfold runsL; omega
theorem runs_enters : ∀ args w, (callFunc 175 args).run Tryz.prog w = .ok (.enter 175 args) w := enters_of Tryz.func175 (by kernel_rfl) rfl
theorem common_enters : ∀ args w, (callFunc 178 args).run Tryz.prog w = .ok (.enter 178 args) w := enters_of Tryz.func178 (by kernel_rfl) rfl
def SpansR (w : World) (us : List Sp) (er : Int) (e : Ending) (w' : World) : Prop :=
 ∃ (A : Option Addr) (cap : Nat), e = .returned (.tuple #[.slice A us.length cap, .int .i64 er]) ∧ RU w' w'.heap.size A us ∧ us.length ≤ cap ∧ cap ≤ maxLen ∧ (∀ b o, A = some ⟨b, o, none⟩ → w.heap.size ≤ b) ∧ Below w.heap.size w w'
set_option maxHeartbeats 400000 in
theorem usable_any (pg n f b ev : Int) (w : World) :
  Calls Tryz.prog 70 #[planV pg n f b ev] w (SpansR w (if chkG pg n f b ev = 0 then runsL pg n f b ev else []) (chkG pg n f b ev)) := by
 have HC := Lib.hid (fun W => gcheck_any pg n f b ev W)
 have hb0 := (Below.refl w.heap.size w).alloc (Nat.le_refl _) (.cells (planC pg n f b ev) 25)
 have k0 := Blk.new w 25 (planC pg n f b ev)
 have c0 := k0.cell
 by_cases hc : chkG pg n f b ev = 0
 ·have hp := chkG_zero.1 hc
  rw [hc] at HC ⊢
  rw [if_pos rfl]
  have HR := Lib.hid (fun W => runs_any pg n f b ev W)
  go_enter Tryz.func70, Tryz.ntmps70
  go_wp2_with (first
   | (go_at_call 115; refine (HC.out _).mono ?_; rintro e w1 ⟨rfl, hq⟩; have k1 := k0.call hq; have c1 := k1.cell; have hb1 := hb0.trans (hq.mono hb0.size))
   | (go_at_call 116; refine (HR.out _).mono ?_; rintro e w2 ⟨rfl, rfl⟩; have HS := Lib.hid (runs1_seq pg n f b ev w1.heap.size _ hp (Blk.new w1 25 (planC pg n f b ev))))
   | (go_at_call 118; refine (collect_any _ _ _ _ _ _ (runsL_len hp) HS.out runs_enters (fun _ h => h.elim) (fun k h => by subst h; simp)).mono ?_; rintro e w3 ⟨v, rfl, hown, _, hf⟩; obtain ⟨A, cap, rfl, hru, h1, h2, h3, _⟩ := own_RU hown rfl))
  have hb2 := hb1.alloc hb1.size (.cells (planC pg n f b ev) 25)
  have hb3 := hf.below (n := w.heap.size) (Nat.le_trans hb1.size (by simp)) (fun _ _ h => h)
  go_ret2
  exact ⟨A, cap, rfl, hru, h1, h2, fun b o e => by have := h3 b o e; simp at this; have := hb1.size; omega, hb2.trans hb3⟩
 ·rw [if_neg hc]
  generalize chkG pg n f b ev = er at *
  have hc' : (er != 0) = true := by simpa using hc
  clear hc
  go_enter Tryz.func70, Tryz.ntmps70
  go_wp2_with (go_at_call 115; refine (HC.out _).mono ?_; rintro e w1 ⟨rfl, hq⟩; have k1 := k0.call hq; have c1 := k1.cell; have hb1 := hb0.trans (hq.mono hb0.size))
  go_ret2
  exact ⟨none, 0, rfl, RU.nil, by simp, by unfold maxLen; omega, fun b o e => (by cases e), hb1⟩
end Go.Proofs.YtjmmgoijnhnnaaaGreat
namespace Go.Pol
open Go Go.RowKit
section
variable {P : Program} {ops : Array Oper} {Q : Exit → Act → World → Prop} {md : Region.Mode} {S : World → Prop} {tl : List Nat}
def wpAnyT (P : Program) (md : Region.Mode) (ops : Array Oper) (Q : Exit → Act → World → Prop) (S : World → Prop) (tl : List Nat) : Nat → Array Bool → Act → World → Prop
 | 0, listed, a, w => Region.ready md ops listed = [] ∧ Q .normal a w
 | fuel + 1, listed, a, w =>
  (Region.ready md ops listed = [] → Q .normal a w) ∧
  ∀ i ∈ Region.ready md ops listed, wpOp P ops Q i (fun a' w' => (tl.contains i = false → S w') ∧ wpAnyT P md ops Q S tl fuel (listed.setIfInBounds i true) a' w') a w
theorem wpAny_of_T : ∀ (fuel : Nat) (listed : Array Bool) (a : Act) (w : World), wpAnyT P md ops Q S tl fuel listed a w → wpAny P md ops Q fuel listed a w
 | 0, _, _, _, h => h
 | fuel + 1, _, _, _, h => ⟨h.1, fun i hi => wpOp_mono (fun a' w' h' => wpAny_of_T fuel _ a' w' h'.2) (h.2 i hi)⟩
def waitB (md : Region.Mode) (ops : Array Oper) (i n : Nat) (l : List Nat) : Bool :=
 match ops[n]? with
 | some o => o.after.any (fun e => Region.binds md e && (e.on == i || l.contains e.on))
 | none => false
def waitsL (md : Region.Mode) (ops : Array Oper) (i : Nat) : Nat → List Nat
 | 0 => []
 | n + 1 => if waitB md ops i n (waitsL md ops i n) = true then n :: waitsL md ops i n else waitsL md ops i n
def Closed (md : Region.Mode) (ops : Array Oper) (listed : Array Bool) : Prop :=
 ∀ j oj, ops[j]? = some oj → listed.getD j false = true → ∀ e ∈ oj.after, Region.binds md e = true → listed.getD e.on false = true
def closedB (md : Region.Mode) (ops : Array Oper) (listed : Array Bool) : Bool :=
 (List.range ops.size).all fun j => !listed.getD j false || (match ops[j]? with | some oj => oj.after.all (fun e => !Region.binds md e || listed.getD e.on false) | none => true)
theorem closed_of {listed : Array Bool} (h : closedB md ops listed = true) : Closed md ops listed := by
 intro j oj hj hl e he hb
 have hjs := (Array.getElem?_eq_some_iff.1 hj).1
 have h1 := List.all_eq_true.1 h j (List.mem_range.2 hjs)
 simp only [hl, Bool.not_true, Bool.false_or, hj] at h1
 have h2 := Array.all_eq_true'.1 h1 e he
 simpa [hb] using h2
theorem Closed.set {listed : Array Bool} {i : Nat} (h : Closed md ops listed) (hi : i ∈ Region.ready md ops listed) : Closed md ops (listed.setIfInBounds i true) := by
 obtain ⟨_, oi, hoi, hall⟩ := mem_ready.1 hi
 intro j oj hj hl e he hb
 by_cases hij : i = j
 ·subst hij
  have : oj = oi := Option.some.inj (hj.symm.trans hoi)
  subst this
  exact getD_set_true (hall e he hb)
 ·rw [getD_set_ne false hij] at hl
  exact getD_set_true (h j oj hj hl e he hb)
theorem waits_not {listed : Array Bool} {i : Nat} (hc : Closed md ops listed) (hun : listed.getD i false = false) : ∀ n, ∀ t ∈ waitsL md ops i n, listed.getD t false = false ∧ t ∉ Region.ready md ops listed
 | 0, t, ht => by simp [waitsL] at ht
 | n + 1, t, ht => by
  unfold waitsL at ht
  split at ht
  ·rename_i hw
   rcases List.mem_cons.1 ht with e | e
   ·subst e
    unfold waitB at hw
    split at hw
    ·rename_i o ho
     obtain ⟨e, he, hb⟩ := Array.any_eq_true'.1 hw
     simp only [Bool.and_eq_true, Bool.or_eq_true, beq_iff_eq] at hb
     have hno : listed.getD e.on false = false := by
      rcases hb.2 with h | h
      ·rw [h]; exact hun
      ·exact (waits_not hc hun t e.on (by simpa using h)).1
     refine ⟨?_, fun hr => ?_⟩
     ·cases hl : listed.getD t false with
      | false => rfl
      | true => have := hc t o ho hl e he hb.1; rw [hno] at this; cases this
     ·obtain ⟨_, o', ho', hall⟩ := mem_ready.1 hr
      have : o' = o := Option.some.inj (ho'.symm.trans ho)
      subst this
      have := hall e he hb.1
      rw [hno] at this; cases this
    ·cases hw
   ·exact waits_not hc hun n t e
  ·exact waits_not hc hun n t ht
theorem wpAnyT_first {i : Nat} {oi : Oper} {v : Value} (hi : ops[i]? = some oi) (hsel : ∀ (j : Nat) (o : Oper) cs b, ops[j]? = some o → o.op ≠ .select cs b)
  (hQ : ∀ c a w, Q (.panic c) (a.put oi.dst v) w → Q (.panic c) a w) (htl : ∀ t ∈ tl, t ∈ waitsL md ops i ops.size) :
  ∀ (fuel : Nat) (listed : Array Bool) (a : Act) (w : World), Closed md ops listed →
   (∀ j oj, ops[j]? = some oj → j ≠ i → listed.getD j true = false → (∀ e ∈ oj.after, Region.binds md e = true → e.on ≠ i) → oi.apart ops oj = true) →
   i ∈ Region.ready md ops listed → YieldsIf P ops S oi v a → S w →
   wpAnyT P md ops Q S tl fuel (listed.setIfInBounds i true) (a.put oi.dst v) w → wpAnyT P md ops Q S tl (fuel + 1) listed a w := by
 intro fuel
 induction fuel with
 | zero =>
  intro listed a w hcl _ hr hy hS H
  refine ⟨fun h => (by rw [h] at hr; cases hr), fun j hj => ?_⟩
  by_cases hji : j = i
  ·subst hji; exact hy.wpOp hi hS ⟨fun _ => hS, H⟩
  ·have := ready_mono hj hji
   rw [H.1] at this
   cases this
 | succ fuel ih =>
  intro listed a w hcl hfree hr hy hS H
  refine ⟨fun h => (by rw [h] at hr; cases hr), fun j hj => ?_⟩
  by_cases hji : j = i
  ·subst hji; exact hy.wpOp hi hS ⟨fun _ => hS, H⟩
  ·have h1 := H.2 j (ready_mono hj hji)
   obtain ⟨hjun, oj, hoj, hall⟩ := mem_ready.1 hj
   have hun : listed.getD i false = false := getD_both (mem_ready.1 hr).1
   have hntl : tl.contains j = false := by
    cases h : tl.contains j with
    | false => rfl
    | true => exact absurd hj (waits_not hcl hun _ j (htl j (by simpa using h))).2
   have hnot : ∀ e ∈ oj.after, Region.binds md e = true → e.on ≠ i := fun e he hb heq => by
    have h1 := hall e he hb
    rw [heq, hun] at h1
    cases h1
   have h2 := wpOp_putIf hoj (hfree j oj hoj hji hjun hnot) (fun cs b => hsel i oi cs b hi) (fun cs b => hsel j oj cs b hoj) hQ hy h1
   have hfree' : ∀ k ok, ops[k]? = some ok → k ≠ i → (listed.setIfInBounds j true).getD k true = false →
     (∀ e ∈ ok.after, Region.binds md e = true → e.on ≠ i) → oi.apart ops ok = true := fun k ok hk hki hun hno => by
    refine hfree k ok hk hki ?_ hno
    by_cases hjk : j = k
    ·subst hjk; exact hjun
    ·rw [getD_set_ne true hjk] at hun; exact hun
   refine wpOp_mono (fun a' w' h3 => ⟨h3.2.1, ih (listed.setIfInBounds j true) a' w' (hcl.set hj) hfree' (ready_mono hr (Ne.symm hji)) h3.1 (h3.2.1 hntl) ?_⟩) h2
   rw [Array.setIfInBounds_comm _ _ hji]
   exact h3.2.2
theorem wpAnyT_take {i : Nat} {oi : Oper} {v : Value} {fuel : Nat} {listed : Array Bool} {a : Act} {w : World} (hi : ops[i]? = some oi)
  (hB : (Region.noSelect ops && Region.free md ops listed i && (Region.ready md ops listed).contains i && closedB md ops listed && tl.all (fun t => (waitsL md ops i ops.size).contains t)) = true)
  (hQ : ∀ c a w, Q (.panic c) (a.put oi.dst v) w → Q (.panic c) a w) (hy : YieldsIf P ops S oi v a) (hS : S w)
  (h : wpAnyT P md ops Q S tl fuel (listed.setIfInBounds i true) (a.put oi.dst v) w) : wpAnyT P md ops Q S tl (fuel + 1) listed a w := by
 simp only [Bool.and_eq_true] at hB
 obtain ⟨⟨⟨⟨h1, h2⟩, h3⟩, h4⟩, h5⟩ := hB
 exact wpAnyT_first hi (Region.noSelect_spec h1) hQ (fun t ht => by simpa using List.all_eq_true.1 h5 t ht) fuel listed a w (closed_of h4) (Region.free_spec hi h2) (by simpa using h3) hy hS h
theorem tkQ (i : Nat) {oi : Oper} {v : Value} {fuel : Nat} {listed : Array Bool} {a : Act} {w : World} (hS : S w) (h : wpAnyT P md ops Q S tl fuel (listed.setIfInBounds i true) (a.put oi.dst v) w) (hi : ops[i]? = some oi := by (simp only [List.getElem?_toArray, List.getElem?_cons_succ, List.getElem?_cons_zero]; rfl)) (hB : (Region.noSelect ops && Region.free md ops listed i && (Region.ready md ops listed).contains i && closedB md ops listed && tl.all (fun t => (waitsL md ops i ops.size).contains t)) = true := by kernel_rfl) (hQ : ∀ c a w, Q (.panic c) (a.put oi.dst v) w → Q (.panic c) a w := by exact fun _ _ _ h => h) (hy : YieldsIf P ops S oi v a := by (refine Or.inl ⟨rfl, ?_⟩; intro wS hSw; obtain ⟨_, _⟩ := hSw; go_simp; (try with_reducible rfl))) : wpAnyT P md ops Q S tl (fuel + 1) listed a w := wpAnyT_take hi hB hQ hy hS h
def AllReadyT (P : Program) (md : Region.Mode) (ops : Array Oper) (Q : Exit → Act → World → Prop) (S : World → Prop) (tl : List Nat) (fuel : Nat) (listed : Array Bool) (a : Act) (w : World) (rs : List Nat) : Prop :=
 ∀ i ∈ rs, wpOp P ops Q i (fun a' w' => (tl.contains i = false → S w') ∧ wpAnyT P md ops Q S tl fuel (listed.setIfInBounds i true) a' w') a w
theorem AllReadyT.nil {fuel : Nat} {listed : Array Bool} {a : Act} {w : World} : AllReadyT P md ops Q S tl fuel listed a w [] := fun _ h => by cases h
theorem AllReadyT.cons {fuel : Nat} {listed : Array Bool} {a : Act} {w : World} {i : Nat} {o : Oper} {rs : List Nat} (ho : ops[i]? = some o)
  (h : ∀ K' : Act → World → Prop, Hid (∀ a w, (tl.contains i = false → S w) → ((tl.contains i = false → S w) → wpAnyT P md ops Q S tl fuel (listed.setIfInBounds i true) a w) → K' a w) → if Region.wanted o (yielded ops a.tmps) = true then Oper.wp P o a w K' Q else K' (a.put o.dst undef) w)
  (hs : AllReadyT P md ops Q S tl fuel listed a w rs) : AllReadyT P md ops Q S tl fuel listed a w (i :: rs) := fun j hj => by
 rcases List.mem_cons.1 hj with rfl | hj
 ·exact wpOp_step ho (fun K' hK => h K' (fun a w hS hW => hK a w ⟨hS, hW hS⟩))
 ·exact hs j hj
theorem wpAnyT_ready {rs : List Nat} {fuel : Nat} {listed : Array Bool} {a : Act} {w : World} (hr : Region.ready md ops listed = rs) (hne : rs ≠ [])
  (h : AllReadyT P md ops Q S tl fuel listed a w rs) : wpAnyT P md ops Q S tl (fuel + 1) listed a w :=
 ⟨fun h0 => absurd (hr ▸ h0) hne, hr ▸ h⟩
theorem tkR (i : Nat) {o : Oper} {fuel : Nat} {listed : Array Bool} {a : Act} {w : World} (h : ∀ K' : Act → World → Prop, Hid (∀ a w, (tl.contains i = false → S w) → ((tl.contains i = false → S w) → wpAnyT P md ops Q S tl fuel (listed.setIfInBounds i true) a w) → K' a w) → if Region.wanted o (yielded ops a.tmps) = true then Oper.wp P o a w K' Q else K' (a.put o.dst undef) w) (hi : ops[i]? = some o := by (simp only [List.getElem?_toArray, List.getElem?_cons_succ, List.getElem?_cons_zero]; rfl)) (hr : Region.ready md ops listed = [i] := by kernel_rfl) : wpAnyT P md ops Q S tl (fuel + 1) listed a w := wpAnyT_ready hr (by simp) (AllReadyT.cons hi h AllReadyT.nil)
theorem wpAnyT_done {listed : Array Bool} {a : Act} {w : World} (hr : Region.ready md ops listed = []) (h : Q .normal a w) : ∀ fuel, wpAnyT P md ops Q S tl fuel listed a w
 | 0 => ⟨hr, h⟩
 | _ + 1 => ⟨fun _ => h, by rw [hr]; simp⟩
theorem wp_region_T {id : Nat} {a : Act} {w : World} (S : World → Prop) (tl : List Nat) (hm : P.follows .mixedOrders = true) (h : wpAnyT P .any ops Q S tl ops.size (Array.replicate ops.size false) a w.drew) : (Code.region id ops true).wp P Q a w :=
 wp_region_any hm (wpAny_of_T _ _ _ _ h)
end
def gst (s : List Sp × Int) (x : Sp) : List Sp × Int := (if s.2 < x.1 then s.1 ++ [(s.2, x.1 - s.2)] else s.1, x.1 + x.2)
def gfold (n : Int) (l : List Sp) : List Sp × Int := l.foldl gst ([], n)
theorem gfold_snoc (n : Int) (l : List Sp) (x : Sp) : gfold n (l ++ [x]) = gst (gfold n l) x := by simp [gfold]
def gfin (s : List Sp × Int) (e : Int) : List Sp := s.1 ++ (if s.2 < e then [(s.2, e - s.2)] else [])
theorem gst_fold : ∀ (l : List Sp) (acc : List Sp) (n e : Int), gfin (l.foldl gst (acc, n)) e = acc ++ gapsL n e l
 | [], acc, n, e => rfl
 | x :: r, acc, n, e => by
  rw [List.foldl_cons, show gst (acc, n) x = (if n < x.1 then acc ++ [(n, x.1 - n)] else acc, x.1 + x.2) from rfl, gst_fold r, gapsL]
  split <;> simp
theorem gfold_gaps (l : List Sp) (n e : Int) : gfin (gfold n l) e = gapsL n e l := by
 rw [gfold, gst_fold, List.nil_append]
theorem gfold_next : ∀ (l : List Sp) (n : Int), 0 ≤ n ∧ n ≤ 1024 → (∀ x ∈ l, vld x = true) → 0 ≤ (gfold n l).2 ∧ (gfold n l).2 ≤ 1024 := by
 intro l n hn hv
 rcases List.eq_nil_or_concat l with rfl | ⟨r, x, rfl⟩
 ·exact hn
 ·rw [List.concat_eq_append, gfold_snoc]
  have := vld_iff.1 (hv x (by simp [List.concat_eq_append]))
  simp only [gst]; omega
theorem gfold_len : ∀ (l : List Sp) (acc : List Sp) (n : Int), (l.foldl gst (acc, n)).1.length ≤ acc.length + l.length
 | [], acc, n => by simp
 | x :: r, acc, n => by
  simp only [List.foldl_cons]
  refine Nat.le_trans (gfold_len r _ _) ?_
  show (if n < x.1 then acc ++ [(n, x.1 - n)] else acc).length + r.length ≤ _
  split <;> simp <;> omega
def noPanic (Q : Exit → Act → World → Prop) (e : Exit) (a : Act) (w : World) : Prop := match e with | .panic _ => False | e => Q e a w
theorem noPanic_normal {Q : Exit → Act → World → Prop} {a : Act} {w : World} (h : Q .normal a w) : noPanic Q .normal a w := h
theorem wp_noPanic {P : Program} {c : Code} {Q : Exit → Act → World → Prop} {a : Act} {w : World} (h : c.wp P (noPanic Q) a w) : c.wp P Q a w :=
 (wpIn_wide (n := 0)).1 (wpIn_mono (wpIn_wide.2 h) fun e a w hq => by
  cases e with
  | panic c => exact hq.elim
  | _ => exact hq)
def GapS (s : Nat) (p q nx : Int) (v : Value) (w : Go.World) : Prop :=
 w.cell? ⟨s, 0, none⟩ = some (.int .i64 p) ∧ w.cell? ⟨s, 1, none⟩ = some (.int .i64 q) ∧ w.cell? ⟨s + 2, 0, none⟩ = some (.int .i64 nx) ∧ w.cell? ⟨s + 1, 0, none⟩ = some v
theorem GapS.later {s : Nat} {p q nx : Int} {v : Value} {w w' : Go.World} {B : Nat} (h : GapS s p q nx v w) (hb : Below B w w') (hB : s + 2 < B) : GapS s p q nx v w' :=
 ⟨(hb.cell (p := ⟨s, 0, none⟩) (by show s < B; omega)).trans h.1, (hb.cell (p := ⟨s, 1, none⟩) (by show s < B; omega)).trans h.2.1, (hb.cell (p := ⟨s + 2, 0, none⟩) hB).trans h.2.2.1, (hb.cell (p := ⟨s + 1, 0, none⟩) (by show s + 1 < B; omega)).trans h.2.2.2⟩
theorem prefix_mem {α : Type} {pre xs : List α} (h : pre <+: xs) {x : α} (hx : x ∈ pre) : x ∈ xs := h.subset hx
end Go.Pol
namespace Go.Proofs.YtjmmgoijnhnnaaaGreat
open Go Go.Proofs Go.RowKit Go.Pol Go.Shelf
attribute [local go_sem] Oper.semAt_some Go.Pol.wide_fn Go.Pol.wide_depth Go.Pol.wide_fn' Go.Pol.wide_depth'
set_option maxRecDepth 100000 in
set_option maxHeartbeats 1600000 in
theorem gaps_own (A : Option Addr) (n cap : Nat) (us : List Sp) (p q : Int) (w : World) (hn : us.length = n) (hm : n ≤ cap) (hc : cap ≤ maxLen) (hr : RU w w.heap.size A us) (hu : Go.Pol.Can us) (hv : vld (p, q) = true) :
  Calls Tryz.prog 120 #[.slice A n cap, .agg #[.int .i64 p, .int .i64 q]] w fun e w' => ∃ (A' : Option Addr) (cap' : Nat), e = .returned (.slice A' (gapsF us (p, q)).length cap') ∧ RU w' w'.heap.size A' (gapsF us (p, q)) ∧ (gapsF us (p, q)).length ≤ cap' ∧ cap' ≤ maxLen ∧ (∀ b o, A' = some ⟨b, o, none⟩ → w.heap.size ≤ b) ∧ Below w.heap.size w w' ∧ (A' = none → cap' = 0) := by
 obtain ⟨i0, hi, hz0, hz1, hz2⟩ := infoSp_parts
 obtain ⟨L, hL0⟩ : ∃ L, gapsF us (p, q) = L := ⟨_, rfl⟩
 rw [hL0]
 have hL := Lib.hid hL0
 clear hL0
 refine calls_of_marks Tryz.func120 rfl ?_
 simp only [Tryz.ntmps120, List.size_toArray, List.length_cons, List.length_nil, Nat.reduceAdd, Nat.reduceSub, Array.replicate_succ, Array.replicate_zero, List.push_toArray, List.append_toArray, List.nil_append, List.cons_append]
 go_wp2_with (go_at_call 119; refine (common_any _ _ _ _ _ _ _).mono ?_; rintro e w2 ⟨rfl, rfl⟩)
 obtain ⟨s, hs⟩ : ∃ s, w.heap.size = s := ⟨_, rfl⟩
 obtain ⟨W0, hW0⟩ : ∃ W0, (((((w.alloc (.cells #[.int .i64 p, .int .i64 q] 140)).alloc (.cells #[.slice none 0 0] 41)).alloc (.cells #[.int .i64 p] 3)).alloc (.cells #[.int .i64 p, .int .i64 q] 140)).alloc (.cells #[.slice A n cap] 41)).alloc (.cells #[.slice (some ⟨w.heap.size + 1 + 1 + 1, 0, none⟩) 1 1] 41) = W0 := ⟨_, rfl⟩
 have hs0 : W0.heap.size = s + 6 := by rw [← hW0, ← hs]; simp
 have kI : Blk W0 s 140 #[.int .i64 p, .int .i64 q] := by rw [← hW0, ← hs]; exact (((((Blk.new _ _ _).alloc _).alloc _).alloc _).alloc _).alloc _
 have kO : Blk W0 (s + 1) 41 #[.slice none 0 0] := by
  rw [← hW0, ← hs]; have := Blk.new (w.alloc (.cells #[.int .i64 p, .int .i64 q] 140)) 41 #[.slice none 0 0]
  rw [World.size_alloc] at this
  exact (((this.alloc _).alloc _).alloc _).alloc _
 have kN : Blk W0 (s + 2) 3 #[.int .i64 p] := by
  rw [← hW0, ← hs]; have := Blk.new ((w.alloc (.cells #[.int .i64 p, .int .i64 q] 140)).alloc (.cells #[.slice none 0 0] 41)) 3 #[.int .i64 p]
  simp only [World.size_alloc] at this
  exact ((this.alloc _).alloc _).alloc _
 have kS : Blk W0 (s + 3) 140 #[.int .i64 p, .int .i64 q] := by
  rw [← hW0, ← hs]; have := Blk.new (((w.alloc (.cells #[.int .i64 p, .int .i64 q] 140)).alloc (.cells #[.slice none 0 0] 41)).alloc (.cells #[.int .i64 p] 3)) 140 #[.int .i64 p, .int .i64 q]
  simp only [World.size_alloc] at this
  exact (this.alloc _).alloc _
 have kB1 : Blk W0 (s + 4) 41 #[.slice A n cap] := by
  rw [← hW0, ← hs]; have := Blk.new ((((w.alloc (.cells #[.int .i64 p, .int .i64 q] 140)).alloc (.cells #[.slice none 0 0] 41)).alloc (.cells #[.int .i64 p] 3)).alloc (.cells #[.int .i64 p, .int .i64 q] 140)) 41 #[.slice A n cap]
  simp only [World.size_alloc] at this
  exact this.alloc _
 have kB2 : Blk W0 (s + 5) 41 #[.slice (some ⟨s + 3, 0, none⟩) 1 1] := by
  rw [← hW0, ← hs]; have := Blk.new (((((w.alloc (.cells #[.int .i64 p, .int .i64 q] 140)).alloc (.cells #[.slice none 0 0] 41)).alloc (.cells #[.int .i64 p] 3)).alloc (.cells #[.int .i64 p, .int .i64 q] 140)).alloc (.cells #[.slice A n cap] 41)) 41 #[.slice (some ⟨w.heap.size + 1 + 1 + 1, 0, none⟩) 1 1]
  simp only [World.size_alloc] at this
  exact this
 have hB0 : Below s w W0 := by
  rw [← hW0, ← hs]
  exact ((((((Below.refl w.heap.size w).alloc (Nat.le_refl _) _).alloc (by simp) _).alloc (by simp; omega) _).alloc (by simp; omega) _).alloc (by simp; omega) _).alloc (by simp; omega) _
 simp only [hs] at hW0 hr ⊢
 simp only [Nat.add_assoc, Nat.reduceAdd] at hW0 ⊢
 rw [hW0]
 clear hW0
 have hxs : (commonF us [(p, q)]).length ≤ 512 := (hu.common (Can.one hv)).len
 have hvl := (hu.common (Can.one hv)).1
 have hp0 : 0 ≤ p ∧ p ≤ 1024 := by have := vld_iff.1 hv; simp only at this; omega
 have hseq := common1_seq A (some ⟨s + 3, 0, none⟩) n cap 1 1 us [(p, q)] (s + 4) (s + 5) (s + 6) (fun k => k < s ∨ k = s + 3 ∨ k = s + 4 ∨ k = s + 5) W0 (by omega) (by omega) (by omega) kB1 kB2
  ⟨hn, hm, hc, (hr.below hB0).more (by omega), fun h0 b o e => by
   obtain ⟨b', o', e', hb, _⟩ := hr 0 (by cases us; exact absurd rfl h0; simp)
   rw [e] at e'
   obtain ⟨rfl, rfl⟩ : b = b' ∧ o = o' := by simpa using e'
   exact ⟨.inl hb, by omega, by omega⟩, hu.1⟩
  ⟨rfl, Nat.le_refl _, by omega, (ru_blk1 kS).more (by omega), fun _ b o e => (by cases e; exact ⟨by omega, by omega, by omega⟩), by simpa using hv⟩
 refine rangeF (gf := 178) (lb := #[.pointer (some ⟨s + 4, 0, none⟩), .pointer (some ⟨s + 5, 0, none⟩)]) rfl common_enters hseq (fun _ => rfl) (fun k h => by omega) (fun k h => by omega)
  (fun pre W => BoxS W (s + 1) 41 140 (W0.heap.size + 2) (gfold p pre).1 ∧ Blk W (s + 2) 3 #[.int .i64 (gfold p pre).2] ∧ Blk W s 140 #[.int .i64 p, .int .i64 q] ∧ Below s w W) (fun _ _ _ => False)
  (fun pre A B h hf => ⟨h.1.far hf (by omega) (fun g hg => by omega), hf.blk h.2.1 (by omega), hf.blk h.2.2.1 (by omega), h.2.2.2.trans (hf.below (Nat.le_trans (by omega) h.2.2.2.size) (fun k hk => by omega))⟩)
  (fun _ _ _ _ h _ => h.elim) ⟨⟨_, kO, World.ownsRow_nil _ _ _ _, by simp [gfold]⟩, kN, kI, hB0⟩
  (fun N x a' W => ∃ Bx, N ≤ Bx ∧ W0.heap.size + 2 ≤ Bx ∧ Blk W Bx 140 #[.int .i64 x.1, .int .i64 x.2] ∧ a' = { tmps := #[.slice A n cap, .agg #[.int .i64 p, .int .i64 q], undef, .pointer (some ⟨s, 0, none⟩), .slice none 0 0, .pointer (some ⟨s + 1, 0, none⟩), .pointer (some ⟨s + 2, 0, none⟩), .pointer (some ⟨Bx, 0, none⟩), .pointer (some ⟨s, 0, none⟩), .int .i64 p, .slice A n cap, .agg #[.int .i64 p, .int .i64 q], .slice (some ⟨s + 3, 0, none⟩) 1 1, .func (.func 178) #[] #[.pointer (some ⟨s + 4, 0, none⟩), .pointer (some ⟨s + 5, 0, none⟩)], .agg #[.int .i64 x.1, .int .i64 x.2], undef, undef, undef, undef, undef, undef, undef, undef, undef, undef, undef, undef, undef, undef, undef, undef, undef, undef, undef, undef, undef, undef, undef, undef, undef, undef, undef, undef, undef], defers := [] })
  (fun N x a' A B ⟨Bx, h0, h1, h2, h3⟩ hf => ⟨Bx, h0, h1, hf.blk h2 (by omega), h3⟩) ?assign ?body ?done ?stop
 case assign =>
  intro m l x W C hs hC
  gi_wp2
  exact hC _ _ ((Far.refl _ W).alloc _) ⟨W.heap.size, Nat.le_refl _, hs, Blk.new _ _ _, rfl⟩
 case body =>
  rintro m l pre x a' Wa W hsz ⟨_, kN, kI, hB⟩ ⟨Bx, hBa, hBx, kx, rfl⟩ hpre ⟨hbox, _, _, _⟩ hfa
  have hvx := vld_iff.1 (hvl x (prefix_mem hpre (by simp)))
  have hnx := gfold_next pre p hp0 (fun y hy => hvl y (prefix_mem hpre (by simp [hy])))
  have hlen : pre.length + 1 ≤ 512 := by have := hpre.length_le; simp at this; omega
  have hol : (gfold p pre).1.length ≤ pre.length := by have := gfold_len pre [] p; simpa [gfold] using this
  have hgs := Lib.hid (gfold_snoc p pre x)
  generalize gfold p pre = st at *
  obtain ⟨out, nx⟩ := st
  obtain ⟨xa, xb⟩ := x
  dsimp only at hbox kN kx hvx hnx hol hgs ⊢
  obtain ⟨v, hv1, hrow, hnil⟩ := hbox.ex
  have hvx1 : v.ownBlock ≠ some Bx := fun e => by have := (hrow.lt _ e).2; omega
  have hvx2 : ∀ g, v.ownBlock = some g → W0.heap.size + 2 ≤ g := fun g e => (hrow.lt _ e).1
  replace hv1 := hfa.blk hv1 (by omega)
  replace hrow := ownsRow_far hrow hfa (fun g e => by have := hvx2 g e; omega)
  have cx := kx.cell
  have cv := hv1.cell
  have fv := hv1.frozen
  have cn := kN.cell
  have fn_ := kN.frozen
  have kW := Blk.new W 140 #[.int .i64 nx, .int .i64 (xa - nx)]
  by_cases hgt : nx < xa
  ·have hgt' : decide (nx < xa) = true := by simpa using hgt
   have hG : Hid (gfold p (pre ++ [(xa, xb)]) = (out ++ [(nx, xa - nx)], xa + xb)) := Lib.hid (by rw [hgs.out, gst, if_pos hgt])
   clear hgs hgt
   gi_wp2_with (first
    | (gi_at_builtin; refine wpListIn_append_own _ rfl (.tmp 19) (.tmp 26) 41 rfl (W0.heap.size + 2) 140 i0 (.agg #[.int .i64 0, .int .i64 0]) 2 16 Tryz.underlying41 hi hz0 hz1 hz2 rfl (by decide) v out.length (spCells out) rfl (hrow.alloc _) ⟨W.heap.size, 0, none⟩ 1 1 [.int .i64 nx, .int .i64 (xa - nx)] rfl rfl (news_two kW) news_one2 (by unfold maxLen; omega) (by omega) (by simp; omega) ?_; intro v' w1 hown' hgrow _; rw [← spCells_snoc out (nx, xa - nx)] at hown'; obtain ⟨hv2, hb2, hf2⟩ := BoxS.appended hv1 (by decide) hrow hown' (by simp) (by simp) hgrow; obtain ⟨A', cap', rfl⟩ := own_nil_iff hown' (by simp); have cv1 := hv2.cell; have fv1 := hv2.frozen; have hf3 := hf2 (fun k => k = s + 1 ∨ v.ownBlock = some k) (.inl rfl) (fun g e => .inr e); have kN2 := hf3.blk kN (by rintro (h | h); omega; have := hvx2 _ h; omega); have kx2 := hf3.blk kx (by rintro (h | h); omega; exact hvx1 h); have kI2 := hf3.blk kI (by rintro (h | h); omega; have := hvx2 _ h; omega); have cn2 := kN2.cell; have cx2 := kx2.cell)
    | (gi_at_call 168; refine (CallsIn.inRound l (callsIn_wide.2 (end_any _ _ _ (by omega) (by omega)))).mono ?_; rintro e w3 ⟨rfl, hq3⟩; have kN3 := kN2.call hq3; have cn3 := kN3.cell; have fn3 := kN3.frozen))
   have kI3 := kI2.call hq3
   have hb3 := hb2.far (.of_below hq3 : Far (fun _ => False) _ _) id (fun _ _ h => h)
   have hf4 : Far (fun k => k = s + 2) w3 (w3.setCell ⟨s + 2, 0, none⟩ (.int .i64 (xa + xb))) := Far.setCell (T := fun k => k = s + 2) (p := ⟨s + 2, 0, none⟩) (Far.refl _ _) (fun _ => rfl) _
   have hf5 : Far (fun k => k = s + 1 ∨ k = s + 2 ∨ v.ownBlock = some k) W (w3.setCell ⟨s + 2, 0, none⟩ (.int .i64 (xa + xb))) := (Far.call (hf3.mono fun k _ h => by rcases h with h | h; exact .inl h; exact .inr (.inr h)) hq3).trans (hf4.mono fun k _ h => .inr (.inl h))
   show Far _ _ _ ∧ (BoxS _ _ _ _ _ (gfold p (pre ++ [(xa, xb)])).1 ∧ Blk _ _ _ #[.int .i64 (gfold p (pre ++ [(xa, xb)])).2] ∧ _ ∧ _)
   rw [hG.out]
   refine ⟨hf5.mono fun k _ h => ?_, hb3.far hf4 (by omega) (fun g hg => by omega), kN3.set_ 0 _, hf4.blk kI3 (by omega), hB.trans (hf5.below (by have := hB.size; omega) (fun k hk => ?_))⟩
   ·rcases h with h | h | h
    ·omega
    ·omega
    ·have := hvx2 k h; omega
   ·rintro (h | h | h)
    ·omega
    ·omega
    ·have := hvx2 k h; omega
  ·have hgt' : decide (nx < xa) = false := by simpa using hgt
   have hG : Hid (gfold p (pre ++ [(xa, xb)]) = (out, xa + xb)) := Lib.hid (by rw [hgs.out, gst, if_neg hgt])
   clear hgs hgt
   gi_wp2_with (gi_at_call 168; refine (CallsIn.inRound l (callsIn_wide.2 (end_any _ _ _ (by omega) (by omega)))).mono ?_; rintro e w3 ⟨rfl, hq3⟩; have kN3 := kN.call hq3; have cn3 := kN3.cell; have fn3 := kN3.frozen)
   have kI3 := kI.call hq3
   have hb2 : BoxS W (s + 1) 41 140 (W0.heap.size + 2) out := ⟨v, hv1, hrow, hnil⟩
   have hb3 := hb2.far (.of_below hq3 : Far (fun _ => False) _ _) id (fun _ _ h => h)
   have hf4 : Far (fun k => k = s + 2) w3 (w3.setCell ⟨s + 2, 0, none⟩ (.int .i64 (xa + xb))) := Far.setCell (T := fun k => k = s + 2) (p := ⟨s + 2, 0, none⟩) (Far.refl _ _) (fun _ => rfl) _
   have hf5 : Far (fun k => k = s + 2) W (w3.setCell ⟨s + 2, 0, none⟩ (.int .i64 (xa + xb))) := (Far.of_below hq3).trans hf4
   show Far _ _ _ ∧ (BoxS _ _ _ _ _ (gfold p (pre ++ [(xa, xb)])).1 ∧ Blk _ _ _ #[.int .i64 (gfold p (pre ++ [(xa, xb)])).2] ∧ _ ∧ _)
   rw [hG.out]
   refine ⟨hf5.mono fun k _ h => by omega, hb3.far hf4 (by omega) (fun g hg => by omega), kN3.set_ 0 _, hf4.blk kI3 (by omega), hB.trans (hf5.below (by have := hB.size; omega) (fun k hk => by omega))⟩
 case done =>
  rintro W hsz ⟨hbox, kN, kI, hB⟩ hd
  rw [hs0] at hd hbox hsz
  have hfin := Lib.hid (gfold_gaps (commonF us [(p, q)]) p (p + q))
  have hnx := gfold_next (commonF us [(p, q)]) p hp0 (fun y hy => hvl y hy)
  have hol : (gfold p (commonF us [(p, q)])).1.length ≤ 512 := by have := gfold_len (commonF us [(p, q)]) [] p; simp only [List.length_nil] at this; unfold gfold; omega
  have hq0 : -100000 ≤ q ∧ q ≤ 100000 := by have := vld_iff.1 hv; simp only at this; omega
  have hq1 : 0 ≤ p + q ∧ p + q ≤ 1024 := by have := vld_iff.1 hv; simp only at this; omega
  have hgf : Hid (gfin (gfold p (commonF us [(p, q)])) (p + q) = L) := Lib.hid (by rw [hfin.out]; exact hL.out)
  clear hfin
  generalize gfold p (commonF us [(p, q)]) = st at *
  obtain ⟨out, nx⟩ := st
  dsimp only at hbox kN hnx hol
  obtain ⟨v, hv1, hrow, hnil⟩ := hbox.ex
  have hvx2 : ∀ g, v.ownBlock = some g → s + 6 + 2 ≤ g := fun g e => (hrow.lt _ e).1
  have HE : Hid (∀ z : Ext W, Calls Tryz.prog 168 #[.agg #[.int .i64 p, .int .i64 q]] z.w fun e w'' => e = .returned (.int .i64 (p + q)) ∧ ∃ t : Ext W, w'' = t.w) := Lib.hid (fun z => Ext.call (end_any p q _ (by omega) hq0))
  have e1 := fun z : Ext W => (z.blk kN).cell
  have e2 := fun z : Ext W => (z.blk kI).cell
  by_cases hlt : nx < p + q
  ·have hlt' : decide (nx < p + q) = true := by simpa using hlt
   have hE : Hid (L = out ++ [(nx, p + q - nx)]) := Lib.hid (by rw [← hgf.out, gfin, if_pos hlt])
   go_upto_region 8 with fail
   refine region_ext (by kernel_rfl) (by kernel_rfl) ?_
   repeat (go_big_quiet_step ((go_at_call 168; exact HE.out _)))
   refine wpQuiet_nil ?_
   rintro w2 ⟨⟨_, hw2⟩, rfl⟩
   clear e1 e2 HE hgf
   have kN2 := kN.call hw2
   have kI2 := kI.call hw2
   have hv2 := hv1.call hw2
   have hrow2 := ownsRow_call hrow hw2
   have hd2 : w2.heap[s + 6]? = some (.deferred (some [])) := (Far.of_below (T := fun _ => False) hw2).same hd id
   have hB2 := hB.trans (hw2.mono (by have := hB.size; omega))
   have hS0 : GapS s p q nx v w2 := ⟨kI2.cell 0, kI2.cell 1, kN2.cell 0, hv2.cell 0⟩
   have HEW := Lib.hid (fun W => end_any p q W (by omega) hq0)
   have hsz2 : s + 6 + 2 ≤ w2.heap.size := Nat.le_trans hsz hw2.size
   go_upto_region 9 with fail
   refine wp_noPanic ?_
   refine wp_region_T (GapS s p q nx v) [9] (by kernel_rfl) ?_
   have hS : GapS s p q nx v w2.drew := hS0
   refine tkQ 0 hS ?_
   try simp only [Act.put, qsA, qsB, qsC]
   refine tkQ 1 hS ?_
   try simp only [Act.put, qsA, qsB, qsC]
   refine tkQ 2 hS ?_
   try simp only [Act.put, qsA, qsB, qsC]
   refine tkQ 4 hS ?_
   try simp only [Act.put, qsA, qsB, qsC]
   refine tkR 3 fun K hK => ?_
   go_simp
   refine (HEW.out _).mono ?_
   rintro e w3 ⟨rfl, hq3⟩
   have hq3' : Below w2.heap.size w2 w3 := (Below.refl _ w2).drew.trans hq3
   refine hK.out _ _ (fun _ => hS0.later hq3' (by omega)) (fun hS => ?_)
   clear hK K
   replace hS := hS rfl
   try simp only [Act.put, qsA, qsB, qsC]
   refine tkQ 5 hS ?_
   try simp only [Act.put, qsA, qsB, qsC]
   rw [IntWalk.i64_in (p + q - nx) (by omega)]
   refine tkQ 6 hS ?_
   try simp only [Act.put, qsA, qsB, qsC]
   refine tkR 7 fun K hK => ?_
   go_simp
   have hq4 := hq3'.alloc hq3'.size (.cells #[.int .i64 nx, .int .i64 (p + q - nx)] 140)
   refine hK.out _ _ (fun _ => hS0.later hq4 (by omega)) (fun hS => ?_)
   clear hK K
   replace hS := hS rfl
   have kW := Blk.new w3 140 #[.int .i64 nx, .int .i64 (p + q - nx)]
   have hv3 := hv2.call hq3'
   have hrow3 := ownsRow_call hrow2 hq3'
   have hs3 : s + 6 + 2 ≤ w3.heap.size := Nat.le_trans hsz2 hq3'.size
   try simp only [Act.put, qsA, qsB, qsC]
   refine tkR 8 fun K hK => ?_
   rw [if_pos (by simp [Region.wanted])]
   refine wp_append_own _ (.tmp 34) (.tmp 41) 41 rfl (s + 6 + 2) 140 i0 (.agg #[.int .i64 0, .int .i64 0]) 2 16 Tryz.underlying41 hi hz0 hz1 hz2 rfl (by decide) v out.length (spCells out) rfl (hrow3.alloc _) ⟨w3.heap.size, 0, none⟩ 1 1 [.int .i64 nx, .int .i64 (p + q - nx)] rfl rfl (news_two kW) news_one2 (by unfold maxLen; omega) (by omega) (by simp; omega) ?_
   intro v' w4 hown' hgrow _
   rw [← spCells_snoc out (nx, p + q - nx)] at hown'
   obtain ⟨hv4, hb4, hf4⟩ := BoxS.appended hv3 (by decide) hrow3 hown' (by simp) (by simp) hgrow
   obtain ⟨A', cap', rfl⟩ := own_nil_iff hown' (by simp)
   have cv4 := hv4.cell
   have fv4 := hv4.frozen
   have hq5 : Below (s + 6 + 2) w2 w4 := (hq4.mono hsz2).grown hgrow (by simp; omega) (fun j hj => hvx2 j hj)
   refine hK.out _ _ (fun _ => hS0.later hq5 (by omega)) (fun hS => ?_)
   clear hK K
   replace hS := hS rfl
   try simp only [Act.put, qsA, qsB, qsC]
   refine tkR 9 fun K hK => ?_
   go_simp
   refine hK.out _ _ (fun h => absurd h (by decide)) (fun _ => ?_)
   clear hK K
   refine wpAnyT_done (by kernel_rfl) ?_ _
   refine noPanic_normal ?_
   obtain ⟨v5, k5, hrow5, _⟩ := hb4.ex
   have hf5 := hf4 (fun k => k = s + 1 ∨ v.ownBlock = some k) (.inl rfl) (fun g e => .inr e)
   have hB3 := hB2.trans (hq3'.mono (by have := hB2.size; have := hB.size; omega))
   generalize w4.setCell ⟨s + 1, 0, none⟩ (.slice A' (out.length + 1) cap') = w5 at *
   have hd5 : w5.heap[s + 6]? = some (.deferred (some [])) := hf5.same ((Far.of_below (T := fun _ => False) hq3').same hd2 id) (by rintro (h | h); omega; have := hvx2 _ h; omega)
   have hB5 := hB3.trans (hf5.below (by have := hB3.size; have := hB.size; omega) (fun k hk => by rintro (h | h); omega; have := hvx2 _ h; omega))
   have c5 := k5.cell
   obtain ⟨A5, cap5, rfl⟩ := own_nil_iff hrow5 rfl
   clear hv4 hb4 hf4 cv4 fv4 hown' hgrow
   go_wp2_with fail
   rw [hE.out]
   have hfp : Far (fun k => k = s + 6) w5 (w5.putObj (s + 6) (.deferred none)) := Far.putObj (T := fun k => k = s + 6) (Far.refl _ _) (fun _ => rfl) _
   have hrow6 := ownsRow_far hrow5 hfp (fun g hg h => by have := (hrow5.lt g hg).1; omega)
   obtain ⟨A6, cap6, he, hru, h1, h2, h3, _⟩ := own_RU hrow6 rfl
   cases he
   exact leave_mark (v := .slice A5 (out ++ [(nx, p + q - nx)]).length cap5) hd5 (by simp [results, Tryz.results120, go_sem]) ⟨A5, cap5, rfl, hru, h1, h2, fun b o e => by have := h3 b o e; omega, by rw [hs]; exact hB5.trans (hfp.below (by have := hB5.size; omega) (fun k hk => by omega)), own_cap hrow6⟩
  ·have hlt' : decide (nx < p + q) = false := by simpa using hlt
   have hE : Hid (L = out) := Lib.hid (by rw [← hgf.out, gfin, if_neg hlt, List.append_nil])
   go_upto_region 8 with fail
   refine region_ext (by kernel_rfl) (by kernel_rfl) ?_
   repeat (go_big_quiet_step ((go_at_call 168; exact HE.out _)))
   refine wpQuiet_nil ?_
   rintro w2 ⟨⟨_, hw2⟩, rfl⟩
   have hv2 := hv1.call hw2
   have hrow2 := ownsRow_call hrow hw2
   have hd2 : w2.heap[s + 6]? = some (.deferred (some [])) := (Far.of_below (T := fun _ => False) hw2).same hd id
   have hB2 := hB.trans (hw2.mono (by have := hB.size; omega))
   have cv := hv2.cell
   obtain ⟨A', cap', rfl⟩ := own_nil_iff hrow2 rfl
   go_wp2_with fail
   rw [hE.out]
   have hfp : Far (fun k => k = s + 6) w2 (w2.putObj (s + 6) (.deferred none)) := Far.putObj (T := fun k => k = s + 6) (Far.refl _ _) (fun _ => rfl) _
   have hrow3 := ownsRow_far hrow2 hfp (fun g hg h => by have := (hrow2.lt g hg).1; omega)
   obtain ⟨A2, cap2, he, hru, h1, h2, h3, _⟩ := own_RU hrow3 rfl
   cases he
   exact leave_mark (v := .slice A' out.length cap') hd2 (by simp [results, Tryz.results120, go_sem]) ⟨A', cap', rfl, hru, h1, h2, fun b o e => by have := h3 b o e; omega, hB2.trans (hfp.below (by have := hB2.size; omega) (fun k hk => by omega)), own_cap hrow3⟩
 case stop => exact fun _ _ _ _ _ h _ => h.elim
theorem gaps_any (A : Option Addr) (n cap : Nat) (us : List Sp) (p q : Int) (w : World) (hn : us.length = n) (hm : n ≤ cap) (hc : cap ≤ maxLen) (hr : RU w w.heap.size A us) (hu : Go.Pol.Can us) (hv : vld (p, q) = true) :
  Calls Tryz.prog 120 #[.slice A n cap, .agg #[.int .i64 p, .int .i64 q]] w fun e w' => ∃ (A' : Option Addr) (cap' : Nat), e = .returned (.slice A' (gapsF us (p, q)).length cap') ∧ RU w' w'.heap.size A' (gapsF us (p, q)) ∧ (gapsF us (p, q)).length ≤ cap' ∧ cap' ≤ maxLen ∧ (∀ b o, A' = some ⟨b, o, none⟩ → w.heap.size ≤ b) ∧ Below w.heap.size w w' := by
 refine (gaps_own A n cap us p q w hn hm hc hr hu hv).mono ?_
 rintro e w' ⟨A', cap', h1, h2, h3, h4, h5, h6, _⟩
 exact ⟨A', cap', h1, h2, h3, h4, h5, h6⟩
def SpansOwn (w : World) (us : List Sp) (er : Int) (e : Ending) (w' : World) : Prop :=
 ∃ (A : Option Addr) (cap : Nat), e = .returned (.tuple #[.slice A us.length cap, .int .i64 er]) ∧ RU w' w'.heap.size A us ∧ us.length ≤ cap ∧ cap ≤ maxLen ∧ (∀ b o, A = some ⟨b, o, none⟩ → w.heap.size ≤ b) ∧ Below w.heap.size w w' ∧ (A = none → cap = 0)
theorem not_own (A : Option Addr) (n cap : Nat) (us : List Sp) (p q : Int) (w : World) (hn : us.length = n) (hm : n ≤ cap) (hc : cap ≤ maxLen) (hr : RU w w.heap.size A us) :
  Calls Tryz.prog 209 #[.slice A n cap, .agg #[.int .i64 p, .int .i64 q]] w (SpansOwn w (if askS us (p, q) = 0 then gapsF us (p, q) else []) (askS us (p, q))) := by
 have HA := Lib.hid (fun W h => ask_any A n cap us p q W hn (Nat.le_trans hm hc) h)
 have hb0 := (Below.refl w.heap.size w).alloc (Nat.le_refl _) (.cells #[.int .i64 p, .int .i64 q] 140)
 have k0 := Blk.new w 140 #[.int .i64 p, .int .i64 q]
 have hr0 : RU _ _ A us := (hr.below hb0).more hb0.size
 by_cases h0 : askS us (p, q) = 0
 ·have h0' := h0
  unfold askS at h0'
  have hcu : Go.Pol.Can us := by
   by_cases hz : chkS us = 0
   ·exact chkS_zero.1 hz
   ·rw [if_neg hz] at h0'; exact absurd h0' hz
  have hv : vld (p, q) = true := by
   rw [if_pos (chkS_zero.2 hcu)] at h0'
   by_cases hz : vld (p, q) = true
   ·exact hz
   ·rw [if_neg hz] at h0'; cases h0'
  clear h0'
  rw [h0] at HA ⊢
  rw [if_pos rfl]
  have HG := Lib.hid (fun W h => gaps_own A n cap us p q W hn hm hc h hcu hv)
  obtain ⟨L, hL0⟩ : ∃ L, gapsF us (p, q) = L := ⟨_, rfl⟩
  rw [hL0] at HG ⊢
  clear hL0 h0
  go_enter Tryz.func209, Tryz.ntmps209
  go_wp2_with (first
   | (go_at_call 130; refine (HA.out _ hr0).mono ?_; rintro e w1 ⟨rfl, hq⟩; have k1 := k0.call hq; have c1 := k1.cell; have hb1 := hb0.trans (hq.mono hb0.size); have hr1 : RU _ _ A us := (hr0.below hq).more hq.size)
   | (go_at_call 120; refine (HG.out _ hr1).mono ?_; rintro e w2 ⟨A', cap', rfl, hru, h1, h2, h3, hq2, h4⟩))
  go_ret2
  exact ⟨A', cap', rfl, hru, h1, h2, fun b o e => by have := h3 b o e; have := hb1.size; omega, hb1.trans (hq2.mono hb1.size), h4⟩
 ·rw [if_neg h0]
  generalize askS us (p, q) = er at *
  have hc' : (er != 0) = true := by simpa using h0
  clear h0
  go_enter Tryz.func209, Tryz.ntmps209
  go_wp2_with (go_at_call 130; refine (HA.out _ hr0).mono ?_; rintro e w1 ⟨rfl, hq⟩; have hb1 := hb0.trans (hq.mono hb0.size))
  go_ret2
  exact ⟨none, 0, rfl, RU.nil, by simp, by unfold maxLen; omega, fun b o e => (by cases e), hb1, fun _ => rfl⟩
end Go.Proofs.YtjmmgoijnhnnaaaGreat
namespace Go.Pol
open Go
theorem runsF_ok (sz en : Int) (hsz : 1 ≤ sz) : ∀ (k : Nat) (a : Int), en - a < k →
  (∀ x ∈ runsF sz en k a, a ≤ x.1 ∧ 1 ≤ x.2 ∧ x.1 + x.2 ≤ en) ∧ formOk (a - 1) (runsF sz en k a) = true ∧ (∀ q : Int, mem q (runsF sz en k a) = true ↔ (a ≤ q ∧ q < en) ∧ (q - a + 1) % (sz + 1) ≠ 0)
 | 0, a, h => ⟨by simp [runsF], rfl, fun q => by simp [runsF, mem_nil]; omega⟩
 | k + 1, a, h => by
  rw [runsF]
  by_cases hlt : a < en
  ·rw [if_pos hlt]
   obtain ⟨h1, h2, h3⟩ := runsF_ok sz en hsz k (a + sz + 1) (by omega)
   refine ⟨fun x hx => ?_, ?_, fun q => ?_⟩
   ·rcases List.mem_cons.1 hx with rfl | hx
    ·simp only; omega
    ·have := h1 x hx; omega
   ·rw [formOk_cons]
    exact ⟨by simp only; omega, formOk_le h2 (by simp only; omega)⟩
   ·rw [mem_cons', h3 q]
    simp only
    have e : (q - (a + sz + 1) + 1) % (sz + 1) = (q - a + 1) % (sz + 1) := by
     rw [show q - a + 1 = (q - (a + sz + 1) + 1) + (sz + 1) by omega, Int.add_emod_right]
    rw [e]
    by_cases hq : q < a
    ·constructor
     ·rintro (h | ⟨h, _⟩) <;> omega
     ·rintro ⟨h, _⟩; omega
    by_cases hq2 : q < a + sz
    ·have em : (q - a + 1) % (sz + 1) = q - a + 1 := Int.emod_eq_of_lt (by omega) (by omega)
     rw [em]; omega
    by_cases hq3 : q = a + sz
    ·have em : (q - a + 1) % (sz + 1) = 0 := by rw [hq3, show a + sz - a + 1 = sz + 1 by omega, Int.emod_self]
     rw [em]; omega
    ·constructor
     ·rintro (h | ⟨h, h'⟩)
      ·omega
      ·exact ⟨by omega, h'⟩
     ·rintro ⟨h, h'⟩; exact .inr ⟨by omega, h'⟩
  ·rw [if_neg hlt]
   exact ⟨by simp, rfl, fun q => by simp [mem_nil]; omega⟩
section
variable {pg n f b ev : Int}
theorem runsL_ok (hp : PlanOk pg n f b ev) : (∀ x ∈ runsL pg n f b ev, pg + f ≤ x.1 ∧ 1 ≤ x.2 ∧ x.1 + x.2 ≤ pg + n - b) ∧ formOk (pg + f - 1) (runsL pg n f b ev) = true ∧
  (∀ q : Int, mem q (runsL pg n f b ev) = true ↔ (pg + f ≤ q ∧ q < pg + n - b) ∧ (q - (pg + f) + 1) % ((if ev = 0 then 1024 else ev) + 1) ≠ 0) := by
 have h := runsF_ok (if ev = 0 then 1024 else ev) (pg + n - b) (by have := hp.e0; split <;> omega) 1025 (pg + f) (by have := hp.n1; have := hp.pg0; have := hp.f0; have := hp.b0; omega)
 exact h
theorem runsL_can (hp : PlanOk pg n f b ev) : Go.Pol.Can (runsL pg n f b ev) := by
 obtain ⟨h1, h2, _⟩ := runsL_ok hp
 have a1 := hp.pg0; have a2 := hp.n1; have a3 := hp.f0; have a4 := hp.b0
 refine ⟨fun x hx => ?_, formOk_le h2 (by omega)⟩
 have := h1 x hx
 rw [vld_iff]; omega
end
def sumS (l : List Sp) : Int := (l.map (·.2)).sum
theorem sumS_snoc (l : List Sp) (x : Sp) : sumS (l ++ [x]) = sumS l + x.2 := by simp [sumS]
theorem sumS_bound : ∀ (l : List Sp), (∀ x ∈ l, vld x = true) → 0 ≤ sumS l ∧ sumS l ≤ 1024 * l.length
 | [], _ => by simp [sumS]
 | x :: r, h => by
  have := sumS_bound r (fun y hy => h y (by simp [hy]))
  have hx := vld_iff.1 (h x (by simp))
  simp only [sumS, List.map_cons, List.sum_cons, List.length_cons] at this ⊢
  omega
def nthF : List Sp → Int → Int × Int
 | [], _ => (0, 7)
 | x :: r, i => if i < 0 then (0, 7) else if i < x.2 then (x.1 + i, 0) else nthF r (i - x.2)
def idxF (page : Int) : Int → List Sp → Int × Int
 | _, [] => (0, 4)
 | n, x :: r => if x.1 ≤ page ∧ page < x.1 + x.2 then (n + page - x.1, 0) else idxF page (n + x.2) r
def pagesOf (l : List Sp) : List Int := l.flatMap fun x => (List.range x.2.toNat).map fun (k : Nat) => x.1 + (k : Int)
theorem nthF_step {L pre rest : List Sp} {i : Int} {x : Sp} (h : nthF L i = nthF (x :: rest) (i - sumS pre)) (h1 : ¬ i - sumS pre < 0) (h2 : ¬ i - sumS pre < x.2) : nthF L i = nthF rest (i - sumS (pre ++ [x])) := by
 rw [h, nthF, if_neg h1, if_neg h2, sumS_snoc]
 congr 1; omega
theorem prefix_cons {α : Type} {pre xs : List α} {x : α} (h : pre ++ [x] <+: xs) : ∃ rest, xs = pre ++ x :: rest := by
 obtain ⟨rest, h⟩ := h
 exact ⟨rest, by rw [← h]; simp⟩
end Go.Pol
namespace Go.Proofs.YtjmmgoijnhnnaaaGreat
open Go Go.Proofs Go.RowKit Go.Pol Go.Shelf
attribute [local go_sem] Oper.semAt_some Go.Pol.wide_fn Go.Pol.wide_depth Go.Pol.wide_fn' Go.Pol.wide_depth'
def guardsF (pg n f b ev : Int) : List Sp := if chkG pg n f b ev = 0 then gapsF (runsL pg n f b ev) (pg, n) else []
theorem ask_runs {pg n f b ev : Int} (hp : PlanOk pg n f b ev) : askS (runsL pg n f b ev) (pg, n) = 0 := by
 rw [askS, if_pos (chkS_zero.2 (runsL_can hp)), if_pos (vld_iff.2 ⟨hp.pg0, hp.pg1, hp.n0, hp.n1⟩)]
set_option maxHeartbeats 400000 in
theorem guards_own (pg n f b ev : Int) (w : World) :
  Calls Tryz.prog 190 #[planV pg n f b ev] w (SpansOwn w (guardsF pg n f b ev) (chkG pg n f b ev)) := by
 have HU := Lib.hid (fun W => usable_any pg n f b ev W)
 have hb0 := (Below.refl w.heap.size w).alloc (Nat.le_refl _) (.cells (planC pg n f b ev) 25)
 have k0 := Blk.new w 25 (planC pg n f b ev)
 have c0 := k0.cell
 unfold guardsF
 by_cases hc : chkG pg n f b ev = 0
 ·have hp := chkG_zero.1 hc
  have ha := ask_runs hp
  rw [hc, if_pos rfl] at HU
  rw [hc, if_pos rfl]
  have HN := Lib.hid (fun A cap W h1 h2 h3 => not_own A (runsL pg n f b ev).length cap (runsL pg n f b ev) pg n W rfl h1 h2 h3)
  rw [ha, if_pos rfl] at HN
  clear ha hc hp
  generalize gapsF (runsL pg n f b ev) (pg, n) = G at *
  generalize runsL pg n f b ev = L at *
  go_enter Tryz.func190, Tryz.ntmps190
  go_wp2_with (first
   | (go_at_call 70; refine (HU.out _).mono ?_; rintro e w1 ⟨A1, c1, rfl, hr1, hl1, hm1, _, hq⟩; have k1 := k0.call hq; have cc := k1.cell; have hb1 := hb0.trans (hq.mono hb0.size))
   | (go_at_call 209; refine (HN.out _ _ _ hl1 hm1 hr1).mono ?_; rintro e w2 ⟨A2, c2, rfl, hr2, hl2, hm2, ho2, hq2, hz2⟩))
  go_ret2
  exact ⟨A2, c2, rfl, hr2, hl2, hm2, fun b o e => by have := ho2 b o e; have := hb1.size; omega, hb1.trans (hq2.mono hb1.size), hz2⟩
 ·rw [if_neg hc] at HU ⊢
  generalize chkG pg n f b ev = er at *
  have hc' : (er != 0) = true := by simpa using hc
  clear hc
  go_enter Tryz.func190, Tryz.ntmps190
  go_wp2_with (go_at_call 70; refine (HU.out _).mono ?_; rintro e w1 ⟨A1, c1, rfl, hr1, hl1, hm1, _, hq⟩; have hb1 := hb0.trans (hq.mono hb0.size))
  go_ret2
  exact ⟨none, 0, rfl, RU.nil, by simp, by unfold maxLen; omega, fun b o e => (by cases e), hb1, fun _ => rfl⟩
theorem runs_start {w1 : World} {pg n f b ev : Int} (hp : PlanOk pg n f b ev) :
  SeqF Tryz.prog 175 #[.pointer (some ⟨w1.heap.size, 0, none⟩)] spV (fun _ => False) (fun k => k = w1.heap.size) (runsL pg n f b ev) (w1.alloc (.cells (planC pg n f b ev) 25)) :=
 runs1_seq pg n f b ev w1.heap.size _ hp (Blk.new w1 25 (planC pg n f b ev))
def CntS (s : Nat) (n sm : Int) (w : World) : Prop := w.cell? ⟨s + 1, 0, none⟩ = some (.int .i64 sm) ∧ w.cell? ⟨s, 1, none⟩ = some (.int .i64 n)
def countF (pg n f b ev : Int) : Int × Int := if chkG pg n f b ev = 0 then (sumS (runsL pg n f b ev), n - sumS (runsL pg n f b ev)) else (0, 0)
set_option maxRecDepth 100000 in
set_option maxHeartbeats 1600000 in
theorem count_any (pg n f b ev : Int) (w : World) :
  Calls Tryz.prog 50 #[planV pg n f b ev] w fun e w' => e = .returned (.tuple #[.int .i64 (countF pg n f b ev).1, .int .i64 (countF pg n f b ev).2, .int .i64 (chkG pg n f b ev)]) ∧ Below w.heap.size w w' := by
 have HC := Lib.hid (fun W => gcheck_any pg n f b ev W)
 have HR := Lib.hid (fun W => runs_any pg n f b ev W)
 have hb0 := ((Below.refl w.heap.size w).alloc (Nat.le_refl _) (.cells (planC pg n f b ev) 25)).alloc (by simp) (.cells #[.int .i64 0] 3)
 have kP := (Blk.new w 25 (planC pg n f b ev)).alloc (.cells #[.int .i64 0] 3)
 have kU := Blk.new (w.alloc (.cells (planC pg n f b ev) 25)) 3 #[.int .i64 0]
 rw [World.size_alloc] at kU
 have cP := kP.cell
 have fU := kU.frozen
 have cU := kU.cell
 unfold countF
 by_cases hc : chkG pg n f b ev = 0
 ·have hp := chkG_zero.1 hc
  rw [hc] at HC ⊢
  rw [if_pos rfl]
  have HSQ := Lib.hid (fun w1 => runs_start (w1 := w1) hp)
  have hvl := (runsL_can hp).1
  have hlen := (runsL_can hp).len
  generalize runsL pg n f b ev = L at *
  obtain ⟨sm, hSM0⟩ : ∃ z, sumS L = z := ⟨_, rfl⟩
  rw [hSM0]
  have hSM := Lib.hid hSM0
  clear hSM0
  refine calls_of_marks Tryz.func50 rfl ?_
  simp only [Tryz.ntmps50, List.size_toArray, List.length_cons, List.length_nil, Nat.reduceAdd, Nat.reduceSub, Array.replicate_succ, Array.replicate_zero, List.push_toArray, List.append_toArray, List.nil_append, List.cons_append]
  go_wp2_with (first
   | (go_at_call 115; refine (HC.out _).mono ?_; rintro e w1 ⟨rfl, hq⟩; have kP1 := kP.call hq; have kU1 := kU.call hq; have cP1 := kP1.cell; have hb1 := hb0.trans (hq.mono hb0.size))
   | (go_at_call 116; refine (HR.out _).mono ?_; rintro e w2 ⟨rfl, rfl⟩))
  obtain ⟨s, hs⟩ : ∃ s, w.heap.size = s := ⟨_, rfl⟩
  rw [hs] at hb0 hb1 kP1 kU1 ⊢
  have hsz1 := hb1.size
  obtain ⟨W0, hW0⟩ : ∃ W0, w1.alloc (.cells (planC pg n f b ev) 25) = W0 := ⟨_, rfl⟩
  have hs0 : W0.heap.size = w1.heap.size + 1 := by rw [← hW0]; simp
  have kP0 : Blk W0 s 25 (planC pg n f b ev) := by rw [← hW0]; exact kP1.alloc _
  have kU0 : Blk W0 (s + 1) 3 #[.int .i64 0] := by rw [← hW0]; exact kU1.alloc _
  have hB0 : Below s w W0 := by rw [← hW0]; exact hb1.alloc (by omega) _
  have hseq := HSQ.out w1
  rw [hW0] at hseq ⊢
  clear hW0
  have ls1 := kU1.lt
  refine rangeFB 6 14 140 (gf := 175) (lb := #[.pointer (some ⟨w1.heap.size, 0, none⟩)]) rfl runs_enters hseq rfl (fun _ h => h.elim) (fun k h => by omega)
   (fun pre W => Blk W (s + 1) 3 #[.int .i64 (sumS pre)] ∧ Blk W s 25 (planC pg n f b ev) ∧ Below s w W) (fun _ _ _ => False)
   (fun pre A B h hf => ⟨hf.blk h.1 (by rintro (h | h | h) <;> omega), hf.blk h.2.1 (by rintro (h | h | h) <;> omega), h.2.2.trans (hf.below (Nat.le_trans (by omega) h.2.2.size) (fun k hk => by rintro (h | h | h) <;> omega))⟩)
   (fun _ _ _ _ h _ => h.elim) ⟨kU0, kP0, hB0⟩ ?assign ?body ?done (fun _ _ _ _ _ h _ => h.elim)
  case assign =>
   intro m l x W C hC
   simp only [List.setIfInBounds_toArray, List.set_cons_succ, List.set_cons_zero] at hC ⊢
   gi_wp2
   exact hC
  case body =>
   rintro m l pre x Bx Wa W hsz ⟨kU, kP, hB⟩ hpre hBx kx _ _ _
   simp only [List.setIfInBounds_toArray, List.set_cons_succ, List.set_cons_zero]
   have hvx := vld_iff.1 (hvl x (prefix_mem hpre (by simp)))
   have hsb := sumS_bound pre (fun y hy => hvl y (prefix_mem hpre (by simp [hy])))
   have hpl : pre.length ≤ 512 := by have := hpre.length_le; simp at this; omega
   have hsn := Lib.hid (sumS_snoc pre x)
   obtain ⟨xa, xb⟩ := x
   dsimp only at kx hvx hsn
   generalize sumS pre = sp at *
   have cx := kx.cell
   have cU := kU.cell
   have fU := kU.frozen
   gi_wp2_with fail
   have hf4 : Far (fun k => k = s + 1) W (W.setCell ⟨s + 1, 0, none⟩ (.int .i64 (sp + xb))) := Far.setCell (T := fun k => k = s + 1) (p := ⟨s + 1, 0, none⟩) (Far.refl _ _) (fun _ => rfl) _
   show Far _ _ _ ∧ (Blk _ _ _ #[.int .i64 (sumS (pre ++ [(xa, xb)]))] ∧ _ ∧ _)
   rw [hsn.out]
   exact ⟨hf4.mono fun k _ h => by omega, kU.set_ 0 _, hf4.blk kP (by omega), hB.trans (hf4.below (by have := hB.size; omega) (fun k hk => by omega))⟩
  case done =>
   rintro W hsz ⟨kU, kP, hB⟩ hd
   have hsb := sumS_bound L (fun y hy => hvl y hy)
   have hn1 := hp.n1
   have hn0 := hp.n0
   have hp0 := hp.pg0
   rw [hSM.out] at hsb kU
   rw [hs0] at hd hsz
   go_upto_region 7 with fail
   refine wp_noPanic ?_
   refine wp_region_T (CntS s n sm) [] (by kernel_rfl) ?_
   have hS : CntS s n sm W.drew := ⟨kU.cell 0, kP.cell 1⟩
   refine tkQ 0 hS ?_
   try simp only [Act.put, qsA, qsB, qsC]
   refine tkQ 1 hS ?_
   try simp only [Act.put, qsA, qsB, qsC]
   refine tkQ 2 hS ?_
   try simp only [Act.put, qsA, qsB, qsC]
   refine tkQ 3 hS ?_
   try simp only [Act.put, qsA, qsB, qsC]
   refine tkQ 4 hS ?_
   try simp only [Act.put, qsA, qsB, qsC]
   rw [IntWalk.i64_in (n - sm) (by omega)]
   refine tkR 5 fun K hK => ?_
   have kUd := kU.drew
   have cU := kUd.cell
   have fU := kUd.frozen
   go_simp
   have hf5 : Far (fun k => k = s + 1) W (W.setCell ⟨s + 1, 0, none⟩ (.int .i64 sm)).drew := Far.drew (Far.setCell (T := fun k => k = s + 1) (p := ⟨s + 1, 0, none⟩) (Far.refl _ _) (fun _ => rfl) _)
   have kU5 : Blk (W.setCell ⟨s + 1, 0, none⟩ (.int .i64 sm)).drew (s + 1) 3 #[.int .i64 sm] := (kU.set_ 0 (.int .i64 sm)).drew
   have kP5 := hf5.blk kP (by omega)
   refine hK.out _ _ (fun _ => ⟨kU5.cell 0, kP5.cell 1⟩) (fun hS => ?_)
   clear hK K
   replace hS := hS rfl
   have hd5 := hf5.same hd (by omega)
   have hB5 := hB.trans (hf5.below (by have := hB.size; omega) (fun k hk => by omega))
   generalize (W.setCell ⟨s + 1, 0, none⟩ (.int .i64 sm)).drew = w5 at *
   try simp only [Act.put, qsA, qsB, qsC]
   refine tkQ 6 hS ?_
   try simp only [Act.put, qsA, qsB, qsC]
   refine tkQ 7 hS ?_
   try simp only [Act.put, qsA, qsB, qsC]
   refine wpAnyT_done (by kernel_rfl) ?_ _
   refine noPanic_normal ?_
   have c5 := kU5.cell
   go_wp2_with fail
   have hfp : Far (fun k => k = w1.heap.size + 1) w5 (w5.putObj (w1.heap.size + 1) (.deferred none)) := Far.putObj (T := fun k => k = w1.heap.size + 1) (Far.refl _ _) (fun _ => rfl) _
   have kU6 := hfp.blk kU5 (by omega)
   have c6 := kU6.cell
   exact leave_mark (v := .tuple #[.int .i64 sm, .int .i64 (n - sm), .int .i64 0]) hd5 (by simp [results, Tryz.results50, go_sem, c6]) ⟨rfl, (by rw [hs]; exact (hB5).trans (hfp.below (by have := (hB5).size; omega) (fun k hk => by omega)))⟩
 ·rw [if_neg hc]
  generalize chkG pg n f b ev = er at *
  have hc' : (er != 0) = true := by simpa using hc
  clear hc
  refine calls_of_marks Tryz.func50 rfl ?_
  simp only [Tryz.ntmps50, List.size_toArray, List.length_cons, List.length_nil, Nat.reduceAdd, Nat.reduceSub, Array.replicate_succ, Array.replicate_zero, List.push_toArray, List.append_toArray, List.nil_append, List.cons_append]
  go_wp2_with (go_at_call 115; refine (HC.out _).mono ?_; rintro e w1 ⟨rfl, hq⟩; have kU1 := kU.call hq; have cU1 := kU1.cell; have fU1 := kU1.frozen; have hb1 := hb0.trans (hq.mono hb0.size))
  have kU2 := kU1.set_ 0 (.int .i64 0)
  have cU2 := kU2.cell
  exact leave_none (v := .tuple #[.int .i64 0, .int .i64 0, .int .i64 er]) (by simp [results, Tryz.results50, go_sem, cU2]) ⟨rfl, hb1.setCell (p := ⟨w.heap.size + 1, 0, none⟩) (by simp) _⟩
set_option maxRecDepth 100000 in
set_option maxHeartbeats 1600000 in
theorem nth_any (pg n f b ev i : Int) (w : World) (hi0 : -9223372036854775808 ≤ i) (hi1 : i ≤ 9223372036854775807) (R : Int × Int) (hR : (if chkG pg n f b ev = 0 then nthF (runsL pg n f b ev) i else (0, chkG pg n f b ev)) = R) :
  Calls Tryz.prog 65 #[planV pg n f b ev, .int .i64 i] w fun e w' => e = .returned (.tuple #[.int .i64 R.1, .int .i64 R.2]) ∧ Below w.heap.size w w' := by
 have HC := Lib.hid (fun W => gcheck_any pg n f b ev W)
 have HR := Lib.hid (fun W => runs_any pg n f b ev W)
 obtain ⟨s, hs⟩ : ∃ s, w.heap.size = s := ⟨_, rfl⟩
 obtain ⟨Wb, hWb⟩ : ∃ Wb, (((w.alloc (.cells (planC pg n f b ev) 25)).alloc (.cells #[.int .i64 i] 3)).alloc (.cells #[.int .i64 0] 3)).alloc (.cells #[.int .i64 0] 36) = Wb := ⟨_, rfl⟩
 have hb0 : Below s w Wb := by rw [← hWb, ← hs]; exact ((((Below.refl w.heap.size w).alloc (Nat.le_refl _) _).alloc (by simp) _).alloc (by simp; omega) _).alloc (by simp; omega) _
 have kP : Blk Wb s 25 (planC pg n f b ev) := by rw [← hWb, ← hs]; exact (((Blk.new _ _ _).alloc _).alloc _).alloc _
 have kI : Blk Wb (s + 1) 3 #[.int .i64 i] := by
  rw [← hWb, ← hs]; have := Blk.new (w.alloc (.cells (planC pg n f b ev) 25)) 3 #[.int .i64 i]
  rw [World.size_alloc] at this; exact (this.alloc _).alloc _
 have kO : Blk Wb (s + 2) 3 #[.int .i64 0] := by
  rw [← hWb, ← hs]; have := Blk.new ((w.alloc (.cells (planC pg n f b ev) 25)).alloc (.cells #[.int .i64 i] 3)) 3 #[.int .i64 0]
  simp only [World.size_alloc] at this; exact this.alloc _
 have kE : Blk Wb (s + 3) 36 #[.int .i64 0] := by
  rw [← hWb, ← hs]; have := Blk.new (((w.alloc (.cells (planC pg n f b ev) 25)).alloc (.cells #[.int .i64 i] 3)).alloc (.cells #[.int .i64 0] 3)) 36 #[.int .i64 0]
  simp only [World.size_alloc] at this; exact this
 have hW1 : Hid ((((w.alloc (.cells (planC pg n f b ev) 25)).alloc (.cells #[.int .i64 i] 3)).alloc (.cells #[.int .i64 0] 3)).alloc (.cells #[.int .i64 0] 36) = Wb) := Lib.hid hWb
 clear hWb
 have HR1 := Lib.hid hR
 clear hR
 by_cases hc : chkG pg n f b ev = 0
 case neg =>
  rw [if_neg hc] at HR1
  generalize chkG pg n f b ev = er at *
  have hc' : (er != 0) = true := by simpa using hc
  have hE1 : Hid (R = (0, er)) := Lib.hid HR1.out.symm
  clear hc HR1
  have cP := kP.cell
  refine calls_of_marks Tryz.func65 rfl ?_
  simp only [Tryz.ntmps65, List.size_toArray, List.length_cons, List.length_nil, Nat.reduceAdd, Nat.reduceSub, Array.replicate_succ, Array.replicate_zero, List.push_toArray, List.append_toArray, List.nil_append, List.cons_append]
  go_upto_region 1 with fail
  simp only [Nat.add_assoc, Nat.reduceAdd]
  rw [hW1.out]
  go_wp2_with (go_at_call 115; refine (HC.out _).mono ?_; rintro e w1 ⟨rfl, hq⟩; have kO1 := kO.call hq; have kE1 := kE.call hq; have cO1 := kO1.cell; have fO1 := kO1.frozen; have cE1 := kE1.cell; have fE1 := kE1.frozen; have hb1 := hb0.trans (hq.mono (by have := hb0.size; omega)))
  obtain ⟨k2, k3, hf2⟩ := two_set (by omega) kO1 kE1 (.int .i64 0) (.int .i64 er)
  have c2 := k2.cell
  have c3 := k3.cell
  exact leave_none (v := .tuple #[.int .i64 0, .int .i64 er]) (by simp [results, Tryz.results65, go_sem, c2, c3]) ⟨by rw [hE1.out], by rw [hs]; exact hb1.trans (hf2.below (by have := hb1.size; omega) (fun k hk => by omega))⟩
 case pos =>
  have hp := chkG_zero.1 hc
  rw [hc] at HC
  rw [if_pos hc] at HR1
  have HSQ := Lib.hid (fun w1 => runs_start (w1 := w1) hp)
  have hvl := (runsL_can hp).1
  have hlen := (runsL_can hp).len
  clear hc
  generalize runsL pg n f b ev = L at *
  have cP := kP.cell
  refine calls_of_marks Tryz.func65 rfl ?_
  simp only [Tryz.ntmps65, List.size_toArray, List.length_cons, List.length_nil, Nat.reduceAdd, Nat.reduceSub, Array.replicate_succ, Array.replicate_zero, List.push_toArray, List.append_toArray, List.nil_append, List.cons_append]
  go_upto_region 1 with fail
  simp only [Nat.add_assoc, Nat.reduceAdd]
  rw [hW1.out]
  go_wp2_with (first
   | (go_at_call 115; refine (HC.out _).mono ?_; rintro e w1 ⟨rfl, hq⟩; have kP1 := kP.call hq; have kI1 := kI.call hq; have kO1 := kO.call hq; have kE1 := kE.call hq; have cP1 := kP1.cell; have hb1 := hb0.trans (hq.mono (by have := hb0.size; omega)))
   | (go_at_call 116; refine (HR.out _).mono ?_; rintro e w2 ⟨rfl, rfl⟩))
  obtain ⟨W0, hW0⟩ : ∃ W0, w1.alloc (.cells (planC pg n f b ev) 25) = W0 := ⟨_, rfl⟩
  have hs0 : W0.heap.size = w1.heap.size + 1 := by rw [← hW0]; simp
  have hB0 : Below s w W0 := by rw [← hW0]; exact hb1.alloc (by have := hb1.size; omega) _
  have hF0 : Far (fun _ => False) w1 W0 := by rw [← hW0]; exact (Far.refl _ _).alloc _
  have hseq := HSQ.out w1
  rw [hW0] at hseq ⊢
  clear hW0
  have kI0 := hF0.blk kI1 id
  have kO0 := hF0.blk kO1 id
  have kE0 := hF0.blk kE1 id
  have ls1 := kE1.lt
  have hszw := hb1.size
  refine rangeFB 7 15 140 (gf := 175) (lb := #[.pointer (some ⟨w1.heap.size, 0, none⟩)]) rfl runs_enters hseq rfl (fun _ h => h.elim) (fun k h => by omega)
   (fun pre W => Blk W (s + 1) 3 #[.int .i64 (i - sumS pre)] ∧ Blk W (s + 2) 3 #[.int .i64 0] ∧ Blk W (s + 3) 36 #[.int .i64 0] ∧ Below s w W ∧ Hid ((pre ≠ [] → 0 ≤ i - sumS pre) ∧ ∀ rest, L = pre ++ rest → nthF L i = nthF rest (i - sumS pre)))
   (fun c pre W => ((c = .ret ∧ Blk W (s + 2) 3 #[.int .i64 R.1] ∧ Blk W (s + 3) 36 #[.int .i64 R.2]) ∨ (c = .exit 0 ∧ Blk W (s + 2) 3 #[.int .i64 0] ∧ Blk W (s + 3) 36 #[.int .i64 0] ∧ Hid (R = (0, 7)))) ∧ Below s w W)
   (fun pre A B h hf => ⟨hf.blk h.1 (by rintro (h | h | h) <;> omega), hf.blk h.2.1 (by rintro (h | h | h) <;> omega), hf.blk h.2.2.1 (by rintro (h | h | h) <;> omega), h.2.2.2.1.trans (hf.below (Nat.le_trans (by omega) h.2.2.2.1.size) (fun k hk => by rintro (h | h | h) <;> omega)), h.2.2.2.2⟩)
   (fun c pre A B h hf => ⟨h.1.imp (fun h => ⟨h.1, hf.blk h.2.1 (by rintro (h | h | h) <;> omega), hf.blk h.2.2 (by rintro (h | h | h) <;> omega)⟩) (fun h => ⟨h.1, hf.blk h.2.1 (by rintro (h | h | h) <;> omega), hf.blk h.2.2.1 (by rintro (h | h | h) <;> omega), h.2.2.2⟩), h.2.trans (hf.below (Nat.le_trans (by omega) h.2.size) (fun k hk => by rintro (h | h | h) <;> omega))⟩)
   ⟨by simpa [sumS] using kI0, kO0, kE0, hB0, Lib.hid ⟨fun h => absurd rfl h, fun rest h => by rw [h]; simp [sumS]⟩⟩ ?assign ?body ?done ?stop
  case assign =>
   intro m l x W C hC
   simp only [List.setIfInBounds_toArray, List.set_cons_succ, List.set_cons_zero] at hC ⊢
   gi_wp2
   exact hC
  case body =>
   rintro m l pre x Bx Wa W hsz ⟨kI, kO, kE, hB, hH⟩ hpre hBx kx _ _ _
   simp only [List.setIfInBounds_toArray, List.set_cons_succ, List.set_cons_zero]
   have hvx := vld_iff.1 (hvl x (prefix_mem hpre (by simp)))
   have hsb := sumS_bound pre (fun y hy => hvl y (prefix_mem hpre (by simp [hy])))
   have hpl : pre.length ≤ 512 := by have := hpre.length_le; simp at this; omega
   have hsn := Lib.hid (sumS_snoc pre x)
   obtain ⟨rest, hrest⟩ := prefix_cons hpre
   have hN := Lib.hid (hH.out.2 _ hrest)
   have hN' := hN
   have hL1 := Lib.hid hrest
   have hv0 := hH.out.1
   clear hrest hpre hH
   obtain ⟨v, hv⟩ : ∃ v, i - sumS pre = v := ⟨_, rfl⟩
   rw [hv] at hN hv0 kI
   have hvb : -9223372036854775808 ≤ v ∧ v ≤ 9223372036854775807 := by
    by_cases h : pre = []
    ·subst h; simp [sumS] at hv; omega
    ·have := hv0 h; omega
   have hv' := Lib.hid hv
   clear hv hv0 hsb hi0 hi1
   obtain ⟨xa, xb⟩ := x
   dsimp only at kx hvx hsn
   have cx := kx.cell
   have cI := kI.cell
   have fI := kI.frozen
   have cO := kO.cell
   have fO := kO.frozen
   have cE := kE.cell
   have fE := kE.frozen
   by_cases h1 : v < 0
   ·have h1' : decide (v < 0) = true := by simpa using h1
    have hE : Hid (R = (0, 7)) := Lib.hid (by rw [← HR1.out, hN.out, nthF, if_pos h1])
    gi_wp2_with fail
    exact ⟨Far.refl _ _, .inr ⟨rfl, kO, kE, hE⟩, hB⟩
   ·have h1' : decide (v < 0) = false := by simpa using h1
    by_cases h2 : v < xb
    ·have h2' : decide (v < xb) = true := by simpa using h2
     have hE : Hid (R = (xa + v, 0)) := Lib.hid (by rw [← HR1.out, hN.out, nthF, if_neg h1, if_pos h2])
     gi_wp2_with fail
     obtain ⟨k2, k3, hf2⟩ := two_set (by omega) kO kE (.int .i64 (xa + v)) (.int .i64 0)
     exact ⟨hf2.mono fun k _ h => by omega, .inl ⟨rfl, by rw [hE.out]; exact k2, by rw [hE.out]; exact k3⟩, hB.trans (hf2.below (by have := hB.size; omega) (fun k hk => by omega))⟩
    ·have h2' : decide (v < xb) = false := by simpa using h2
     have hN2 := Lib.hid (nthF_step hN'.out (by rw [hv'.out]; exact h1) (by rw [hv'.out]; exact h2))
     gi_wp2_with fail
     have hf4 : Far (fun k => k = s + 1) W (W.setCell ⟨s + 1, 0, none⟩ (.int .i64 (v - xb))) := Far.setCell (T := fun k => k = s + 1) (p := ⟨s + 1, 0, none⟩) (Far.refl _ _) (fun _ => rfl) _
     refine ⟨hf4.mono fun k _ h => by omega, ?_, hf4.blk kO (by omega), hf4.blk kE (by omega), hB.trans (hf4.below (by have := hB.size; omega) (fun k hk => by omega)), ?_⟩
     ·rw [hsn.out, show i - (sumS pre + xb) = v - xb by have := hv'.out; omega]; exact kI.set_ 0 _
     ·refine Lib.hid ⟨fun _ => by rw [hsn.out]; have := hv'.out; omega, fun rest2 h => ?_⟩
      have hr2 : rest2 = rest := by rw [hL1.out] at h; simpa using h.symm
      rw [hr2]; exact hN2.out
  case done =>
   rintro W hsz ⟨kI, kO, kE, hB, hH⟩ hd
   rw [hs0] at hd hsz
   have hE : Hid (R = (0, 7)) := Lib.hid (by rw [← HR1.out, hH.out.2 [] (by simp)]; rfl)
   have cO := kO.cell
   have fO := kO.frozen
   have cE := kE.cell
   have fE := kE.frozen
   go_wp2_with fail
   obtain ⟨k2, k3, hf2⟩ := two_set (by omega) kO kE (.int .i64 0) (.int .i64 7)
   have hd2 := hf2.same hd (by omega)
   have hB2 := hB.trans (hf2.below (by have := hB.size; omega) (fun k hk => by omega))
   generalize ((W.setCell ⟨s + 2, 0, none⟩ (.int .i64 0)).setCell ⟨s + 3, 0, none⟩ (.int .i64 7)) = w5 at *
   rw [hs0]
   have hfp : Far (fun k => k = w1.heap.size + 1) w5 (World.putObj w5 (w1.heap.size + 1) (.deferred none)) := Far.putObj (T := fun k => k = w1.heap.size + 1) (Far.refl _ _) (fun _ => rfl) _
   have c6 := (hfp.blk k2 (by omega)).cell
   have c7 := (hfp.blk k3 (by omega)).cell
   exact leave_mark (v := .tuple #[.int .i64 (((0 : Int), (7 : Int))).1, .int .i64 (((0 : Int), (7 : Int))).2]) hd2 (by simp [results, Tryz.results65, go_sem, c6, c7]) ⟨by rw [hE.out], (by rw [hs]; exact (hB2).trans (hfp.below (by have := (hB2).size; omega) (fun k hk => by omega)))⟩
  case stop =>
   rintro c pre W hsz hpre ⟨⟨rfl, kO, kE⟩ | ⟨rfl, kO, kE, hE⟩, hB⟩ hd
   ·rw [hs0] at hd hsz
    go_wp2_with fail
    have hE : Hid (R = R) := Lib.hid rfl
    rw [hs0]
    have hfp : Far (fun k => k = w1.heap.size + 1) W (World.putObj W (w1.heap.size + 1) (.deferred none)) := Far.putObj (T := fun k => k = w1.heap.size + 1) (Far.refl _ _) (fun _ => rfl) _
    have c6 := (hfp.blk kO (by omega)).cell
    have c7 := (hfp.blk kE (by omega)).cell
    exact leave_mark (v := .tuple #[.int .i64 (R).1, .int .i64 (R).2]) hd (by simp [results, Tryz.results65, go_sem, c6, c7]) ⟨by rw [hE.out], (by rw [hs]; exact (hB).trans (hfp.below (by have := (hB).size; omega) (fun k hk => by omega)))⟩
   ·rw [hs0] at hd hsz
    have cO := kO.cell
    have fO := kO.frozen
    have cE := kE.cell
    have fE := kE.frozen
    go_wp2_with fail
    obtain ⟨k2, k3, hf2⟩ := two_set (by omega) kO kE (.int .i64 0) (.int .i64 7)
    have hd2 := hf2.same hd (by omega)
    have hB2 := hB.trans (hf2.below (by have := hB.size; omega) (fun k hk => by omega))
    generalize ((W.setCell ⟨s + 2, 0, none⟩ (.int .i64 0)).setCell ⟨s + 3, 0, none⟩ (.int .i64 7)) = w5 at *
    rw [hs0]
    have hfp : Far (fun k => k = w1.heap.size + 1) w5 (World.putObj w5 (w1.heap.size + 1) (.deferred none)) := Far.putObj (T := fun k => k = w1.heap.size + 1) (Far.refl _ _) (fun _ => rfl) _
    have c6 := (hfp.blk k2 (by omega)).cell
    have c7 := (hfp.blk k3 (by omega)).cell
    exact leave_mark (v := .tuple #[.int .i64 (((0 : Int), (7 : Int))).1, .int .i64 (((0 : Int), (7 : Int))).2]) hd2 (by simp [results, Tryz.results65, go_sem, c6, c7]) ⟨by rw [hE.out], (by rw [hs]; exact (hB2).trans (hfp.below (by have := (hB2).size; omega) (fun k hk => by omega)))⟩
end Go.Proofs.YtjmmgoijnhnnaaaGreat
namespace Go.Pol
def badHit (a m : Int) : Prop := a < 0 ∨ 65536 < a ∨ m < 1 ∨ 65536 - a < m
instance badHitDec (a m : Int) : Decidable (badHit a m) := by unfold badHit; infer_instance
def badLeast (u f b ev : Int) : Prop := u < 1 ∨ 1024 < u ∨ wrongG f b ev = true
instance badLeastDec (u f b ev : Int) : Decidable (badLeast u f b ev) := by unfold badLeast; infer_instance
theorem tab_size : Lib.len8tab.size = 256 := by decide +kernel
theorem tab_fin : ∀ i : Fin 256, ((Lib.len8tab[i.val]?).map UInt8.toNat).getD 0 = Lib.bitLen i.val := by decide +kernel
theorem tab_get (i : Nat) (h : i < Lib.len8tab.size) : (Lib.len8tab[i]'h).toNat = Lib.bitLen i := by
 have h2 : i < 256 := by rw [← tab_size]; exact h
 have := tab_fin ⟨i, h2⟩
 simpa [getElem?_pos Lib.len8tab i h] using this
end Go.Pol
namespace Go.Proofs.YtjmmgoijnhnnaaaGreat
open Go Go.Proofs Go.RowKit Go.Pol
set_option maxHeartbeats 4000000 in
set_option maxRecDepth 100000 in
theorem len64_any (x : Int) (w : World) (h0 : 0 ≤ x) (h1 : x ≤ 4000) :
  Calls Tryz.prog 231 #[.int .u64 x] w fun e w' => e = .returned (.int .i64 (Lib.bitLen x.toNat : Nat)) ∧ w = w' := by
 have q1 : decide (4294967296 ≤ x) = false := by simp; omega
 have q2 : decide (65536 ≤ x) = false := by simp; omega
 obtain ⟨L, hL⟩ : ∃ L : Int, ((Lib.bitLen x.toNat : Nat) : Int) = L := ⟨_, rfl⟩
 rw [hL]
 have hL' := Lib.hid hL
 clear hL
 by_cases hx : 256 ≤ x
 ·have q3 : decide (256 ≤ x) = true := by simpa using hx
  have hsz : (x / 256).toNat < Lib.len8tab.size := by rw [tab_size]; omega
  have hb := Lib.bitLen_le8' (x / 256) (by omega) (by omega)
  have hs := Lib.hid (Lib.bitLen_shift8 x.toNat (by omega) (by omega))
  have ht := Lib.hid (show (x / 256).toNat = x.toNat / 256 by omega)
  have hg := Lib.hid (tab_get (x / 256).toNat hsz)
  go_enter Tryz.func231, Tryz.ntmps231
  go_wp2
  go_ret
  simp only [Array.getD, List.size_toArray, List.length_cons, List.length_nil]
  refine ⟨?_, by first | trivial | rfl⟩
  simp
  rw [hg.out, ← hL'.out, hs.out, ← ht.out]
  simp only [wrap64]
  omega
 ·have q3 : decide (256 ≤ x) = false := by simpa using hx
  have hsz : x.toNat < Lib.len8tab.size := by rw [tab_size]; omega
  have hb := Lib.bitLen_le8' x (by omega) (by omega)
  have hg := Lib.hid (tab_get x.toNat hsz)
  go_enter Tryz.func231, Tryz.ntmps231
  go_wp2
  go_ret
  refine ⟨?_, by first | trivial | rfl⟩
  simp
  rw [hg.out, ← hL'.out]
  simp only [wrap64]
  omega
theorem len_any (x : Int) (w : World) (h0 : 0 ≤ x) (h1 : x ≤ 4000) :
  Calls Tryz.prog 207 #[.int .u64 x] w fun e w' => e = .returned (.int .i64 (Lib.bitLen x.toNat : Nat)) ∧ w = w' := by
 have HL := Lib.hid (fun W => len64_any x W h0 h1)
 generalize (Lib.bitLen x.toNat : Nat) = L at *
 go_enter Tryz.func207, Tryz.ntmps207
 go_wp2_with (go_at_call 231; refine (HL.out _).mono ?_; rintro e w' ⟨rfl, rfl⟩)
 go_ret
 exact ⟨rfl, rfl⟩
end Go.Proofs.YtjmmgoijnhnnaaaGreat
namespace Go.Pol
open Go Go.RowKit
theorem RU.on {w w' : World} {A : Option Addr} {us : List Sp} (h : RU w w.heap.size A us) (hb : Below w.heap.size w w') : RU w' w'.heap.size A us := (h.below hb).more hb.size
end Go.Pol
namespace Go.Proofs.YtjmmgoijnhnnaaaGreat
open Go Go.Proofs Go.RowKit Go.Pol
theorem sameT_any (A B : Option Addr) (n cap cap' : Nat) (xs ys : List Sp) (w : World) (hn : xs.length = n) (hm : n ≤ maxLen) (he : ys = xs) (hr : RU w w.heap.size A xs) (hs : RU w w.heap.size B ys) :
  Calls Tryz.prog 81 #[.slice A n cap, .slice B n cap'] w fun e w' => e = .returned (.bool true) ∧ Below w.heap.size w w' := by
 have h := same_any A B n n cap cap' xs ys w hn hm (by rw [he]; exact hn) hm hr hs
 rw [decide_eq_true he.symm] at h
 exact h
set_option maxHeartbeats 800000 in
theorem has_any (A : Option Addr) (n cap : Nat) (us : List Sp) (p q : Int) (w : World) (hn : us.length = n) (hm : n ≤ cap) (hc : cap ≤ maxLen) (hr : RU w w.heap.size A us) :
  Calls Tryz.prog 64 #[.slice A n cap, .agg #[.int .i64 p, .int .i64 q]] w fun e w' => e = .returned (.tuple #[.bool (decide (askS us (p, q) = 0) && (gapsF us (p, q)).isEmpty), .int .i64 (askS us (p, q))]) ∧ Below w.heap.size w w' := by
 have HA := Lib.hid (fun W (h : RU W W.heap.size A us) => ask_any A n cap us p q W hn (Nat.le_trans hm hc) h)
 have hb0 := (Below.refl w.heap.size w).alloc (Nat.le_refl _) (.cells #[.int .i64 p, .int .i64 q] 140)
 have k0 := Blk.new w 140 #[.int .i64 p, .int .i64 q]
 have c0 := k0.cell
 have hr0 := hr.on ((Below.refl w.heap.size w).alloc (Nat.le_refl _) (.cells #[.int .i64 p, .int .i64 q] 140))
 by_cases hz : askS us (p, q) = 0
 ·have hz' := hz
  unfold askS at hz'
  have hC : chkS us = 0 := by
   by_cases h : chkS us = 0
   ·exact h
   ·rw [if_neg h] at hz'; exact hz'
  rw [if_pos hC] at hz'
  have hv : vld (p, q) = true := by
   by_cases h : vld (p, q) = true
   ·exact h
   ·rw [if_neg h] at hz'; cases hz'
  have HG := Lib.hid (fun W (h : RU W W.heap.size A us) => gaps_any A n cap us p q W hn hm hc h (chkS_zero.1 hC) hv)
  rw [hz] at HA ⊢
  generalize hG : gapsF us (p, q) = G at *
  obtain ⟨gl, hgl⟩ : ∃ gl, G.length = gl := ⟨_, rfl⟩
  have hE : Hid (G.isEmpty = ((gl : Int) == 0)) := Lib.hid (by rw [← hgl]; cases G <;> simp; omega)
  rw [hgl] at HG
  clear hz hz' hC hv hgl hG
  go_enter Tryz.func64, Tryz.ntmps64
  go_wp2_with fail
  refine (HA.out _ hr0).mono ?_
  rintro e w1 ⟨rfl, hb1⟩
  have B1 := hb0.trans (hb1.mono hb0.size)
  have k1 := k0.call hb1
  have z1 := k1.cell
  have r1 := hr0.on hb1
  go_wp2_with fail
  refine (HG.out _ r1).mono ?_
  rintro e w2 ⟨A', cap', rfl, _, _, _, _, hb2⟩
  have B2 := B1.trans (hb2.mono B1.size)
  go_wp2_with fail
  go_ret2
  exact ⟨by rw [hE.out]; rfl, B2⟩
 ·obtain ⟨er, her⟩ : ∃ er, askS us (p, q) = er := ⟨_, rfl⟩
  rw [her] at HA hz ⊢
  have hz' : (er != 0) = true := by simpa using hz
  have hz2 : decide (er = 0) = false := by simpa using hz
  clear her hz
  go_enter Tryz.func64, Tryz.ntmps64
  go_wp2_with fail
  refine (HA.out _ hr0).mono ?_
  rintro e w1 ⟨rfl, hb1⟩
  have B1 := hb0.trans (hb1.mono hb0.size)
  go_wp2_with fail
  go_ret2
  exact ⟨by rw [hz2]; rfl, B1⟩
set_option maxHeartbeats 800000 in
theorem check2_any (A1 A2 : Option Addr) (n1 c1 n2 c2 : Nat) (us vs : List Sp) (B : Nat) (w : World) (hn1 : us.length = n1) (hm1 : n1 ≤ maxLen) (hr1 : RU w w.heap.size A1 us) (hn2 : vs.length = n2) (hm2 : n2 ≤ maxLen) (hr2 : RU w w.heap.size A2 vs)
  (kB : Blk w B 41 #[.slice A1 n1 c1, .slice A2 n2 c2]) :
  Calls Tryz.prog 117 #[.slice (some ⟨B, 0, none⟩) 2 2] w fun e w' => e = .returned (.int .i64 (if chkS us = 0 then chkS vs else chkS us)) ∧ Below w.heap.size w w' := by
 have H1 := Lib.hid (fun W (h : RU W W.heap.size A1 us) => spCheck_any A1 n1 c1 us W hn1 hm1 h)
 have H2 := Lib.hid (fun W (h : RU W W.heap.size A2 vs) => spCheck_any A2 n2 c2 vs W hn2 hm2 h)
 have hb0 := Below.refl w.heap.size w
 generalize chkS us = er1 at *
 generalize chkS vs = er2 at *
 obtain ⟨R, hR0⟩ : ∃ R : Int, (if er1 = 0 then er2 else er1) = R := ⟨_, rfl⟩
 rw [hR0]
 have hR := Lib.hid hR0
 clear hR0
 go_enter Tryz.func117, Tryz.ntmps117
 go_wp2_with fail
 go_loopw [8] (fun i wr => ∃ k : Nat, k ≤ 2 ∧ i = .int .i64 k ∧ Below w.heap.size w wr ∧ Hid ((1 ≤ k → er1 = 0) ∧ (2 ≤ k → er2 = 0))) (fun i _ => 2 - (intOf i).toNat)
 case atStart => exact ⟨0, by omega, rfl, hb0, Lib.hid ⟨fun h => by omega, fun h => by omega⟩⟩
 case round =>
  obtain ⟨k, hk, rfl, hB, hH⟩ := hrel
  have kW := kB.call hB
  have z0 := kW.cell
  have ra := hr1.on hB
  have rb := hr2.on hB
  rcases (show k = 0 ∨ k = 1 ∨ k = 2 by omega) with rfl | rfl | rfl
  ·go_wp2_with fail
   refine (H1.out _ ra).mono ?_
   rintro e w1 ⟨rfl, hb1⟩
   have B1 := hB.trans (hb1.mono hB.size)
   by_cases he : er1 = 0
   ·have he' : (er1 != 0) = false := by simpa using he
    have hH2 : Hid ((1 ≤ 1 → er1 = 0) ∧ (2 ≤ 1 → er2 = 0)) := Lib.hid ⟨fun _ => he, fun h => by omega⟩
    clear he
    go_wp2_with fail
    go_roundw
    case rel => exact ⟨1, by omega, by go_num, B1, hH2⟩
    case measure => simp [intOf]
   ·have he' : (er1 != 0) = true := by simpa using he
    have hE : Hid (R = er1) := Lib.hid (by rw [← hR.out, if_neg he])
    clear he
    go_wp2_with fail
    go_ret
    exact ⟨ret_int hE.out.symm, B1⟩
  ·have hz1 := Lib.hid (hH.out.1 (by omega))
   go_wp2_with fail
   refine (H2.out _ rb).mono ?_
   rintro e w1 ⟨rfl, hb1⟩
   have B1 := hB.trans (hb1.mono hB.size)
   by_cases he : er2 = 0
   ·have he' : (er2 != 0) = false := by simpa using he
    have hH2 : Hid ((1 ≤ 2 → er1 = 0) ∧ (2 ≤ 2 → er2 = 0)) := Lib.hid ⟨fun _ => hz1.out, fun _ => he⟩
    clear he
    go_wp2_with fail
    go_roundw
    case rel => exact ⟨2, by omega, by go_num, B1, hH2⟩
    case measure => simp [intOf]
   ·have he' : (er2 != 0) = true := by simpa using he
    have hE : Hid (R = er2) := Lib.hid (by rw [← hR.out, if_pos hz1.out])
    clear he
    go_wp2_with fail
    go_ret
    exact ⟨ret_int hE.out.symm, B1⟩
  ·have hE : Hid (R = 0) := Lib.hid (by rw [← hR.out, if_pos (hH.out.1 (by omega)), hH.out.2 (by omega)])
   go_wp2_with fail
   go_ret
   exact ⟨ret_int hE.out.symm, hB⟩
theorem commonN_len : ∀ (k : Nat) (a b : List Sp), (commonN k a b).length ≤ k
 | 0, a, b => by simp [commonN]
 | k + 1, a, b => by
  cases a with
  | nil => rw [commonN_nil]; simp
  | cons x a =>
   cases b with
   | nil => rw [commonN_nil']; simp
   | cons y b =>
    have h1 := commonN_len k a (y :: b)
    have h2 := commonN_len k (x :: a) b
    rw [commonN, List.length_append]
    split <;> split <;> simp only [List.length_cons, List.length_nil] <;> omega
theorem commonF_len (a b : List Sp) : (commonF a b).length ≤ a.length + b.length := commonN_len _ a b
theorem ru_lt {w : World} {B : Nat} {A : Option Addr} {us : List Sp} (h : RU w B A us) (h0 : us ≠ []) {b o : Nat} (e : A = some ⟨b, o, none⟩) : b < B := by
 obtain ⟨b', o', e', hb, _⟩ := RU.at_' h (k := 0) (by cases us with | nil => exact absurd rfl h0 | cons => simp)
 rw [e] at e'
 cases e'
 exact hb
end Go.Proofs.YtjmmgoijnhnnaaaGreat
namespace Go.Pol
open Go Go.RowKit
structure MarksAre (cs : Array Value) (f : Nat → Bool) : Prop where
 size : cs.size = 1024
 at_ : ∀ k, k < 1024 → cs[k]? = some (.bool (f k))
theorem spCells_set (r : List Sp) (x : Sp) (y : Int) : (spCells (r ++ [x])).set (r.length * 2 + 1) (.int .i64 y) = spCells (r ++ [(x.1, y)]) := by
 rw [spCells_snoc, spCells_snoc]
 have : r.length * 2 + 1 = (spCells r).length + 1 := by rw [spCells_len]
 rw [this, List.set_append_right _ _ (by omega)]
 simp
end Go.Pol
namespace Go.Proofs.YtjmmgoijnhnnaaaGreat
open Go Go.Proofs Go.RowKit Go.Pol
theorem isNaN_any (x : Int) (w : World) : Calls Tryz.prog 208 #[.int .i64 x] w fun e w' => e = .returned (.bool false) ∧ w' = w := by
 go_enter Tryz.func208, Tryz.ntmps208
 go_wp2
 go_ret
 exact ⟨by simp, rfl⟩
def cmpI (x y : Int) : Int := if x < y then -1 else if y < x then 1 else 0
theorem compare_any (x y : Int) (w : World) : Calls Tryz.prog 186 #[.int .i64 x, .int .i64 y] w fun e w' => e = .returned (.int .i64 (cmpI x y)) ∧ w' = w := by
 obtain ⟨R, hR0⟩ : ∃ R, cmpI x y = R := ⟨_, rfl⟩
 rw [hR0]
 have hR := Lib.hid hR0
 clear hR0
 by_cases h1 : x < y
 ·have h1' : decide (x < y) = true := by simpa using h1
  have hE : Hid (R = -1) := Lib.hid (by rw [← hR.out, cmpI, if_pos h1])
  clear h1
  go_enter Tryz.func186, Tryz.ntmps186
  go_wp2_with (go_at_call 208; refine (isNaN_any _ _).mono ?_; rintro e w' ⟨rfl, rfl⟩)
  go_ret
  exact ⟨ret_int hE.out.symm, rfl⟩
 ·have h1' : decide (x < y) = false := by simpa using h1
  by_cases h2 : y < x
  ·have h2' : decide (y < x) = true := by simpa using h2
   have hE : Hid (R = 1) := Lib.hid (by rw [← hR.out, cmpI, if_neg h1, if_pos h2])
   clear h1 h2
   go_enter Tryz.func186, Tryz.ntmps186
   go_wp2_with (go_at_call 208; refine (isNaN_any _ _).mono ?_; rintro e w' ⟨rfl, rfl⟩)
   go_ret
   exact ⟨ret_int hE.out.symm, rfl⟩
  ·have h2' : decide (y < x) = false := by simpa using h2
   have hE : Hid (R = 0) := Lib.hid (by rw [← hR.out, cmpI, if_neg h1, if_neg h2])
   clear h1 h2
   go_enter Tryz.func186, Tryz.ntmps186
   go_wp2_with (go_at_call 208; refine (isNaN_any _ _).mono ?_; rintro e w' ⟨rfl, rfl⟩)
   go_ret
   exact ⟨ret_int hE.out.symm, rfl⟩
theorem of1_any (x y : Sp) (w : World) : Calls Tryz.prog 185 #[.agg #[.int .i64 x.1, .int .i64 x.2], .agg #[.int .i64 y.1, .int .i64 y.2]] w fun e w' => e = .returned (.int .i64 (cmpI x.1 y.1)) ∧
  w' = (w.alloc (.cells #[.int .i64 x.1, .int .i64 x.2] 140)).alloc (.cells #[.int .i64 y.1, .int .i64 y.2] 140) := by
 have HC := Lib.hid (fun W => compare_any x.1 y.1 W)
 generalize cmpI x.1 y.1 = R at *
 go_enter Tryz.func185, Tryz.ntmps185
 go_wp2_with (go_at_call 186; refine (HC.out _).mono ?_; rintro e w' ⟨rfl, rfl⟩)
 go_ret
 exact ⟨rfl, rfl⟩
def joinF (xs : List Sp) (x : Sp) : List Sp :=
 match xs.getLast? with
 | none => [x]
 | some l => if x.1 ≤ l.1 + l.2 then xs.dropLast ++ [(l.1, max (l.1 + l.2) (x.1 + x.2) - l.1)] else xs ++ [x]
theorem joinF_nil (x : Sp) : joinF [] x = [x] := rfl
theorem joinF_snoc (pre : List Sp) (l x : Sp) : joinF (pre ++ [l]) x = if x.1 ≤ l.1 + l.2 then pre ++ [(l.1, max (l.1 + l.2) (x.1 + x.2) - l.1)] else pre ++ [l] ++ [x] := by simp [joinF]
set_option maxRecDepth 100000 in
set_option maxHeartbeats 1600000 in
theorem join_any (base : Nat) (v : Value) (xs : List Sp) (x : Sp) (w : World) (hx : (-100000 ≤ x.1 ∧ x.1 ≤ 50000) ∧ -100000 ≤ x.2 ∧ x.2 ≤ 50000) (hxs : ∀ y ∈ xs, (-100000 ≤ y.1 ∧ y.1 ≤ 50000) ∧ -100000 ≤ y.2 ∧ y.2 ≤ 50000) (hlen : xs.length ≤ 100000) (hbase : base ≤ w.heap.size)
  (hrow : w.ownsRow base 140 2 v xs.length (spCells xs)) :
  Calls Tryz.prog 187 #[v, .agg #[.int .i64 x.1, .int .i64 x.2]] w fun e w' => ∃ v', e = .returned v' ∧ w'.ownsRow base 140 2 v' (joinF xs x).length (spCells (joinF xs x)) ∧ Below base w w' := by
 obtain ⟨i0, hi, hz0, hz1, hz2⟩ := infoSp_parts
 obtain ⟨xa, xb⟩ := x
 simp only at hx ⊢
 have hb0 := (Below.refl w.heap.size w).alloc (Nat.le_refl _) (.cells #[.int .i64 xa, .int .i64 xb] 140)
 have k0 := Blk.new w 140 #[.int .i64 xa, .int .i64 xb]
 have c0 := k0.cell
 rcases List.eq_nil_or_concat xs with rfl | ⟨pre, l, rfl⟩
 ·obtain ⟨A, cap, rfl⟩ := own_nil_iff hrow rfl
  rw [joinF_nil]
  go_enter Tryz.func187, Tryz.ntmps187
  go_upto_region 2 with fail
  refine region_ext (by kernel_rfl) (by kernel_rfl) ?_
  repeat (go_big_quiet_step (fail))
  refine wpQuiet_nil ?_
  rintro w1 ⟨⟨_, hw1⟩, rfl⟩
  have B1 := hb0.trans (hw1.mono hb0.size)
  have k1 := k0.call hw1
  have c1 := k1.cell
  have kN := Blk.new w1 140 #[.int .i64 xa, .int .i64 xb]
  have hrow1 : w1.ownsRow base 140 2 (.slice A 0 cap) ([] : List Sp).length (spCells ([] : List Sp)) := ownsRow_call hrow B1
  go_wp2_with (refine wpList_append_own _ rfl (.tmp 43) (.tmp 45) 41 rfl base 140 i0 (.agg #[.int .i64 0, .int .i64 0]) 2 16 Tryz.underlying41 hi hz0 hz1 hz2 rfl (by decide) _ 0 (spCells ([] : List Sp)) rfl (hrow1.alloc _) ⟨w1.heap.size, 0, none⟩ 1 1 [.int .i64 xa, .int .i64 xb] rfl rfl (news_two kN) news_one2 (by unfold maxLen; omega) (by omega) (by have := B1.size; simp; omega) ?_; intro v' w3 hown' hgrow _)
  go_ret
  exact ⟨v', rfl, by simpa [spCells] using hown', ((B1.mono hbase).alloc (by have := B1.size; omega) _).grown hgrow (by have := B1.size; simp; omega) (fun j hj => (hrow1.lt j hj).1)⟩
 ·rw [List.concat_eq_append] at *
  rw [joinF_snoc]
  have hlx := hxs l (by simp)
  clear hxs
  obtain ⟨la, lb⟩ := l
  simp only at hlx ⊢
  rw [List.length_append, List.length_singleton] at hrow hlen
  have hrow0 := ownsRow_call hrow hb0
  obtain ⟨g, cap, rfl⟩ := ownsRow_succ hrow
  have hgb := hrow0.lt g rfl
  have hca : (w.alloc (.cells #[.int .i64 xa, .int .i64 xb] 140)).cell? ⟨g, pre.length * 2, none⟩ = some (.int .i64 la) := by
   rw [hrow0.cellAt _ (by omega), spCells_snoc, List.getElem?_append_right (by rw [spCells_len]; exact Nat.le_refl _), spCells_len]
   simp
  have hcb : (w.alloc (.cells #[.int .i64 xa, .int .i64 xb] 140)).cell? ⟨g, pre.length * 2 + 1, none⟩ = some (.int .i64 lb) := by
   rw [hrow0.cellAt _ (by omega), spCells_snoc, List.getElem?_append_right (by rw [spCells_len]; omega), spCells_len]
   simp
  obtain ⟨k, hk⟩ : ∃ k, pre.length = k := ⟨_, rfl⟩
  rw [hk] at hca hcb hlen ⊢
  have hk' := Lib.hid hk
  have hrow' := Lib.hid hrow
  clear hk hrow
  have q1 := fun z : Ext (w.alloc (.cells #[.int .i64 xa, .int .i64 xb] 140)) => z.cell hca
  have q2 := fun z : Ext (w.alloc (.cells #[.int .i64 xa, .int .i64 xb] 140)) => z.cell hcb
  have q3 := fun z : Ext (w.alloc (.cells #[.int .i64 xa, .int .i64 xb] 140)) => (z.blk k0).cell
  have C1 : Hid (∀ z : Ext (w.alloc (.cells #[.int .i64 xa, .int .i64 xb] 140)), Calls Tryz.prog 168 #[.agg #[.int .i64 la, .int .i64 lb]] z.w fun e w'' => e = .returned (.int .i64 (la + lb)) ∧ ∃ y : Ext (w.alloc (.cells #[.int .i64 xa, .int .i64 xb] 140)), w'' = y.w) := Lib.hid (fun z => Ext.call (end_any la lb _ (by omega) (by omega)))
  by_cases hle : xa ≤ la + lb
  ·have hle' : decide (xa ≤ la + lb) = true := by simpa using hle
   rw [if_pos hle]
   go_enter Tryz.func187, Tryz.ntmps187
   go_upto_region 2 with fail
   refine region_ext (by kernel_rfl) (by kernel_rfl) ?_
   repeat (go_big_quiet_step ((go_at_call 168; exact C1.out _)))
   refine wpQuiet_nil ?_
   rintro w1 ⟨⟨_, hw1⟩, rfl⟩
   have B1 := hb0.trans (hw1.mono hb0.size)
   have k1 := k0.call hw1
   have hg0 : g < (w.alloc (.cells #[.int .i64 xa, .int .i64 xb] 140)).heap.size := hgb.2
   have hca1 := (hw1.cell (p := ⟨g, k * 2, none⟩) hg0).trans hca
   have hcb1 := (hw1.cell (p := ⟨g, k * 2 + 1, none⟩) hg0).trans hcb
   clear q1 q2 q3 C1
   have q1 := fun z : Ext w1 => z.cell hca1
   have q2 := fun z : Ext w1 => z.cell hcb1
   have q3 := fun z : Ext w1 => (z.blk k1).cell
   have C1 : Hid (∀ z : Ext w1, Calls Tryz.prog 168 #[.agg #[.int .i64 la, .int .i64 lb]] z.w fun e w'' => e = .returned (.int .i64 (la + lb)) ∧ ∃ y : Ext w1, w'' = y.w) := Lib.hid (fun z => Ext.call (end_any la lb _ (by omega) (by omega)))
   have C2 : Hid (∀ z : Ext w1, Calls Tryz.prog 168 #[.agg #[.int .i64 xa, .int .i64 xb]] z.w fun e w'' => e = .returned (.int .i64 (xa + xb)) ∧ ∃ y : Ext w1, w'' = y.w) := Lib.hid (fun z => Ext.call (end_any xa xb _ (by omega) (by omega)))
   have hmx : -200000 ≤ max (la + lb) (xa + xb) ∧ max (la + lb) (xa + xb) ≤ 200000 := by omega
   go_upto_region 3 with fail
   refine region_ext_tail 19 (by kernel_rfl) (by kernel_rfl) ?_
   simp only [List.take_succ_cons, List.take_zero, List.drop_succ_cons, List.drop_zero]
   iterate 9 go_big_quiet_step ((go_at_call 168; exact C1.out _))
   repeat (go_big_quiet_step ((go_at_call 168; exact C2.out _)))
   refine wpQuiet_nil ?_
   intro z
   have hrz := ownsRow_call hrow'.out (B1.trans (z.le.mono B1.size))
   have hfz := hrz.frozenAt (k * 2 + 1)
   have hcz := z.cell hcb1
   obtain ⟨hst, hgr⟩ := hrz.stored (k * 2 + 1) (.int .i64 (max (la + lb) (xa + xb) - la))
   rw [← hk'.out, spCells_set, hk'.out] at hst
   go_wp2_with fail
   go_ret
   exact ⟨_, rfl, by simpa [hk'.out] using hst, ((B1.trans (z.le.mono B1.size)).mono hbase).grown hgr (by have := B1.size; have := z.le.size; omega) (fun j hj => by cases hj; exact hgb.1)⟩
  ·have hle' : decide (xa ≤ la + lb) = false := by simpa using hle
   rw [if_neg hle]
   go_enter Tryz.func187, Tryz.ntmps187
   go_upto_region 2 with fail
   refine region_ext (by kernel_rfl) (by kernel_rfl) ?_
   repeat (go_big_quiet_step ((go_at_call 168; exact C1.out _)))
   refine wpQuiet_nil ?_
   rintro w1 ⟨⟨_, hw1⟩, rfl⟩
   have B1 := hb0.trans (hw1.mono hb0.size)
   have k1 := k0.call hw1
   have c1 := k1.cell
   have kN := Blk.new w1 140 #[.int .i64 xa, .int .i64 xb]
   have hrow1 := ownsRow_call hrow'.out B1
   clear q1 q2 q3 C1
   go_wp2_with (refine wpList_append_own _ rfl (.tmp 43) (.tmp 45) 41 rfl base 140 i0 (.agg #[.int .i64 0, .int .i64 0]) 2 16 Tryz.underlying41 hi hz0 hz1 hz2 rfl (by decide) _ (k + 1) (spCells (pre ++ [(la, lb)])) rfl (by rw [← hk'.out]; exact hrow1.alloc _) ⟨w1.heap.size, 0, none⟩ 1 1 [.int .i64 xa, .int .i64 xb] rfl rfl (news_two kN) news_one2 (by unfold maxLen; omega) (by omega) (by have := B1.size; simp; omega) ?_; intro v' w3 hown' hgrow _)
   go_ret
   rw [← spCells_snoc (pre ++ [(la, lb)]) (xa, xb)] at hown'
   exact ⟨v', rfl, by simpa [hk'.out] using hown', ((B1.mono hbase).alloc (by have := B1.size; omega) _).grown hgrow (by have := B1.size; simp; omega) (fun j hj => (hrow1.lt j hj).1)⟩
end Go.Proofs.YtjmmgoijnhnnaaaGreat
namespace Go.Pol
open Go Go.RowKit
def pagesX (x : Sp) (j : Nat) : List Int := (List.range j).map fun (k : Nat) => x.1 + (k : Int)
theorem pagesOf_cons (x : Sp) (r : List Sp) : pagesOf (x :: r) = pagesX x x.2.toNat ++ pagesOf r := by simp [pagesOf, pagesX]
theorem pagesOf_len : ∀ (l : List Sp), (∀ x ∈ l, 0 ≤ x.2) → ((pagesOf l).length : Int) = sumS l
 | [], _ => by simp [pagesOf, sumS]
 | x :: r, h => by
  have ih := pagesOf_len r (fun y hy => h y (by simp [hy]))
  have hx := h x (by simp)
  rw [pagesOf_cons, List.length_append, show (pagesX x x.2.toNat).length = x.2.toNat by simp [pagesX]]
  simp only [sumS, List.map_cons, List.sum_cons] at ih ⊢
  omega
theorem take_snoc (us : List Sp) (k : Nat) (hk : k < us.length) : us.take (k + 1) = us.take k ++ [us.getD k (0,0)] := by
 rw [List.take_add_one, List.getElem?_eq_getElem hk]
 simp [List.getD_eq_getElem?_getD, hk]
end Go.Pol
namespace Go.Proofs.YtjmmgoijnhnnaaaGreat
open Go Go.Proofs Go.RowKit Go.Pol
def ofF (us : List Sp) : List Sp := us.foldl joinF []
theorem joinF_vld {xs : List Sp} {x : Sp} (hxs : ∀ y ∈ xs, vld y = true) (hx : vld x = true) : ∀ y ∈ joinF xs x, vld y = true := by
 rcases List.eq_nil_or_concat xs with rfl | ⟨pre, l, rfl⟩
 ·rw [joinF_nil]; simpa using hx
 ·rw [List.concat_eq_append] at *
  rw [joinF_snoc]
  have hl := vld_iff.1 (hxs l (by simp))
  have hx' := vld_iff.1 hx
  split
  ·intro y hy
   rcases List.mem_append.1 hy with h | h
   ·exact hxs y (by simp [h])
   ·simp only [List.mem_singleton] at h
    subst h
    exact vld_iff.2 (by simp only; omega)
  ·intro y hy
   rcases List.mem_append.1 hy with h | h
   ·exact hxs y h
   ·simp only [List.mem_singleton] at h
    subst h
    exact hx
theorem joinF_len (xs : List Sp) (x : Sp) : (joinF xs x).length ≤ xs.length + 1 := by
 rcases List.eq_nil_or_concat xs with rfl | ⟨pre, l, rfl⟩
 ·simp [joinF_nil]
 ·rw [List.concat_eq_append, joinF_snoc]
  split <;> simp
theorem ofF_snoc (us : List Sp) (x : Sp) : ofF (us ++ [x]) = joinF (ofF us) x := by simp [ofF]
set_option maxRecDepth 100000 in
set_option maxHeartbeats 1600000 in
theorem of_any (base : Nat) (v : Value) (us : List Sp) (w : World) (hv : ∀ y ∈ us, vld y = true) (hlen : us.length ≤ 100000) (hbase : base ≤ w.heap.size)
  (HS : Calls Tryz.prog 184 #[v, .func (.func 185) #[] #[]] w fun e w' => e = .returned (.tuple #[]) ∧ ∃ us' : List Sp, us'.Perm us ∧ us'.Pairwise (fun a b => a.1 ≤ b.1) ∧ w'.ownsRow base 140 2 v us.length (spCells us') ∧ Below base w w')
  (hrow : w.ownsRow base 140 2 v us.length (spCells us)) :
  Calls Tryz.prog 128 #[v] w fun e w' => ∃ (us' : List Sp) (v' : Value), us'.Perm us ∧ us'.Pairwise (fun a b => a.1 ≤ b.1) ∧ e = .returned v' ∧ w'.ownsRow w.heap.size 140 2 v' (ofF us').length (spCells (ofF us')) ∧ Below base w w' := by
 obtain ⟨A, cap, rfl⟩ := own_nil_iff hrow rfl
 go_enter Tryz.func128, Tryz.ntmps128
 go_wp2_with fail
 refine HS.mono ?_
 rintro e w1 ⟨rfl, us', hp, hs, hrow1, hb1⟩
 have hv' : ∀ y ∈ us', vld y = true := fun y hy => hv y (hp.mem_iff.1 hy)
 have hn := hp.length_eq
 obtain ⟨n, hn0⟩ : ∃ n, us.length = n := ⟨_, rfl⟩
 rw [hn0] at hrow1 hn hlen ⊢
 have hn' := Lib.hid hn
 clear hn hn0 HS hrow hv
 have hws := hb1.size
 have hb1s := hb1.size
 go_wp2_with fail
 go_loopw [3, 10] (fun v i wr => ∃ k : Nat, k ≤ n ∧ i = .int .i64 k ∧ wr.ownsRow w1.heap.size 140 2 v (ofF (us'.take k)).length (spCells (ofF (us'.take k))) ∧ Below w1.heap.size w1 wr ∧ Hid ((∀ y ∈ ofF (us'.take k), vld y = true) ∧ (ofF (us'.take k)).length ≤ k)) (fun _ i _ => n - (intOf i).toNat)
 case atStart => exact ⟨0, by omega, rfl, by simpa [ofF, spCells] using World.ownsRow_nil _ _ _ _, Below.refl _ _, Lib.hid ⟨by simp [ofF], by simp [ofF]⟩⟩
 case round =>
  obtain ⟨k, hk, rfl, hrow2, hB, hH⟩ := hrel
  by_cases hlt : k < n
  ·have hlt' : decide ((k : Int) < (n : Int)) = true := by simpa using hlt
   have hr := ownsRow_call hrow1 hB
   obtain ⟨g, cap', e, _⟩ := hr.form (by omega)
   cases e
   have hg := hrow1.lt g rfl
   have hca := hr.cellAt (k * 2) (by omega)
   have hcb := hr.cellAt (k * 2 + 1) (by omega)
   have hat := spCells_at us' k (by have := hn'.out; omega)
   rw [hat.1] at hca
   rw [hat.2] at hcb
   have hvx := hv' (us'.getD k (0,0)) (by rw [List.getD_eq_getElem?_getD, List.getElem?_eq_getElem (by have := hn'.out; omega)]; simp)
   have htk := Lib.hid (take_snoc us' k (by have := hn'.out; omega))
   clear hat hr
   generalize us'.getD k (0,0) = x at *
   have hxb := vld_iff.1 hvx
   have hstep : Hid (ofF (us'.take (k + 1)) = joinF (ofF (us'.take k)) x) := Lib.hid (by rw [htk.out, ofF_snoc])
   have hH2 : Hid ((∀ y ∈ joinF (ofF (us'.take k)) x, vld y = true) ∧ (joinF (ofF (us'.take k)) x).length ≤ k + 1) := Lib.hid ⟨joinF_vld hH.out.1 hvx, by have := joinF_len (ofF (us'.take k)) x; have := hH.out.2; omega⟩
   have HJ := Lib.hid (fun (W : World) (v : Value) (hW : w1.heap.size ≤ W.heap.size) (h : W.ownsRow w1.heap.size 140 2 v (ofF (us'.take k)).length (spCells (ofF (us'.take k)))) => join_any w1.heap.size v (ofF (us'.take k)) x W (by omega) (fun y hy => by have := vld_iff.1 (hH.out.1 y hy); omega) (by have := hH.out.2; omega) hW h)
   generalize ofF (us'.take k) = L at *
   obtain ⟨xa, xb⟩ := x
   dsimp only at hca hcb HJ
   clear htk hvx hxb hH
   have hBs := hB.size
   go_wp2_with fail
   refine (HJ.out _ _ (by simp; omega) (hrow2.alloc _)).mono ?_
   rintro e w2 ⟨v', rfl, hrow3, hb3⟩
   go_wp2_with fail
   go_roundw
   case rel => exact ⟨k + 1, by omega, by go_num, by rw [hstep.out]; exact hrow3, (hB.alloc hBs _).trans hb3, by rw [hstep.out]; exact hH2⟩
   case measure => simp [intOf]; omega
  ·obtain rfl : k = n := by omega
   have hlt' : decide ((k : Int) < (k : Int)) = false := by simp
   have hT : us'.take k = us' := List.take_of_length_le (by have := hn'.out; omega)
   rw [hT] at hrow2
   obtain ⟨A', cap', rfl⟩ := own_nil_iff hrow2 rfl
   go_wp2_with fail
   go_ret
   exact ⟨us', _, hp, hs, rfl, ownsRow_base hrow2 hws, hb1.trans (hB.mono (Nat.le_trans hbase hws))⟩
theorem joinF_law {L us : List Sp} {x : Sp} (hC : Go.Pol.Can L) (hm : ∀ q, mem q L = true ↔ mem q us = true) (hf : ∀ y ∈ L, ∃ u ∈ us, y.1 = u.1) (hx : vld x = true) (hle : ∀ u ∈ us, u.1 ≤ x.1) :
  Go.Pol.Can (joinF L x) ∧ (∀ q, mem q (joinF L x) = true ↔ mem q (us ++ [x]) = true) ∧ (∀ y ∈ joinF L x, ∃ u ∈ us ++ [x], y.1 = u.1) := by
 have hvx := vld_iff.1 hx
 rcases List.eq_nil_or_concat L with rfl | ⟨pre, l, rfl⟩
 ·rw [joinF_nil]
  refine ⟨Go.Pol.Can.one hx, fun q => ?_, fun y hy => ⟨x, by simp, by simp only [List.mem_singleton] at hy; rw [hy]⟩⟩
  rw [mem_one, mem_snoc, ← hm q, mem_nil]; simp
 ·rw [List.concat_eq_append] at *
  rw [joinF_snoc]
  obtain ⟨u, hu, hlu⟩ := hf l (by simp)
  have hlx := hle u hu
  have hvl := vld_iff.1 (hC.1 l (by simp))
  have hfo := (formOk_snoc _ _ _).1 hC.2
  by_cases h : x.1 ≤ l.1 + l.2
  ·rw [if_pos h]
   refine ⟨⟨?_, (formOk_snoc _ _ _).2 hfo⟩, fun q => ?_, fun y hy => ?_⟩
   ·intro y hy
    rcases List.mem_append.1 hy with h1 | h1
    ·exact hC.1 y (by simp [h1])
    ·simp only [List.mem_singleton] at h1
     subst h1
     exact vld_iff.2 (by simp only; omega)
   ·rw [mem_snoc, mem_snoc, ← hm q, mem_snoc]
    simp only
    constructor
    ·rintro (h1 | h1)
     ·exact .inl (.inl h1)
     ·by_cases h2 : q < l.1 + l.2
      ·exact .inl (.inr (by omega))
      ·exact .inr (by omega)
    ·rintro ((h1 | h1) | h1)
     ·exact .inl h1
     ·exact .inr (by omega)
     ·exact .inr (by omega)
   ·rcases List.mem_append.1 hy with h1 | h1
    ·obtain ⟨u', hu', e⟩ := hf y (by simp [h1])
     exact ⟨u', by simp [hu'], e⟩
    ·simp only [List.mem_singleton] at h1
     subst h1
     exact ⟨u, by simp [hu], hlu⟩
  ·rw [if_neg h]
   refine ⟨⟨?_, (formOk_snoc _ _ _).2 ⟨hC.2, ?_⟩⟩, fun q => ?_, fun y hy => ?_⟩
   ·intro y hy
    rcases List.mem_append.1 hy with h1 | h1
    ·exact hC.1 y h1
    ·simp only [List.mem_singleton] at h1
     subst h1; exact hx
   ·rw [lastE_snoc]; omega
   ·rw [mem_snoc, mem_snoc (l := us), ← hm q]
   ·rcases List.mem_append.1 hy with h1 | h1
    ·obtain ⟨u', hu', e⟩ := hf y h1
     exact ⟨u', by simp [hu'], e⟩
    ·simp only [List.mem_singleton] at h1
     subst h1
     exact ⟨y, by simp, rfl⟩
theorem foldl_law : ∀ (us L done : List Sp), Go.Pol.Can L → (∀ q, mem q L = true ↔ mem q done = true) → (∀ y ∈ L, ∃ u ∈ done, y.1 = u.1) → (∀ y ∈ us, vld y = true) → (∀ a ∈ done, ∀ b ∈ us, a.1 ≤ b.1) → us.Pairwise (fun a b => a.1 ≤ b.1) →
  Go.Pol.Can (us.foldl joinF L) ∧ ∀ q, mem q (us.foldl joinF L) = true ↔ mem q (done ++ us) = true
 | [], L, done, hC, hm, _, _, _, _ => ⟨hC, fun q => by simpa using hm q⟩
 | x :: us, L, done, hC, hm, hf, hv, hle, hp => by
  obtain ⟨h1, h2, h3⟩ := joinF_law hC hm hf (hv x (by simp)) (fun u hu => hle u hu x (by simp))
  have hp' := List.pairwise_cons.1 hp
  have h := foldl_law us (joinF L x) (done ++ [x]) h1 h2 h3 (fun y hy => hv y (by simp [hy])) (fun a ha b hb => by
   rcases List.mem_append.1 ha with h | h
   ·exact hle a h b (by simp [hb])
   ·simp only [List.mem_singleton] at h
    subst h; exact hp'.1 b hb) hp'.2
  refine ⟨h.1, fun q => ?_⟩
  rw [List.foldl_cons, h.2 q, List.append_assoc]; rfl
theorem ofF_law {us : List Sp} (hv : ∀ y ∈ us, vld y = true) (hp : us.Pairwise (fun a b => a.1 ≤ b.1)) : Go.Pol.Can (ofF us) ∧ ∀ q, mem q (ofF us) = true ↔ mem q us = true := by
 have h := foldl_law us [] [] ⟨by simp, rfl⟩ (fun q => Iff.rfl) (by simp) hv (by simp) hp
 exact ⟨h.1, fun q => by have := h.2 q; simpa [ofF] using this⟩
theorem mem_perm {us vs : List Sp} (h : us.Perm vs) (q : Int) : mem q us = mem q vs := by
 rw [Bool.eq_iff_iff]; simp only [mem, List.any_eq_true]
 exact ⟨fun ⟨x, hx, e⟩ => ⟨x, h.mem_iff.1 hx, e⟩, fun ⟨x, hx, e⟩ => ⟨x, h.mem_iff.2 hx, e⟩⟩
theorem ofF_set {us us' s : List Sp} (hv : ∀ y ∈ us, vld y = true) (hp : us'.Perm us) (hs : us'.Pairwise (fun a b => a.1 ≤ b.1)) (hC : Go.Pol.Can s) (hm : ∀ q, mem q s = true ↔ mem q us = true) : ofF us' = s := by
 have h := ofF_law (fun y hy => hv y (hp.mem_iff.1 hy)) hs
 exact h.1.eq hC fun q => by rw [Bool.eq_iff_iff, h.2 q, hm q, mem_perm hp]
end Go.Proofs.YtjmmgoijnhnnaaaGreat
namespace Go.Pol
open Go Go.RowKit
theorem MarksAre.set {cs : Array Value} {f g : Nat → Bool} (h : MarksAre cs f) (k : Nat) (hk : k < 1024) (b : Bool) (hb : g k = b) (hg : ∀ j, j ≠ k → g j = f j) : MarksAre (cs.setIfInBounds k (.bool b)) g :=
 ⟨by simp [h.size], fun j hj => by
  by_cases hjk : j = k
  ·subst hjk
   rw [Array.getElem?_setIfInBounds_self_of_lt (by rw [h.size]; exact hk), hb]
  ·rw [Array.getElem?_setIfInBounds_ne (Ne.symm hjk), hg j hjk]; exact h.at_ j hj⟩
end Go.Pol
namespace Go.Pol
open Go
theorem pagesX_cons (a c : Int) : ∀ (j : Nat), pagesX (a, c) (j + 1) = a :: pagesX (a + 1, c) j
 | j => by
  simp only [pagesX, List.range_succ_eq_map, List.map_cons, List.map_map]
  congr 1
  ·simp
  ·apply List.map_congr_left
   intro k _
   simp only [Function.comp]
   omega
theorem pagesX_get (x : Sp) (j i : Nat) (h : i < j) : (pagesX x j).getD i 0 = x.1 + (i : Int) := by
 simp [pagesX, List.getD_eq_getElem?_getD, h]
theorem pagesX_len (x : Sp) (j : Nat) : (pagesX x j).length = j := by simp [pagesX]
theorem getD_app_l (l r : List Int) (i : Nat) (h : i < l.length) : (l ++ r).getD i 0 = l.getD i 0 := by simp [List.getD_eq_getElem?_getD, List.getElem?_append_left h]
theorem getD_app_r (l r : List Int) (i : Nat) (h : l.length ≤ i) : (l ++ r).getD i 0 = r.getD (i - l.length) 0 := by simp [List.getD_eq_getElem?_getD, List.getElem?_append_right h]
def nthP (l : List Int) (i : Int) : Int × Int := if i < 0 ∨ (l.length : Int) ≤ i then (0, 7) else (l.getD i.toNat 0, 0)
theorem nthF_pages : ∀ (L : List Sp) (i : Int), (∀ x ∈ L, 1 ≤ x.2) → nthF L i = nthP (pagesOf L) i
 | [], i, _ => by simp [nthF, nthP, pagesOf]
 | x :: r, i, h => by
  have hx := h x (by simp)
  have ih := nthF_pages r (i - x.2) (fun y hy => h y (by simp [hy]))
  rw [nthF]
  by_cases h0 : i < 0
  ·rw [if_pos h0, nthP, if_pos (.inl h0)]
  rw [if_neg h0]
  have hl : (pagesOf (x :: r)).length = x.2.toNat + (pagesOf r).length := by rw [pagesOf_cons, List.length_append, pagesX_len]
  by_cases h1 : i < x.2
  ·rw [if_pos h1, nthP, if_neg (by rw [hl]; omega), pagesOf_cons, getD_app_l _ _ _ (by rw [pagesX_len]; omega), pagesX_get _ _ _ (by omega)]
   congr 1; omega
  ·rw [if_neg h1, ih, nthP, nthP]
   by_cases h2 : i - x.2 < 0 ∨ ((pagesOf r).length : Int) ≤ i - x.2
   ·rw [if_pos h2, if_pos (by rw [hl]; omega)]
   ·rw [if_neg h2, if_neg (by rw [hl]; omega), pagesOf_cons, getD_app_r _ _ _ (by rw [pagesX_len]; omega), pagesX_len]
    congr 2; omega
def idxL (page : Int) : Int → List Int → Int × Int
 | _, [] => (0, 4)
 | k, y :: r => if y = page then (k, 0) else idxL page (k + 1) r
theorem idxL_pagesX (page c : Int) (r : List Int) : ∀ (j : Nat) (a k : Int), idxL page k (pagesX (a, c) j ++ r) = if a ≤ page ∧ page < a + j then (k + (page - a), 0) else idxL page (k + j) r
 | 0, a, k => by rw [if_neg (by omega)]; simp [pagesX]
 | j + 1, a, k => by
  rw [pagesX_cons, List.cons_append, idxL, idxL_pagesX page c r j (a + 1) (k + 1)]
  by_cases h : a = page
  ·rw [if_pos h, if_pos (by omega)]; congr 1; omega
  ·rw [if_neg h]
   by_cases h2 : a + 1 ≤ page ∧ page < a + 1 + j
   ·rw [if_pos h2, if_pos (by omega)]; congr 1; omega
   ·rw [if_neg h2, if_neg (by omega)]; congr 1; omega
theorem idxF_pages (page : Int) : ∀ (L : List Sp) (k : Int), (∀ x ∈ L, 1 ≤ x.2) → idxF page k L = idxL page k (pagesOf L)
 | [], k, _ => rfl
 | x :: r, k, h => by
  obtain ⟨xa, xb⟩ := x
  have hx := h (xa, xb) (by simp)
  have ih := idxF_pages page r (k + xb) (fun y hy => h y (by simp [hy]))
  simp only at hx
  rw [idxF, pagesOf_cons]
  simp only
  rw [idxL_pagesX]
  by_cases h1 : xa ≤ page ∧ page < xa + xb
  ·rw [if_pos h1, if_pos (by omega)]; congr 1; omega
  ·rw [if_neg h1, if_neg (by omega), ih]; congr 1; omega
end Go.Pol
namespace Go.Proofs.YtjmmgoijnhnnaaaGreat
open Go Go.Proofs Go.RowKit Go.Pol
section
variable {pg n f b ev : Int}
theorem plan_vld (hp : PlanOk pg n f b ev) : vld (pg, n) = true := vld_iff.2 ⟨hp.pg0, hp.pg1, hp.n0, hp.n1⟩
theorem guards_set (hp : PlanOk pg n f b ev) : Go.Pol.Can (guardsF pg n f b ev) ∧ ∀ q, mem q (guardsF pg n f b ev) = true ↔ (pg ≤ q ∧ q < pg + n) ∧ mem q (runsL pg n f b ev) = false := by
 unfold guardsF
 rw [if_pos (chkG_zero.2 hp)]
 exact (runsL_can hp).gaps (plan_vld hp)
end
end Go.Proofs.YtjmmgoijnhnnaaaGreat
namespace Go.Pol
open Go Go.RowKit
structure Cr where
 pg : Int
 n : Int
 f : Int
 bk : Int
 ev : Int
 node : Int
 live : Int
 kept : List Sp
 cl : Bool
abbrev crC (r : Cr) (v : Value) : Array Value := #[.int .i64 r.pg, .int .i64 r.n, .int .i64 r.f, .int .i64 r.bk, .int .i64 r.ev, .int .i64 r.node, .int .i64 r.live, v, .bool r.cl]
def usC (r : Cr) : Int := if chkG r.pg r.n r.f r.bk r.ev = 0 then sumS (runsL r.pg r.n r.f r.bk r.ev) else 0
def lastC (l : List Sp) : Sp := l.getD (l.length - 1) (0, 0)
def chkCm (r : Cr) : Int :=
 if chkG r.pg r.n r.f r.bk r.ev ≠ 0 then chkG r.pg r.n r.f r.bk r.ev
 else if r.live < 0 ∨ usC r < r.live ∨ r.node < 0 ∨ 64 ≤ r.node then 7
 else if chkS r.kept ≠ 0 ∨ (r.cl = true ∧ (r.live ≠ 0 ∨ r.kept.length ≠ 0)) then 6
 else if 0 < r.kept.length ∧ ((r.kept.getD 0 (0, 0)).1 < r.live ∨ usC r < (lastC r.kept).1 + (lastC r.kept).2) then 6
 else 0
structure CrOk (r : Cr) : Prop where
 plan : PlanOk r.pg r.n r.f r.bk r.ev
 live0 : 0 ≤ r.live
 live1 : r.live ≤ usC r
 node : 0 ≤ r.node ∧ r.node < 64
 can : Can r.kept
 cl : r.cl = true → r.live = 0 ∧ r.kept = []
 low : ∀ x ∈ r.kept, r.live ≤ x.1 ∧ x.1 + x.2 ≤ usC r
theorem formOk_low : ∀ (s : List Sp) (e : Int), (∀ x ∈ s, 1 ≤ x.2) → formOk e s = true → ∀ x ∈ s, e < x.1
 | [], _, _, _, _, h => by cases h
 | y :: s, e, hw, hf, x, hx => by
  have h1 := formOk_cons.1 hf
  rcases List.mem_cons.1 hx with rfl | hx
  ·exact h1.1
  ·have := formOk_low s _ (fun z hz => hw z (by simp [hz])) h1.2 x hx
   have := hw y (by simp)
   omega
theorem can_first {x : Sp} {s : List Sp} (h : Can (x :: s)) : ∀ y ∈ x :: s, x.1 ≤ y.1 := fun y hy => by
 have hw : ∀ z ∈ x :: s, 1 ≤ z.2 := fun z hz => (vld_iff.1 (h.1 z hz)).2.2.1
 rcases List.mem_cons.1 hy with rfl | hy
 ·exact Int.le_refl _
 ·have := formOk_low s _ (fun z hz => hw z (by simp [hz])) (formOk_cons.1 h.2).2 y hy
  have := hw x (by simp)
  omega
theorem formOk_last : ∀ (s : List Sp) (e : Int), (∀ x ∈ s, 1 ≤ x.2) → formOk e s = true → ∀ x ∈ s, x.1 + x.2 ≤ (lastC s).1 + (lastC s).2
 | [], _, _, _, _, h => by cases h
 | [y], _, _, _, x, hx => by
  simp only [List.mem_singleton] at hx
  subst hx
  exact Int.le_refl _
 | y :: z :: s, e, hw, hf, x, hx => by
  have h1 := formOk_cons.1 hf
  have hl : lastC (y :: z :: s) = lastC (z :: s) := by
   unfold lastC
   simp only [List.length_cons, Nat.add_sub_cancel]
   rw [List.getD_cons_succ]
  rw [hl]
  rcases List.mem_cons.1 hx with rfl | hx
  ·have h2 := formOk_last (z :: s) _ (fun q hq => hw q (by simp only [List.mem_cons] at hq ⊢; exact .inr hq)) h1.2 z (by simp)
   have h3 := (formOk_cons.1 h1.2).1
   have := hw z (by simp)
   omega
  ·exact formOk_last (z :: s) _ (fun q hq => hw q (by simp only [List.mem_cons] at hq ⊢; exact .inr hq)) h1.2 x hx
theorem chkCm_zero {r : Cr} : chkCm r = 0 ↔ CrOk r := by
 unfold chkCm
 by_cases h1 : chkG r.pg r.n r.f r.bk r.ev = 0
 ·rw [if_neg (by simpa using h1)]
  have hp := chkG_zero.1 h1
  by_cases h2 : r.live < 0 ∨ usC r < r.live ∨ r.node < 0 ∨ 64 ≤ r.node
  ·rw [if_pos h2]
   exact ⟨fun h => by omega, fun h => by have := h.live0; have := h.live1; have := h.node; omega⟩
  ·rw [if_neg h2]
   by_cases h3 : chkS r.kept ≠ 0 ∨ (r.cl = true ∧ (r.live ≠ 0 ∨ r.kept.length ≠ 0))
   ·rw [if_pos h3]
    refine ⟨fun h => by omega, fun h => ?_⟩
    exfalso
    rcases h3 with h3 | ⟨h3, h4⟩
    ·exact h3 (chkS_zero.2 h.can)
    ·obtain ⟨h5, h6⟩ := h.cl h3
     rcases h4 with h4 | h4
     ·exact h4 h5
     ·rw [h6] at h4; exact h4 rfl
   ·rw [if_neg h3]
    have hc : Can r.kept := chkS_zero.1 (by
     by_cases hx : chkS r.kept = 0
     ·exact hx
     ·exact absurd (.inl hx) h3)
    have hcl : r.cl = true → r.live = 0 ∧ r.kept = [] := fun h => by
     constructor
     ·by_cases hx : r.live = 0
      ·exact hx
      ·exact absurd (.inr ⟨h, .inl hx⟩) h3
     ·by_cases hx : r.kept.length = 0
      ·exact List.eq_nil_of_length_eq_zero hx
      ·exact absurd (.inr ⟨h, .inr hx⟩) h3
    have hw : ∀ z ∈ r.kept, 1 ≤ z.2 := fun z hz => (vld_iff.1 (hc.1 z hz)).2.2.1
    have hfst : 0 < r.kept.length → ∀ x ∈ r.kept, (r.kept.getD 0 (0, 0)).1 ≤ x.1 := fun hl x hx => by
     match hk : r.kept, hl with
     | y :: s, _ =>
      rw [hk] at hx hc
      exact can_first hc x hx
    have hlst : ∀ x ∈ r.kept, x.1 + x.2 ≤ (lastC r.kept).1 + (lastC r.kept).2 := formOk_last r.kept _ hw hc.2
    have hm0 : 0 < r.kept.length → r.kept.getD 0 (0, 0) ∈ r.kept := fun hl => by rw [List.getD_eq_getElem?_getD, List.getElem?_eq_getElem hl]; exact List.getElem_mem hl
    have hml : 0 < r.kept.length → lastC r.kept ∈ r.kept := fun hl => by unfold lastC; rw [List.getD_eq_getElem?_getD, List.getElem?_eq_getElem (by omega)]; exact List.getElem_mem _
    by_cases h4 : 0 < r.kept.length ∧ ((r.kept.getD 0 (0, 0)).1 < r.live ∨ usC r < (lastC r.kept).1 + (lastC r.kept).2)
    ·rw [if_pos h4]
     refine ⟨fun h => by omega, fun h => ?_⟩
     exfalso
     have q1 := (h.low _ (hm0 h4.1)).1
     have q2 := (h.low _ (hml h4.1)).2
     rcases h4.2 with h5 | h5 <;> omega
    ·rw [if_neg h4]
     refine ⟨fun _ => ⟨hp, by omega, by omega, by omega, hc, hcl, fun x hx => ?_⟩, fun _ => rfl⟩
     have hl : 0 < r.kept.length := List.length_pos_of_mem hx
     have q1 := hfst hl x hx
     have q2 := hlst x hx
     have q3 : ¬ ((r.kept.getD 0 (0, 0)).1 < r.live ∨ usC r < (lastC r.kept).1 + (lastC r.kept).2) := fun h => h4 ⟨hl, h⟩
     omega
 ·rw [if_pos h1]
  exact ⟨fun h => absurd h h1, fun h => absurd (chkG_zero.2 h.plan) h1⟩
def belC (a b : Int) : List Sp := if b ≤ a then [] else [(a, b - a)]
def runsC (S : List Sp) : Int → List Sp → List (Int × Int × Int)
 | _, [] => []
 | m, u :: r => (commonF S [(m, u.2)]).map (fun x => (u.1 + x.1 - m, x.2, x.1)) ++ runsC S (m + u.2) r
def SeqX {α : Type} (P : Program) (g : Nat) (lb : Array Value) (encs : α → Array Value) (T K : Nat → Prop) (xs : List α) (w : World) : Prop :=
 ∀ (n l : Nat) (J Jx : (Nat → Prop) → List α → World → Prop) (W : World), Far (fun k => ¬ K k) w W →
  (∀ X pre A B, J X pre A → Far (fun k => T k ∨ X k) A B → J X pre B) → (∀ X pre A B, Jx X pre A → Far (fun k => T k ∨ X k) A B → Jx X pre B) →
  (∀ X X' pre A, J X pre A → (∀ k, X' k → X k ∨ A.heap.size ≤ k) → J X' pre A) →
  (∀ m X pre x W1, J X pre W1 → (∀ k, X k → k < W1.heap.size) → pre ++ [x] <+: xs → YieldAt Fence.wide m P l (encs x) W1 fun e W' =>
   (e = .returned (.bool true) ∧ J X (pre ++ [x]) W' ∧ Far (fun k => ¬ (K k ∨ X k)) W1 W') ∨ (e = .returned (.bool false) ∧ Jx X (pre ++ [x]) W')) →
  J (fun _ => False) [] W →
  CallsIn Fence.wide n P g (#[.func (.yield l) #[] #[]] ++ lb) W fun e W' => (∃ v, e = .returned v) ∧ ((∃ X, J X xs W') ∨ ∃ X pre, pre <+: xs ∧ Jx X pre W')
theorem SeqX.later {α : Type} {P : Program} {g : Nat} {lb : Array Value} {encs : α → Array Value} {T K : Nat → Prop} {xs : List α} {w w' : World}
  (h : SeqX P g lb encs T K xs w) (hw : Far (fun k => ¬ K k) w w') : SeqX P g lb encs T K xs w' :=
 fun n l J Jx W hW => h n l J Jx W (hw.trans hW)
end Go.Pol
