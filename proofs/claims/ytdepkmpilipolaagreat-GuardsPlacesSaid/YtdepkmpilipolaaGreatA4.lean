/- Merged texts. Walks of layer 6: slices.AppendSeq and slices.Collect over runs that a function value hands out. Words for a region whose operations come in an order of their own: an operation's value, its call; slots written and read. Walks of layer 6: Save's first statement, whose order of evaluation is open. Words for the comparison of arrays of integers, and of the bytes of a page. Walks: slices.Collect over a function value that goes through spans; the usable pages of a plan. Walks: the reference's set of marked pages. Plain laws on plans of guards: the runs of usable pages are a set; which pages they have; numbers of usable pages. Walks: the reference's list of the pages of a set. Walks of layer 6: Save. -/
import Derived.DeepKeys
import Derived.Maps.AppendAt
import Derived.Shelf.Abstract
import Derived.Great.BuildSlice
import Derived.Test.YtdepkmpilipolaaGreatA3
namespace Go.Pol
open Go Go.RowKit
theorem rnC_snoc (bs : List Rn) (x : Rn) : fl rnC (bs ++ [x]) = fl rnC bs ++ [.int .i64 x.1, .int .i64 x.2.1, .int .i64 x.2.2] := by rw [fl_append]; simp [fl, rnC]
theorem news_rn {w : World} {g : Nat} {t : TypeId} {a b c : Int} (h : Blk w g t #[.int .i64 a, .int .i64 b, .int .i64 c]) : ∀ (j : Nat) (u : Value), [Value.int .i64 a, Value.int .i64 b, Value.int .i64 c][j]? = some u → w.cell? ((⟨g, 0, none⟩ : Addr).add j) = some u := by
  intro j u hu
  rw [addr_add0, Nat.zero_add]
  rw [h.cell]
  simpa using hu
theorem news_oneR {a b c : Int} : ∀ u ∈ [Value.int .i64 a, Value.int .i64 b, Value.int .i64 c], u.oneCell' = true := by
  intro u hu
  simp only [List.mem_cons, List.not_mem_nil, or_false] at hu
  rcases hu with rfl | rfl | rfl <;> rfl
/-- a loop over runs whose variable lies in a box -/
theorem rangeXR {P : Program} {g : Operand} {ps : Array Tmp} {assign body : Code} {Q : Exit → Act → World → Prop} {a : Act} {w : World} (ib pb : Nat) (tE : TypeId)
    {gf : Nat} {lb : Array Value} (hg : a.eval g = .func (.func gf) #[] lb) (eg : ∀ args w, (callFunc gf args).run P w = .ok (.enter gf args) w)
    {T K : Nat → Prop} {xs : List Rn} (hseq : SeqX P gf lb rnA T K xs w) (hps : ps = #[pb])
    (hT : ∀ k, T k → k < w.heap.size) (hK : ∀ k, K k → k < w.heap.size)
    (I : (Nat → Prop) → List Rn → World → Prop) (Ix : Code → (Nat → Prop) → List Rn → World → Prop)
    (hI : ∀ X pre A B, I X pre A → Far (fun k => T k ∨ X k ∨ k = w.heap.size ∨ k = w.heap.size + 1) A B → I X pre B)
    (hIx : ∀ c X pre A B, Ix c X pre A → Far (fun k => T k ∨ X k ∨ k = w.heap.size ∨ k = w.heap.size + 1) A B → Ix c X pre B)
    (hnew : ∀ X X' pre A, I X pre A → (∀ k, X' k → X k ∨ A.heap.size ≤ k) → I X' pre A)
    (h0 : I (fun _ => False) [] w)
    (hassign : ∀ (m l : Nat) (x : Rn) (W : World) (C : Act → World → Prop),
      C { tmps := (a.tmps.setIfInBounds pb (rnV x)).setIfInBounds ib (.pointer (some ⟨W.heap.size, 0, none⟩)), defers := [] } (W.alloc (.cells #[.int .i64 x.1, .int .i64 x.2.1, .int .i64 x.2.2] tE)) →
      assign.wpIn (Fence.wide.inRound l) m P (Exit.then C (fun _ _ _ => False)) { tmps := a.tmps.setIfInBounds pb (rnV x), defers := [] } W)
    (hbody : ∀ (m l : Nat) (X : Nat → Prop) (pre : List Rn) (x : Rn) (Bx : Nat) (Wa W : World), w.heap.size + 2 ≤ W.heap.size → (∀ k, X k → k < Wa.heap.size ∧ k ≠ w.heap.size ∧ k ≠ w.heap.size + 1) → I X pre W → pre ++ [x] <+: xs → w.heap.size + 2 ≤ Bx → Blk W Bx tE #[.int .i64 x.1, .int .i64 x.2.1, .int .i64 x.2.2] → Wa.heap.size ≤ Bx →
      body.wpIn (Fence.wide.inRound l) m P (xPost w.heap.size K X I Ix (pre ++ [x]) W) { tmps := (a.tmps.setIfInBounds pb (rnV x)).setIfInBounds ib (.pointer (some ⟨Bx, 0, none⟩)), defers := [] } W)
    (hdone : ∀ (X : Nat → Prop) (W : World), w.heap.size + 2 ≤ W.heap.size → I X xs W → W.heap[w.heap.size]? = some (.deferred (some [])) → Q .normal { a with defers := markOf w.heap.size :: a.defers } W)
    (hstop : ∀ (c : Code) (X : Nat → Prop) (pre : List Rn) (W : World), w.heap.size + 2 ≤ W.heap.size → pre <+: xs → Ix c X pre W → W.heap[w.heap.size]? = some (.deferred (some [])) → c.wp P Q { a with defers := markOf w.heap.size :: a.defers } W) :
    (Code.rangeFunc g ps assign body).wp P Q a w := by
  subst hps
  refine rangeX hg eg hseq (fun _ => rfl) hT hK I Ix hI hIx hnew h0
    (fun N x a' W => ∃ Bx, N ≤ Bx ∧ w.heap.size + 2 ≤ Bx ∧ Blk W Bx tE #[.int .i64 x.1, .int .i64 x.2.1, .int .i64 x.2.2] ∧ a' = { tmps := (a.tmps.setIfInBounds pb (rnV x)).setIfInBounds ib (.pointer (some ⟨Bx, 0, none⟩)), defers := [] })
    (fun N x a' A B ⟨Bx, h0, h1, h2, h3⟩ hf => ⟨Bx, h0, h1, hf.blk h2 (by omega), h3⟩) ?_ ?_ hdone hstop
  · intro m l x W C hs hC
    have e : (#[pb].zip (rnA x)).foldl (fun t (p, v) => t.setIfInBounds p v) a.tmps = a.tmps.setIfInBounds pb (rnV x) := by simp [rnA]
    rw [e]
    exact hassign m l x W C (hC _ _ ((Far.refl _ W).alloc _) ⟨W.heap.size, Nat.le_refl _, hs, Blk.new _ _ _, rfl⟩)
  · rintro m l X pre x a' Wa W hs hX hi ⟨Bx, h0, h1, h2, rfl⟩ hpre _ _
    exact hbody m l X pre x Bx Wa W hs hX hi hpre h1 h2 h0
end Go.Pol
namespace Go.Proofs.YtdepkmpilipolaaGreat
open Go Go.Proofs Go.RowKit Go.Pol Go.Shelf
attribute [local go_sem] Oper.semAt_some Go.Pol.wide_fn Go.Pol.wide_depth Go.Pol.wide_fn' Go.Pol.wide_depth'

theorem infoRn : (Tryz.prog.info? 73).map (fun i => (i.zero, i.size, i.bytes)) = some (some (.agg #[.int .i64 0, .int .i64 0, .int .i64 0]), 3, 24) := by kernel_rfl
theorem infoRn_parts : ∃ i0, Tryz.prog.info? 73 = some i0 ∧ i0.zero = some (.agg #[.int .i64 0, .int .i64 0, .int .i64 0]) ∧ i0.size = 3 ∧ i0.bytes = 24 := by
  obtain ⟨i0, h⟩ := info_parts infoRn
  exact ⟨i0, h⟩
set_option maxRecDepth 100000 in
set_option maxHeartbeats 3200000 in
theorem appendSeqR_any (g : Nat) (lb : Array Value) (K : Nat → Prop) (xs : List Rn) (w : World) (hxs : xs.length ≤ 1000000)
    (hseq : SeqX Tryz.prog g lb rnA (fun _ => False) K xs w) (eg : ∀ args w, (callFunc g args).run Tryz.prog w = .ok (.enter g args) w) (hK : ∀ k, K k → k < w.heap.size) :
    Calls Tryz.prog 62 #[.slice none 0 0, .func (.func g) #[] lb] w fun e w' => ∃ v, e = .returned v ∧ w'.ownsRow w.heap.size 73 3 v xs.length (fl rnC xs) ∧ Below w.heap.size w w' := by
  obtain ⟨i0, hi, hz0, hz1, hz2⟩ := infoRn_parts
  obtain ⟨s, hs⟩ : ∃ s, w.heap.size = s := ⟨_, rfl⟩
  obtain ⟨W0, hW0⟩ : ∃ W0, w.alloc (.cells #[.slice none 0 0] 46) = W0 := ⟨_, rfl⟩
  have hs0 : W0.heap.size = s + 1 := by rw [← hW0, ← hs]; simp
  have kO : Blk W0 s 46 #[.slice none 0 0] := by rw [← hW0, ← hs]; exact Blk.new _ _ _
  have hb0 : Below s w W0 := by rw [← hW0, ← hs]; exact (Below.refl w.heap.size w).alloc (Nat.le_refl _) _
  have hF0 : Far (fun _ => False) w W0 := .of_below (by rw [hs]; exact hb0)
  have hW1 := Lib.hid hW0
  clear hW0
  refine calls_of_marks Tryz.func62 rfl ?_
  simp only [Tryz.ntmps62, List.size_toArray, List.length_cons, List.length_nil, Nat.reduceAdd, Nat.reduceSub, Array.replicate_succ, Array.replicate_zero, List.push_toArray, List.append_toArray, List.nil_append, List.cons_append]
  go_wp2_with fail
  rw [hW1.out]
  clear hW1
  have ls1 := kO.lt
  have hlen : ∀ (pre : List Rn) (x : Rn), pre ++ [x] <+: xs → pre.length < 1000000 := fun pre x h => by
    have := h.length_le
    simp at this
    omega
  refine rangeXR 5 7 73 (gf := g) (lb := lb) rfl eg (hseq.later (hF0.mono fun _ _ h => h.elim)) rfl (fun _ h => h.elim) (fun k h => by have := hK k h; omega)
    (fun X pre W => BoxX X W s 46 73 (s + 3) 3 pre.length (fl rnC pre) ∧ Below s w W ∧ ∀ k, X k → s ≤ k)
    (fun _ _ _ _ => False)
    (fun X pre A B h hf => ⟨h.1.far hf (by rintro (h | h | h | h) <;> first | exact h | exact h.elim | omega) (fun g hg => by rintro (h | h | h | h) <;> first | exact h | exact h.elim | omega),
      h.2.1.trans (hf.below (by rw [← hs]; exact h.2.1.size) (fun k hk => by rintro (h' | h' | h' | h'); exact h'; have := h.2.2 k h'; omega; omega; omega)), h.2.2⟩)
    (fun _ _ _ _ _ h _ => h.elim)
    (fun X X' pre A h hX => ⟨h.1.new hX, h.2.1, fun k hk => (hX _ hk).elim (h.2.2 k) (fun h' => by have := h.2.1.size; omega)⟩)
    ⟨⟨_, kO, World.ownsRow_nil _ _ _ _, id, fun _ _ => id⟩, hb0, fun _ h => h.elim⟩ ?assign ?body ?done (fun _ _ _ _ _ _ h _ => h.elim)
  case assign =>
    intro m l x W C hC
    obtain ⟨xn, xc, xl⟩ := x
    simp only [rnV, List.setIfInBounds_toArray, List.set_cons_succ, List.set_cons_zero] at hC ⊢
    gi_wp2
    exact hC
  case body =>
    rintro m l X pre x Bx Wa W hsz hXlt ⟨hbox, hB, hXs⟩ hpre hBx kx hBa
    simp only [List.setIfInBounds_toArray, List.set_cons_succ, List.set_cons_zero]
    have hlt := hlen pre x hpre
    obtain ⟨v, hv, hrow, hXB, hXg⟩ := hbox.ex
    obtain ⟨A', cap', rfl, _⟩ := own_Rd hrow
    obtain ⟨pl, hpl⟩ : ∃ pl, pre.length = pl := ⟨_, rfl⟩
    obtain ⟨xa, xo, xl⟩ := x
    dsimp only at kx
    have cx := kx.cell
    have cv := hv.cell
    have fv := hv.frozen
    have kN := Blk.new W 73 #[.int .i64 xa, .int .i64 xo, .int .i64 xl]
    have hXl2 : ∀ k, X k → k < W.heap.size := fun k hk => by have := (hXlt k hk).1; have := kx.lt; omega
    rw [hpl] at hrow hv cv hlt hXg
    gi_wp2_with (gi_at_builtin; refine wpListIn_append_x _ rfl (.tmp 8) (.tmp 10) 46 rfl (s + 3) 73 i0 (.agg #[.int .i64 0, .int .i64 0, .int .i64 0]) 3 24 Tryz.underlying46 hi hz0 hz1 hz2 rfl (by decide) _ pl (fl rnC pre) rfl (hrow.alloc _) ⟨W.heap.size, 0, none⟩ 1 1 [.int .i64 xa, .int .i64 xo, .int .i64 xl] rfl rfl (news_rn kN) news_oneR (by unfold maxLen; omega) (by omega) (by simp; omega) ?_; intro v' w1 hown' hgrow hblk; rw [← rnC_snoc pre (xa, xo, xl)] at hown'; obtain ⟨hv1, hb2, hf2⟩ := BoxX.appended hv (by decide) hrow hXB hXg hown' hgrow hblk hXl2; obtain ⟨A2, cap2, rfl, _⟩ := own_Rd hown'; have cv1 := hv1.cell; have fv1 := hv1.frozen)
    have hgx : ∀ g, (Value.slice A' pl cap').ownBlock = some g → s + 3 ≤ g ∧ ¬ X g := fun g hg => ⟨(hrow.lt g hg).1, hXg g hg⟩
    have hf3 := hf2 (fun k => k = s ∨ (Value.slice A' pl cap').ownBlock = some k) (.inl rfl) (fun g hg => .inr hg)
    refine ⟨hf3.mono fun k _ h => ?_, ?_, hB.trans (hf3.below (by have := hB.size; omega) fun k hk => ?_), hXs⟩
    · rintro (h' | h' | h' | h')
      · have := hK k h'
        rcases h with h | h
        · omega
        · have := hgx k h; omega
      · rcases h with h | h
        · exact hXB (h ▸ h')
        · exact (hgx k h).2 h'
      · rcases h with h | h
        · omega
        · have := hgx k h; omega
      · rcases h with h | h
        · omega
        · have := hgx k h; omega
    · rw [List.length_append, List.length_singleton, hpl]; exact hb2
    · rintro (h | h)
      · omega
      · have := hgx _ h; omega
  case done =>
    rintro X W hsz ⟨hbox, hB, hXs⟩ hd
    obtain ⟨v, hv, hrow, hXB, hXg⟩ := hbox.ex
    have cv := hv.cell
    obtain ⟨A', cap', rfl, _⟩ := own_Rd hrow
    rw [hs0] at hd hsz
    go_wp2_with fail
    rw [hs0]
    have hfp : Far (fun k => k = s + 1) W (W.putObj (s + 1) (.deferred none)) := Far.putObj (T := fun k => k = s + 1) (Far.refl _ _) (fun _ => rfl) _
    have hrow3 := ownsRow_far hrow hfp (fun g hg h => by have := (hrow.lt g hg).1; omega)
    exact leave_mark (v := .slice A' xs.length cap') hd (by simp [results, Tryz.results62, go_sem]) ⟨_, rfl, ownsRow_base hrow3 (by omega), by rw [hs]; exact hB.trans (hfp.below (by have := hB.size; omega) (fun k hk => by omega))⟩

theorem collectR_any (g : Nat) (lb : Array Value) (K : Nat → Prop) (xs : List Rn) (w : World) (hxs : xs.length ≤ 1000000)
    (hseq : SeqX Tryz.prog g lb rnA (fun _ => False) K xs w) (eg : ∀ args w, (callFunc g args).run Tryz.prog w = .ok (.enter g args) w) (hK : ∀ k, K k → k < w.heap.size) :
    Calls Tryz.prog 39 #[.func (.func g) #[] lb] w fun e w' => ∃ v, e = .returned v ∧ w'.ownsRow w.heap.size 73 3 v xs.length (fl rnC xs) ∧ Below w.heap.size w w' := by
  have HA := Lib.hid (appendSeqR_any g lb K xs w hxs hseq eg hK)
  go_enter Tryz.func39, Tryz.ntmps39
  go_wp2_with (go_at_call 62; refine (HA.out).mono ?_; rintro e w1 ⟨v, rfl, hown, hf⟩)
  go_ret
  exact ⟨v, rfl, hown, hf⟩
end Go.Proofs.YtdepkmpilipolaaGreat
namespace Go.Proofs.YtdepkmpilipolaaGreat
open Go Go.Proofs Go.RowKit Go.Pol

theorem wp_valU {P : Program} {o : Oper} {a : Act} {w w' : World} {v : Value} {K : Act → World → Prop} {Q : Exit → Act → World → Prop} (h : (execOp a.eval o).run P w = .ok (.value v) w') (hK : K (a.put o.dst v) w') : o.wp P a w K Q := by
  unfold Oper.wp; rw [h]; exact hK
theorem step_plainU {P : Program} {ops : Array Oper} {o : Oper} {a : Act} {w : World} {K : Act → World → Prop} {Q : Exit → Act → World → Prop} {E : Prop} (hg : o.guard = none) (h : o.wp P a w K Q) :
    if Region.wanted o (yielded ops a.tmps) = true then o.wp P a w K Q else E := by
  rw [if_pos (by simp [Region.wanted, hg])]; exact h
theorem putU (a : Act) (t : Nat) (x y : Value) : (a.put (some t) x).put (some t) y = a.put (some t) y := by simp [Act.put]
theorem swapU (a : Act) (t u : Nat) (x y : Value) (h : t ≠ u) : (a.put (some t) x).put (some u) y = (a.put (some u) y).put (some t) x := Act.put_comm a x y (fun d hd he => by cases hd; cases he; exact h rfl)
theorem evalU_same (a : Act) (t : Nat) (x : Value) (h : t < a.tmps.size) : (a.put (some t) x).eval (.tmp t) = x := by simp [Act.eval, Act.put, h]
theorem evalU_ne (a : Act) (t u : Nat) (x : Value) (h : t ≠ u) : (a.put (some t) x).eval (.tmp u) = a.eval (.tmp u) := Act.eval_put (fun d hd he => by cases hd; cases he; exact h rfl)
theorem sizeU (a : Act) (t : Nat) (x : Value) : (a.put (some t) x).tmps.size = a.tmps.size := by simp [Act.put]
/-- the operations of a region of a body, by its number -/
def regOpsU (n : Nat) : Code → Option (Array Oper)
  | .region id ops _ => if id = n then some ops else none
  | .seq a b => match regOpsU n a with
    | some l => some l
    | none => regOpsU n b
  | .block _ c => regOpsU n c
  | .loop c => regOpsU n c
  | .scope c => regOpsU n c
  | .cond _ a b => match regOpsU n a with
    | some l => some l
    | none => regOpsU n b
  | _ => none
/-- a call whose value depends on the world -/
theorem wp_enterV {P : Program} {o : Oper} {a : Act} {w w1 : World} {f : FuncId} {args : Array Value} {C : Value → World → Prop} {K : Act → World → Prop} {Q : Exit → Act → World → Prop} (h : (execOp a.eval o).run P w = .ok (.enter f args) w1)
    (hC : Calls P f args w1 fun e w' => ∃ v, e = .returned v ∧ C v w') (hK : ∀ v w', C v w' → K (a.put o.dst v) w') : o.wp P a w K Q := by
  unfold Oper.wp; rw [h]
  show Calls P f args w1 _
  refine hC.mono ?_
  rintro e w' ⟨v, rfl, hw⟩
  exact hK v w' hw
end Go.Proofs.YtdepkmpilipolaaGreat
namespace Go.Pol
open Go Go.RowKit
/-- the cells of a saved state -/
def stC (v1 v2 v3 v4 : Value) (cs hs : Nat → Int) : List Value := v1 :: v2 :: v3 :: rfC v4 cs hs
theorem stC_one {v1 v2 v3 v4 : Value} (h1 : v1.oneCell' = true) (h2 : v2.oneCell' = true) (h3 : v3.oneCell' = true) (h4 : v4.oneCell' = true) (cs hs : Nat → Int) : ∀ x ∈ stC v1 v2 v3 v4 cs hs, x.oneCell' = true := by
  intro x hx
  simp only [stC, List.mem_cons] at hx
  rcases hx with rfl | rfl | rfl | hx
  · exact h1
  · exact h2
  · exact h3
  · exact rfC_one h4 cs hs x hx
end Go.Pol
namespace Go.Proofs.YtdepkmpilipolaaGreat
open Go Go.Proofs Go.RowKit Go.Pol Go.Shelf
attribute [local go_sem] Oper.semAt_some Go.Pol.wide_fn Go.Pol.wide_depth Go.Pol.wide_fn' Go.Pol.wide_depth'

theorem wp_storeU {P : Program} {op : Oper} {a : Act} {w : World} {K : Act → World → Prop} {Q : Exit → Act → World → Prop} (ty : TypeId) (x y : Operand) (ho : op.op = .store ty x y) (hd : op.dst = none)
    (b o : Nat) (cells : Array Value) (hx : a.eval x = .pointer (some ⟨b, o, none⟩)) (hy : a.eval y = .agg cells)
    (ht : w.there b o cells.size) (hi : (P.info? ty).map (·.size) = some cells.size) (h1 : cells.all (·.oneCell') = true)
    (h : K a (w.setCells b o cells.toList)) : op.wp P a w K Q :=
  wp_store_mid ty x y ho b o cells hx hy ht hi h1 (by rw [hd]; exact h)
theorem infoSt : (Tryz.prog.info? 53).map (·.size) = some 18 := by kernel_rfl
def lpput (a : Act) (v10 v11 v12 v13 v14 v15 v16 v17 v3 : Value) : Act := ((((((((a.put (some 10) v10).put (some 11) v11).put (some 12) v12).put (some 13) v13).put (some 14) v14).put (some 15) v15).put (some 16) v16).put (some 17) v17).put (some 3) v3
theorem lp_self (a : Act) (hsz : 68 ≤ a.tmps.size) : lpput a (a.eval (.tmp 10)) (a.eval (.tmp 11)) (a.eval (.tmp 12)) (a.eval (.tmp 13)) (a.eval (.tmp 14)) (a.eval (.tmp 15)) (a.eval (.tmp 16)) (a.eval (.tmp 17)) (a.eval (.tmp 3)) = a := by
  have h : ∀ t : Nat, t < 68 → a.put (some t) (a.eval (.tmp t)) = a := fun t ht => by
    have : a.tmps.setIfInBounds t (a.eval (.tmp t)) = a.tmps := by
      apply Array.ext_getElem?
      intro i
      rw [Array.getElem?_setIfInBounds]
      split
      · rename_i e; subst e
        have : t < a.tmps.size := by omega
        simp [Act.eval, this]
      · rfl
    simp only [Act.put, this]
  unfold lpput
  rw [h 10 (by omega), h 11 (by omega), h 12 (by omega), h 13 (by omega), h 14 (by omega), h 15 (by omega), h 16 (by omega), h 17 (by omega), h 3 (by omega)]
section
variable (a : Act) (v10 v11 v12 v13 v14 v15 v16 v17 v3 x : Value)
theorem lp_10 : (lpput a v10 v11 v12 v13 v14 v15 v16 v17 v3).put (some 10) x = lpput a x v11 v12 v13 v14 v15 v16 v17 v3 := by
  unfold lpput
  rw [swapU _ 3 10 _ _ (by omega), swapU _ 17 10 _ _ (by omega), swapU _ 16 10 _ _ (by omega), swapU _ 15 10 _ _ (by omega), swapU _ 14 10 _ _ (by omega), swapU _ 13 10 _ _ (by omega), swapU _ 12 10 _ _ (by omega), swapU _ 11 10 _ _ (by omega), putU]
theorem lp_11 : (lpput a v10 v11 v12 v13 v14 v15 v16 v17 v3).put (some 11) x = lpput a v10 x v12 v13 v14 v15 v16 v17 v3 := by
  unfold lpput
  rw [swapU _ 3 11 _ _ (by omega), swapU _ 17 11 _ _ (by omega), swapU _ 16 11 _ _ (by omega), swapU _ 15 11 _ _ (by omega), swapU _ 14 11 _ _ (by omega), swapU _ 13 11 _ _ (by omega), swapU _ 12 11 _ _ (by omega), putU]
theorem lp_12 : (lpput a v10 v11 v12 v13 v14 v15 v16 v17 v3).put (some 12) x = lpput a v10 v11 x v13 v14 v15 v16 v17 v3 := by
  unfold lpput
  rw [swapU _ 3 12 _ _ (by omega), swapU _ 17 12 _ _ (by omega), swapU _ 16 12 _ _ (by omega), swapU _ 15 12 _ _ (by omega), swapU _ 14 12 _ _ (by omega), swapU _ 13 12 _ _ (by omega), putU]
theorem lp_13 : (lpput a v10 v11 v12 v13 v14 v15 v16 v17 v3).put (some 13) x = lpput a v10 v11 v12 x v14 v15 v16 v17 v3 := by
  unfold lpput
  rw [swapU _ 3 13 _ _ (by omega), swapU _ 17 13 _ _ (by omega), swapU _ 16 13 _ _ (by omega), swapU _ 15 13 _ _ (by omega), swapU _ 14 13 _ _ (by omega), putU]
theorem lp_14 : (lpput a v10 v11 v12 v13 v14 v15 v16 v17 v3).put (some 14) x = lpput a v10 v11 v12 v13 x v15 v16 v17 v3 := by
  unfold lpput
  rw [swapU _ 3 14 _ _ (by omega), swapU _ 17 14 _ _ (by omega), swapU _ 16 14 _ _ (by omega), swapU _ 15 14 _ _ (by omega), putU]
theorem lp_15 : (lpput a v10 v11 v12 v13 v14 v15 v16 v17 v3).put (some 15) x = lpput a v10 v11 v12 v13 v14 x v16 v17 v3 := by
  unfold lpput
  rw [swapU _ 3 15 _ _ (by omega), swapU _ 17 15 _ _ (by omega), swapU _ 16 15 _ _ (by omega), putU]
theorem lp_16 : (lpput a v10 v11 v12 v13 v14 v15 v16 v17 v3).put (some 16) x = lpput a v10 v11 v12 v13 v14 v15 x v17 v3 := by
  unfold lpput
  rw [swapU _ 3 16 _ _ (by omega), swapU _ 17 16 _ _ (by omega), putU]
theorem lp_17 : (lpput a v10 v11 v12 v13 v14 v15 v16 v17 v3).put (some 17) x = lpput a v10 v11 v12 v13 v14 v15 v16 x v3 := by
  unfold lpput
  rw [swapU _ 3 17 _ _ (by omega), putU]
theorem lp_3 : (lpput a v10 v11 v12 v13 v14 v15 v16 v17 v3).put (some 3) x = lpput a v10 v11 v12 v13 v14 v15 v16 v17 x := by
  unfold lpput
  rw [putU]
end
section
variable (a : Act) (hsz : 68 ≤ a.tmps.size) (v10 v11 v12 v13 v14 v15 v16 v17 v3 : Value)
include hsz
theorem lpev_10 : (lpput a v10 v11 v12 v13 v14 v15 v16 v17 v3).eval (.tmp 10) = v10 := by
  unfold lpput
  rw [evalU_ne _ 3 10 _ (by omega), evalU_ne _ 17 10 _ (by omega), evalU_ne _ 16 10 _ (by omega), evalU_ne _ 15 10 _ (by omega), evalU_ne _ 14 10 _ (by omega), evalU_ne _ 13 10 _ (by omega), evalU_ne _ 12 10 _ (by omega), evalU_ne _ 11 10 _ (by omega), evalU_same _ _ _ (by omega)]
theorem lpev_11 : (lpput a v10 v11 v12 v13 v14 v15 v16 v17 v3).eval (.tmp 11) = v11 := by
  unfold lpput
  rw [evalU_ne _ 3 11 _ (by omega), evalU_ne _ 17 11 _ (by omega), evalU_ne _ 16 11 _ (by omega), evalU_ne _ 15 11 _ (by omega), evalU_ne _ 14 11 _ (by omega), evalU_ne _ 13 11 _ (by omega), evalU_ne _ 12 11 _ (by omega), evalU_same _ _ _ (by rw [sizeU]; omega)]
theorem lpev_12 : (lpput a v10 v11 v12 v13 v14 v15 v16 v17 v3).eval (.tmp 12) = v12 := by
  unfold lpput
  rw [evalU_ne _ 3 12 _ (by omega), evalU_ne _ 17 12 _ (by omega), evalU_ne _ 16 12 _ (by omega), evalU_ne _ 15 12 _ (by omega), evalU_ne _ 14 12 _ (by omega), evalU_ne _ 13 12 _ (by omega), evalU_same _ _ _ (by rw [sizeU, sizeU]; omega)]
theorem lpev_13 : (lpput a v10 v11 v12 v13 v14 v15 v16 v17 v3).eval (.tmp 13) = v13 := by
  unfold lpput
  rw [evalU_ne _ 3 13 _ (by omega), evalU_ne _ 17 13 _ (by omega), evalU_ne _ 16 13 _ (by omega), evalU_ne _ 15 13 _ (by omega), evalU_ne _ 14 13 _ (by omega), evalU_same _ _ _ (by rw [sizeU, sizeU, sizeU]; omega)]
theorem lpev_14 : (lpput a v10 v11 v12 v13 v14 v15 v16 v17 v3).eval (.tmp 14) = v14 := by
  unfold lpput
  rw [evalU_ne _ 3 14 _ (by omega), evalU_ne _ 17 14 _ (by omega), evalU_ne _ 16 14 _ (by omega), evalU_ne _ 15 14 _ (by omega), evalU_same _ _ _ (by rw [sizeU, sizeU, sizeU, sizeU]; omega)]
theorem lpev_15 : (lpput a v10 v11 v12 v13 v14 v15 v16 v17 v3).eval (.tmp 15) = v15 := by
  unfold lpput
  rw [evalU_ne _ 3 15 _ (by omega), evalU_ne _ 17 15 _ (by omega), evalU_ne _ 16 15 _ (by omega), evalU_same _ _ _ (by rw [sizeU, sizeU, sizeU, sizeU, sizeU]; omega)]
theorem lpev_16 : (lpput a v10 v11 v12 v13 v14 v15 v16 v17 v3).eval (.tmp 16) = v16 := by
  unfold lpput
  rw [evalU_ne _ 3 16 _ (by omega), evalU_ne _ 17 16 _ (by omega), evalU_same _ _ _ (by rw [sizeU, sizeU, sizeU, sizeU, sizeU, sizeU]; omega)]
theorem lpev_17 : (lpput a v10 v11 v12 v13 v14 v15 v16 v17 v3).eval (.tmp 17) = v17 := by
  unfold lpput
  rw [evalU_ne _ 3 17 _ (by omega), evalU_same _ _ _ (by rw [sizeU, sizeU, sizeU, sizeU, sizeU, sizeU, sizeU]; omega)]
theorem lpev_3 : (lpput a v10 v11 v12 v13 v14 v15 v16 v17 v3).eval (.tmp 3) = v3 := by
  unfold lpput
  rw [evalU_same _ _ _ (by rw [sizeU, sizeU, sizeU, sizeU, sizeU, sizeU, sizeU, sizeU]; omega)]
omit hsz in
theorem lpev_0 : (lpput a v10 v11 v12 v13 v14 v15 v16 v17 v3).eval (.tmp 0) = a.eval (.tmp 0) := by
  unfold lpput
  rw [evalU_ne _ 3 0 _ (by omega), evalU_ne _ 17 0 _ (by omega), evalU_ne _ 16 0 _ (by omega), evalU_ne _ 15 0 _ (by omega), evalU_ne _ 14 0 _ (by omega), evalU_ne _ 13 0 _ (by omega), evalU_ne _ 12 0 _ (by omega), evalU_ne _ 11 0 _ (by omega), evalU_ne _ 10 0 _ (by omega)]
end

noncomputable def saveOps : Array Oper := (Tryz.f12.body.bind (regOpsU 3)).getD #[]
/-- the value of the closure that goes through the runs -/
def clR (B1 : Nat) : Value := .func (.func 63) #[] #[.pointer (some ⟨B1, 0, none⟩)]
def SaveInv (a0 : Act) (w0 : World) (b : Nat) (V : Vm) (rv : Value) (D : Nat → Bool) (a : Act) (w : World) : Prop :=
  ∃ (v10 v11 v12 v13 v14 v15 v16 v17 v3 : Value) (B1 s3 : Nat), a = lpput a0 v10 v11 v12 v13 v14 v15 v16 v17 v3 ∧ Below w0.heap.size w0 w ∧ (D 0 = true → v10 = .pointer (some ⟨b, 0, none⟩)) ∧
    (D 1 = true → v11 = clR B1 ∧ w0.heap.size ≤ B1 ∧ Blk w B1 34 #[.pointer (some ⟨b, 0, none⟩)]) ∧
    (D 2 = true → w.ownsRow w0.heap.size 73 3 v12 (vrunsL V 1024).length (fl rnC (vrunsL V 1024))) ∧
    (D 3 = true → v13 = .pointer (some ⟨b, 0, none⟩)) ∧ (D 4 = true → v14 = .pointer (some ⟨b, 0, none⟩)) ∧ (D 5 = true → v15 = .pointer (some ⟨b, 67585, none⟩)) ∧ (D 6 = true → v16 = rfV rv V.rf.calls V.rf.hits) ∧
    (D 7 = true → v17 = .agg (stC v12 (.slice none 0 0) (.slice none 0 0) rv V.rf.calls V.rf.hits).toArray) ∧
    (D 8 = true → v3 = .pointer (some ⟨s3, 0, none⟩) ∧ w0.heap.size ≤ s3 ∧ Blk w s3 53 (if D 9 = true then (stC v12 (.slice none 0 0) (.slice none 0 0) rv V.rf.calls V.rf.hits).toArray else (stC (.slice none 0 0) (.slice none 0 0) (.slice none 0 0) (.slice none 0 0) (fun _ => 0) (fun _ => 0)).toArray)) ∧
    (D 9 = true → D 8 = true ∧ D 7 = true) ∧ (D 7 = true → D 2 = true ∧ D 6 = true)
attribute [local irreducible] Oper.wp in
set_option maxHeartbeats 3200000 in
theorem save_first {Q : Exit → Act → World → Prop} (a0 : Act) (w0 : World) (b : Nat) (cs : Array Value) (V : Vm) (A : Option Addr) (n cap : Nat) (hsz : 68 ≤ a0.tmps.size) (hp0 : a0.eval (.tmp 0) = .pointer (some ⟨b, 0, none⟩))
    (kS : Blk w0 b 85 cs) (hc : SysC cs (.slice A n cap) V)
    (hQ : ∀ (B1 s3 : Nat) (v12 : Value) (w' : World), w0.heap.size ≤ s3 → Blk w' s3 53 (stC v12 (.slice none 0 0) (.slice none 0 0) (.slice A n cap) V.rf.calls V.rf.hits).toArray → w'.ownsRow w0.heap.size 73 3 v12 (vrunsL V 1024).length (fl rnC (vrunsL V 1024)) → Below w0.heap.size w0 w' →
      Q .normal (lpput a0 (.pointer (some ⟨b, 0, none⟩)) (clR B1) v12 (.pointer (some ⟨b, 0, none⟩)) (.pointer (some ⟨b, 0, none⟩)) (.pointer (some ⟨b, 67585, none⟩)) (rfV (.slice A n cap) V.rf.calls V.rf.hits) (.agg (stC v12 (.slice none 0 0) (.slice none 0 0) (.slice A n cap) V.rf.calls V.rf.hits).toArray) (.pointer (some ⟨s3, 0, none⟩))) w') :
    (Code.region 3 saveOps true).wp Tryz.prog Q a0 w0 := by
  conv => arg 2; arg 2; whnf
  have hbl := kS.lt
  refine region_inv (SaveInv a0 w0 b V (.slice A n cap)) (by kernel_rfl) (by simp [edgesDown, Region.binds]) ?ext ?start ?steps ?fin
  case ext =>
    intro D D' a w h hI
    have e : ∀ i, i < 10 → D i = D' i := h
    have : SaveInv a0 w0 b V (.slice A n cap) D a w = SaveInv a0 w0 b V (.slice A n cap) D' a w := by
      unfold SaveInv
      simp only [e 0 (by omega), e 1 (by omega), e 2 (by omega), e 3 (by omega), e 4 (by omega), e 5 (by omega), e 6 (by omega), e 7 (by omega), e 8 (by omega), e 9 (by omega)]
    exact this ▸ hI
  case start =>
    intro D h
    have n : ∀ i, i < 10 → ¬ (D i = true) := fun i hi => by rw [h i hi]; decide
    exact ⟨_, _, _, _, _, _, _, _, _, 0, 0, (lp_self a0 hsz).symm, (Below.refl _ w0).drew, fun h => absurd h (n 0 (by omega)), fun h => absurd h (n 1 (by omega)), fun h => absurd h (n 2 (by omega)), fun h => absurd h (n 3 (by omega)), fun h => absurd h (n 4 (by omega)), fun h => absurd h (n 5 (by omega)), fun h => absurd h (n 6 (by omega)), fun h => absurd h (n 7 (by omega)), fun h => absurd h (n 8 (by omega)), fun h => absurd h (n 9 (by omega)), fun h => absurd h (n 7 (by omega))⟩
  case fin =>
    rintro a w ⟨v10, v11, v12, v13, v14, v15, v16, v17, v3, B1, s3, rfl, hb, h0, h1, h2, h3, h4, h5, h6, h7, h8, _, _⟩
    obtain rfl := h0 rfl
    obtain ⟨rfl, _, _⟩ := h1 rfl
    obtain rfl := h3 rfl
    obtain rfl := h4 rfl
    obtain rfl := h5 rfl
    obtain rfl := h6 rfl
    obtain rfl := h7 rfl
    obtain ⟨rfl, g8, k8⟩ := h8 rfl
    simp only [if_true] at k8
    exact hQ B1 s3 v12 w g8 k8 (h2 rfl) hb
  case steps =>
    refine ⟨?_, ?_, ?_, ?_, ?_, ?_, ?_, ?_, ?_, ?_, trivial⟩
    all_goals (rintro D a w ⟨v10, v11, v12, v13, v14, v15, v16, v17, v3, B1, s3, rfl, hb, h0, h1, h2, h3, h4, h5, h6, h7, h8, h98, h76⟩ hk he)
    all_goals (refine step_plainU rfl ?_)
    · refine wp_valU (v := .pointer (some ⟨b, 0, none⟩)) (w' := w) (by simp only [execOp, lpev_0, hp0]; simp [go_sem]) ?_
      show SaveInv a0 w0 b V (.slice A n cap) _ ((lpput a0 v10 v11 v12 v13 v14 v15 v16 v17 v3).put (some 10) _) _; rw [lp_10]
      refine ⟨_, _, _, _, _, _, _, _, _, B1, s3, rfl, hb, ?_⟩
      simp only [Nat.reduceBEq, Bool.true_or, Bool.false_or, forall_const]
      exact ⟨trivial, h1, h2, h3, h4, h5, h6, h7, h8, h98, h76⟩
    · have e := h0 (he ⟨0, .data⟩ (by simp) rfl)
      have ev' : (lpput a0 v10 v11 v12 v13 v14 v15 v16 v17 v3).tmps[10]?.getD undef = .pointer (some ⟨b, 0, none⟩) := by
        have := (lpev_10 a0 hsz v10 v11 v12 v13 v14 v15 v16 v17 v3).trans e
        simpa [Act.eval] using this
      refine wp_enterV (f := 40) (args := #[.pointer (some ⟨b, 0, none⟩)]) (w1 := w) (C := fun v w' => v = clR w.heap.size ∧ w' = w.alloc (.cells #[.pointer (some ⟨b, 0, none⟩)] 34)) (by simp only [execOp]; simp [go_sem, ev']) ((vruns_any b w).mono fun e w' ⟨h1, h2⟩ => ⟨_, h1, rfl, h2⟩) ?_
      rintro v w' ⟨rfl, rfl⟩
      show SaveInv a0 w0 b V (.slice A n cap) _ ((lpput a0 v10 v11 v12 v13 v14 v15 v16 v17 v3).put (some 11) _) _; rw [lp_11]
      refine ⟨_, _, _, _, _, _, _, _, _, w.heap.size, s3, rfl, hb.alloc hb.size _, ?_⟩
      simp only [Nat.reduceBEq, Nat.reduceAdd, Bool.true_or, Bool.false_or, forall_const]
      have hbA := (Below.refl w.heap.size w).alloc (Nat.le_refl _) (.cells #[.pointer (some ⟨b, 0, none⟩)] 34)
      exact ⟨h0, ⟨trivial, hb.size, Blk.new _ _ _⟩, fun d => ownsRow_call (h2 d) hbA, h3, h4, h5, h6, h7, fun d => ⟨(h8 d).1, (h8 d).2.1, (h8 d).2.2.call hbA⟩, h98, h76⟩
    · obtain ⟨rfl, g1, k1⟩ := h1 (he ⟨1, .data⟩ (by simp) rfl)
      have ev' : (lpput a0 v10 (clR B1) v12 v13 v14 v15 v16 v17 v3).tmps[11]?.getD undef = clR B1 := by
        have := lpev_11 a0 hsz v10 (clR B1) v12 v13 v14 v15 v16 v17 v3
        simpa [Act.eval] using this
      have hd7 : D 7 = false := by cases h : D 7 with | false => rfl | true => rw [(h76 h).1] at hk; cases hk
      have hd9 : D 9 = false := by
        cases h : D 9 with
        | false => rfl
        | true => rw [(h98 h).2] at hd7; cases hd7
      refine wp_enterV (f := 39) (args := #[clR B1]) (w1 := w) (C := fun v w' => w'.ownsRow w.heap.size 73 3 v (vrunsL V 1024).length (fl rnC (vrunsL V 1024)) ∧ Below w.heap.size w w') (by simp only [execOp]; simp [go_sem, ev']) ((collectR_any _ _ (fun k => k = b ∨ k = B1) (vrunsL V 1024) w (Nat.le_trans (vrunsL_len V 1024) (by omega)) (vruns1_seq b B1 V cs _ _ w (.inl rfl) (.inr rfl) k1 (kS.call hb) hc) vruns1_enters (fun k hk => hk.elim (fun h => by rw [h]; exact Nat.lt_of_lt_of_le hbl hb.size) (fun h => by rw [h]; exact k1.lt))).mono fun e w' ⟨v, h1, h2, h3⟩ => ⟨v, h1, h2, h3⟩) ?_
      rintro v w' ⟨hrow, hbA⟩
      show SaveInv a0 w0 b V (.slice A n cap) _ ((lpput a0 v10 (clR B1) v12 v13 v14 v15 v16 v17 v3).put (some 12) _) _; rw [lp_12]
      refine ⟨_, _, _, _, _, _, _, _, _, B1, s3, rfl, hb.trans (hbA.mono hb.size), ?_⟩
      simp only [Nat.reduceBEq, Nat.reduceAdd, Bool.true_or, Bool.false_or, forall_const]
      simp only [hd7, hd9] at h7 h8 ⊢
      exact ⟨h0, fun _ => ⟨trivial, g1, k1.call hbA⟩, ownsRow_base hrow hb.size, h3, h4, h5, h6, fun d => (by cases d), fun d => ⟨(h8 d).1, (h8 d).2.1, (h8 d).2.2.call hbA⟩, fun d => (by cases d), fun d => (by cases d)⟩
    · refine wp_valU (v := .pointer (some ⟨b, 0, none⟩)) (w' := w) (by simp only [execOp, lpev_0, hp0]; simp [go_sem]) ?_
      show SaveInv a0 w0 b V (.slice A n cap) _ ((lpput a0 v10 v11 v12 v13 v14 v15 v16 v17 v3).put (some 13) _) _; rw [lp_13]
      refine ⟨_, _, _, _, _, _, _, _, _, B1, s3, rfl, hb, ?_⟩
      simp only [Nat.reduceBEq, Nat.reduceAdd, Bool.true_or, Bool.false_or, forall_const]
      exact ⟨h0, h1, h2, trivial, h4, h5, h6, h7, h8, h98, h76⟩
    · have e := h3 (he ⟨3, .data⟩ (by simp) rfl)
      refine wp_valU (v := .pointer (some ⟨b, 0, none⟩)) (w' := w) (by simp only [execOp, lpev_13 _ hsz, e]; simp [go_sem]) ?_
      show SaveInv a0 w0 b V (.slice A n cap) _ ((lpput a0 v10 v11 v12 v13 v14 v15 v16 v17 v3).put (some 14) _) _; rw [lp_14]
      refine ⟨_, _, _, _, _, _, _, _, _, B1, s3, rfl, hb, ?_⟩
      simp only [Nat.reduceBEq, Nat.reduceAdd, Bool.true_or, Bool.false_or, forall_const]
      exact ⟨h0, h1, h2, h3, trivial, h5, h6, h7, h8, h98, h76⟩
    · have e := h4 (he ⟨4, .data⟩ (by simp) rfl)
      refine wp_valU (v := .pointer (some ⟨b, 67585, none⟩)) (w' := w) (by simp only [execOp, lpev_14 _ hsz, e]; simp [go_sem]) ?_
      show SaveInv a0 w0 b V (.slice A n cap) _ ((lpput a0 v10 v11 v12 v13 v14 v15 v16 v17 v3).put (some 15) _) _; rw [lp_15]
      refine ⟨_, _, _, _, _, _, _, _, _, B1, s3, rfl, hb, ?_⟩
      simp only [Nat.reduceBEq, Nat.reduceAdd, Bool.true_or, Bool.false_or, forall_const]
      exact ⟨h0, h1, h2, h3, h4, trivial, h6, h7, h8, h98, h76⟩
    · have e := h5 (he ⟨5, .data⟩ (by simp) rfl)
      have kb := kS.call hb
      have hrng : w.rangeAt b 67585 (rfC (.slice A n cap) V.rf.calls V.rf.hits) := fun j v hj => by
        have hj15 : j < 15 := (List.getElem?_eq_some_iff.1 hj).1
        rw [kb.cell, hc.rf j hj15]; exact hj
      have hd7 : D 7 = false := by cases h : D 7 with | false => rfl | true => rw [(h76 h).2] at hk; cases hk
      refine wp_load_mid 51 (.tmp 15) rfl b 67585 ((lpev_15 _ hsz ..).trans e) (rfC (.slice A n cap) V.rf.calls V.rf.hits) _ hrng Tryz.underlying51 rfl infoRf ?_
      show SaveInv a0 w0 b V (.slice A n cap) _ ((lpput a0 v10 v11 v12 v13 v14 v15 v16 v17 v3).put (some 16) _) _; rw [lp_16]
      refine ⟨_, _, _, _, _, _, _, _, _, B1, s3, rfl, hb, ?_⟩
      simp only [Nat.reduceBEq, Nat.reduceAdd, Bool.true_or, Bool.false_or, forall_const]
      simp only [hd7] at h7 ⊢
      exact ⟨h0, h1, h2, h3, h4, h5, rfl, fun d => (by cases d), h8, fun d => (by rw [(h98 d).2] at hd7; cases hd7), fun d => (by cases d)⟩
    · have d2 := he ⟨2, .data⟩ (by simp) rfl
      have d6 := he ⟨6, .data⟩ (by simp) rfl
      obtain rfl := h6 d6
      obtain ⟨A', cap', rfl, _⟩ := own_Rd (h2 d2)
      have ev12 : (lpput a0 v10 v11 (.slice A' (vrunsL V 1024).length cap') v13 v14 v15 (rfV (.slice A n cap) V.rf.calls V.rf.hits) v17 v3).tmps[12]?.getD undef = .slice A' (vrunsL V 1024).length cap' := by
        have := lpev_12 a0 hsz v10 v11 (.slice A' (vrunsL V 1024).length cap') v13 v14 v15 (rfV (.slice A n cap) V.rf.calls V.rf.hits) v17 v3
        simpa [Act.eval] using this
      have ev16 : (lpput a0 v10 v11 (.slice A' (vrunsL V 1024).length cap') v13 v14 v15 (rfV (.slice A n cap) V.rf.calls V.rf.hits) v17 v3).tmps[16]?.getD undef = rfV (.slice A n cap) V.rf.calls V.rf.hits := by
        have := lpev_16 a0 hsz v10 v11 (.slice A' (vrunsL V 1024).length cap') v13 v14 v15 (rfV (.slice A n cap) V.rf.calls V.rf.hits) v17 v3
        simpa [Act.eval] using this
      refine wp_valU (v := .agg (stC (.slice A' (vrunsL V 1024).length cap') (.slice none 0 0) (.slice none 0 0) (.slice A n cap) V.rf.calls V.rf.hits).toArray) (w' := w) (by
        generalize lpput a0 v10 v11 (.slice A' (vrunsL V 1024).length cap') v13 v14 v15 (rfV (.slice A n cap) V.rf.calls V.rf.hits) v17 v3 = aa at *
        generalize (vrunsL V 1024).length = N at *
        unfold rfV rfC at ev16
        unfold stC rfC
        simp only [execOp]
        simp [go_sem, ev12, ev16]) ?_
      show SaveInv a0 w0 b V (.slice A n cap) _ ((lpput a0 v10 v11 (.slice A' (vrunsL V 1024).length cap') v13 v14 v15 (rfV (.slice A n cap) V.rf.calls V.rf.hits) v17 v3).put (some 17) _) _; rw [lp_17]
      refine ⟨_, _, _, _, _, _, _, _, _, B1, s3, rfl, hb, ?_⟩
      simp only [Nat.reduceBEq, Nat.reduceAdd, Bool.true_or, Bool.false_or, forall_const]
      exact ⟨h0, h1, h2, h3, h4, h5, fun _ => trivial, trivial, h8, fun d => ⟨(h98 d).1, trivial⟩, d2, d6⟩
    · have hd9 : D 9 = false := by cases h : D 9 with | false => rfl | true => rw [(h98 h).1] at hk; cases hk
      have hbA := (Below.refl w.heap.size w).alloc (Nat.le_refl _) (.cells (stC (.slice none 0 0) (.slice none 0 0) (.slice none 0 0) (.slice none 0 0) (fun _ => 0) (fun _ => 0)).toArray 53)
      refine wp_valU (v := .pointer (some ⟨w.heap.size, 0, none⟩)) (w' := w.alloc (.cells (stC (.slice none 0 0) (.slice none 0 0) (.slice none 0 0) (.slice none 0 0) (fun _ => 0) (fun _ => 0)).toArray 53)) (by unfold stC rfC; simp [execOp, go_sem]) ?_
      show SaveInv a0 w0 b V (.slice A n cap) _ ((lpput a0 v10 v11 v12 v13 v14 v15 v16 v17 v3).put (some 3) _) _; rw [lp_3]
      refine ⟨_, _, _, _, _, _, _, _, _, B1, w.heap.size, rfl, hb.alloc hb.size _, ?_⟩
      simp only [Nat.reduceBEq, Nat.reduceAdd, Bool.true_or, Bool.false_or, forall_const]
      simp only [hd9]
      exact ⟨h0, fun d => ⟨(h1 d).1, (h1 d).2.1, (h1 d).2.2.call hbA⟩, fun d => ownsRow_call (h2 d) hbA, h3, h4, h5, h6, h7, ⟨trivial, hb.size, Blk.new _ _ _⟩, fun d => (by cases d), h76⟩
    · have d8 := he ⟨8, .data⟩ (by simp) rfl
      have d7 := he ⟨7, .data⟩ (by simp) rfl
      obtain ⟨d2, d6⟩ := h76 d7
      obtain ⟨rfl, g8, k8⟩ := h8 d8
      obtain rfl := h7 d7
      have hrow := h2 d2
      obtain ⟨A', cap', rfl, _⟩ := own_Rd hrow
      have k8' : Blk w s3 53 (stC (.slice none 0 0) (.slice none 0 0) (.slice none 0 0) (.slice none 0 0) (fun _ => 0) (fun _ => 0)).toArray := by rw [hk] at k8; exact k8
      have hF := Far.puts (T := fun k => k = s3) rfl (stC (.slice A' (vrunsL V 1024).length cap') (.slice none 0 0) (.slice none 0 0) (.slice A n cap) V.rf.calls V.rf.hits) 0 w w (Far.refl _ _)
      have kP := Blk.puts (g := s3) (t := 53) (w := w) (cs := #[]) (stC (.slice A' (vrunsL V 1024).length cap') (.slice none 0 0) (.slice none 0 0) (.slice A n cap) V.rf.calls V.rf.hits) 0 w _ k8'
      rw [putA_all (by rfl)] at kP
      have hs18 : (stC (.slice A' (vrunsL V 1024).length cap') (.slice none 0 0) (.slice none 0 0) (.slice A n cap) V.rf.calls V.rf.hits).toArray.size = 18 := by rw [List.size_toArray]; rfl
      have ht : w.there s3 0 (stC (.slice A' (vrunsL V 1024).length cap') (.slice none 0 0) (.slice none 0 0) (.slice A n cap) V.rf.calls V.rf.hits).toArray.size := by rw [hs18]; exact z_there k8' 0 18 (by rw [List.size_toArray]; exact Nat.le_refl _)
      have hinf : (Tryz.prog.info? 53).map (·.size) = some (stC (.slice A' (vrunsL V 1024).length cap') (.slice none 0 0) (.slice none 0 0) (.slice A n cap) V.rf.calls V.rf.hits).toArray.size := by rw [hs18]; exact infoSt
      refine wp_storeU 53 (.tmp 3) (.tmp 17) rfl rfl s3 0 (stC (.slice A' (vrunsL V 1024).length cap') (.slice none 0 0) (.slice none 0 0) (.slice A n cap) V.rf.calls V.rf.hits).toArray (lpev_3 _ hsz ..) (lpev_17 _ hsz ..) ht hinf (Go.all_oneCell_toArray (stC_one rfl rfl rfl rfl _ _)) ?_
      refine ⟨_, _, _, _, _, _, _, _, _, B1, s3, rfl, hb.trans (hF.below hb.size (fun k hk e => by omega)), ?_⟩
      simp only [Nat.reduceBEq, Nat.reduceAdd, Bool.true_or, Bool.false_or, forall_const, if_true]
      exact ⟨h0, fun d => ⟨(h1 d).1, (h1 d).2.1, hF.blk (h1 d).2.2 (Blk.ne_ (h1 d).2.2 k8' (by decide))⟩, fun _ => ownsRow_far hrow hF (fun g hg h => own_other hrow (hg.trans (congrArg some h)) k8' (by decide)), h3, h4, h5, h6, fun _ => trivial, fun _ => ⟨trivial, g8, kP⟩, ⟨d8, d7⟩, h76⟩
end Go.Proofs.YtdepkmpilipolaaGreat
namespace Go.Proofs.YtdepkmpilipolaaGreat
open Go Go.Proofs Go.RowKit Go.Pol Go.Shelf
attribute [local go_sem] Oper.semAt_some Go.Pol.wide_fn Go.Pol.wide_depth Go.Pol.wide_fn' Go.Pol.wide_depth'

def arrI (k : IntKind) (n : Nat) (f : Nat → Int) : Array Value := ((List.range n).map fun i => .int k (f i)).toArray
theorem arrI_at {k : IntKind} {n : Nat} {f : Nat → Int} {i : Nat} (h : i < n) : (arrI k n f)[i]? = some (.int k (f i)) := by
  unfold arrI
  rw [List.getElem?_toArray, List.getElem?_map, List.getElem?_range h]; rfl
theorem eqItems_u8 (f g : Nat → Int) (w : World) : ∀ is : List Nat, (∀ i ∈ is, i < 64) → (Op.eqItems 9999 5 1 (arrI .u8 64 f) (arrI .u8 64 g) is).run Tryz.prog w = .ok (is.all fun i => f i == g i) w
  | [], _ => by simp [Op.eqItems]
  | i :: is, h => by
    have ih := eqItems_u8 f g w is (fun j hj => h j (by simp [hj]))
    have h1 := arrI_at (k := .u8) (f := f) (h i (by simp))
    have h2 := arrI_at (k := .u8) (f := g) (h i (by simp))
    have a3 := Tryz.isAgg5
    have he := run_equalIn_int (P := Tryz.prog) w 9998 5 .u8 _ (f i) (g i) Tryz.underlying5
    generalize arrI .u8 64 f = X at *
    generalize arrI .u8 64 g = Y at *
    have p1 : (part 5 X (i * 1)).run Tryz.prog w = .ok (.int .u8 (f i)) w := by simp [part, a3, h1]
    have p2 : (part 5 Y (i * 1)).run Tryz.prog w = .ok (.int .u8 (g i)) w := by simp [part, a3, h2]
    simp only [Op.eqItems, Sem.run_bind, p1, p2, he, Result.andThen_ok, List.all_cons]
    cases f i == g i with
    | false => simp
    | true => simp only [Bool.not_true, Bool.false_eq_true, if_false, Bool.true_and]; exact ih
theorem eq64_any (f g : Nat → Int) (w : World) : (Op.equalIn 10000 74 (.agg (arrI .u8 64 f)) (.agg (arrI .u8 64 g))).run Tryz.prog w = .ok ((List.range 64).all fun i => f i == g i) w := by
  obtain ⟨i0, hi⟩ := info_of_underlying (P := Tryz.prog) Tryz.underlying5
  rw [run_equalIn_array w 9999 _ _ Tryz.underlying74 hi]
  have hc : Tryz.prog.cellsOf 5 = 1 := by kernel_rfl
  rw [hc]
  exact eqItems_u8 f g w _ (fun i hi => List.mem_range.1 hi)
theorem eqItems_i (f : Nat → Int) (w : World) : ∀ is : List Nat, (∀ i ∈ is, i < 7) → (Op.eqItems 9999 3 1 (arrI .i64 7 f) (arrI .i64 7 f) is).run Tryz.prog w = .ok true w
  | [], _ => by simp [Op.eqItems]
  | i :: is, h => by
    have ih := eqItems_i f w is (fun j hj => h j (by simp [hj]))
    have h1 := arrI_at (k := .i64) (f := f) (h i (by simp))
    have a3 := Tryz.isAgg3
    have he := run_equalIn_int (P := Tryz.prog) w 9998 3 .i64 _ (f i) (f i) Tryz.underlying3
    generalize arrI .i64 7 f = X at *
    have p1 : (part 3 X (i * 1)).run Tryz.prog w = .ok (.int .i64 (f i)) w := by simp [part, a3, h1]
    rw [show (f i == f i) = true by simp] at he
    simp only [Op.eqItems, Sem.run_bind, p1, he, Result.andThen_ok, Bool.not_true, Bool.false_eq_true, if_false]
    exact ih
theorem eq7_any (f : Nat → Int) (w : World) : (Op.equalIn 10000 49 (.agg (arrI .i64 7 f)) (.agg (arrI .i64 7 f))).run Tryz.prog w = .ok true w := by
  obtain ⟨i0, hi⟩ := info_of_underlying (P := Tryz.prog) Tryz.underlying3
  rw [run_equalIn_array w 9999 _ _ Tryz.underlying49 hi]
  have hc : Tryz.prog.cellsOf 3 = 1 := by kernel_rfl
  rw [hc]
  exact eqItems_i f w _ (fun i hi => List.mem_range.1 hi)
end Go.Proofs.YtdepkmpilipolaaGreat
namespace Go.Proofs.YtdepkmpilipolaaGreat
open Go Go.Proofs Go.RowKit Go.Pol Go.Shelf
attribute [local go_sem] Oper.semAt_some Go.Pol.wide_fn Go.Pol.wide_depth Go.Pol.wide_fn' Go.Pol.wide_depth'

theorem runs_any (pg n f b ev : Int) (w : World) :
    Calls Tryz.prog 46 #[planV pg n f b ev] w fun e w' => e = .returned (.func (.func 68) #[] #[.pointer (some ⟨w.heap.size, 0, none⟩)]) ∧ w' = w.alloc (.cells (planC pg n f b ev) 31) := by
  go_enter Tryz.func46, Tryz.ntmps46
  go_wp2
  go_ret
  exact ⟨rfl, rfl⟩
theorem common_any (A1 A2 : Option Addr) (n1 c1 n2 c2 : Nat) (w : World) :
    Calls Tryz.prog 88 #[.slice A1 n1 c1, .slice A2 n2 c2] w fun e w' => e = .returned (.func (.func 96) #[] #[.pointer (some ⟨w.heap.size, 0, none⟩), .pointer (some ⟨w.heap.size + 1, 0, none⟩)]) ∧
      w' = (w.alloc (.cells #[.slice A1 n1 c1] 22)).alloc (.cells #[.slice A2 n2 c2] 22) := by
  go_enter Tryz.func88, Tryz.ntmps88
  go_wp2
  go_ret
  exact ⟨rfl, rfl⟩

theorem infoSp : (Tryz.prog.info? 64).map (fun i => (i.zero, i.size, i.bytes)) = some (some (.agg #[.int .i64 0, .int .i64 0]), 2, 16) := by kernel_rfl
theorem infoSp_parts : ∃ i0, Tryz.prog.info? 64 = some i0 ∧ i0.zero = some (.agg #[.int .i64 0, .int .i64 0]) ∧ i0.size = 2 ∧ i0.bytes = 16 := by
  obtain ⟨i0, h⟩ := info_parts infoSp
  exact ⟨i0, h⟩

set_option maxRecDepth 100000 in
set_option maxHeartbeats 1600000 in
theorem appendSeq_any (g : Nat) (lb : Array Value) (T K : Nat → Prop) (xs : List Sp) (w : World) (hxs : xs.length ≤ 1000000)
    (hseq : SeqF Tryz.prog g lb spV T K xs w) (eg : ∀ args w, (callFunc g args).run Tryz.prog w = .ok (.enter g args) w) (hT : ∀ k, T k → k < w.heap.size) (hK : ∀ k, K k → k < w.heap.size) :
    Calls Tryz.prog 67 #[.slice none 0 0, .func (.func g) #[] lb] w fun e w' => ∃ v, e = .returned v ∧ w'.ownsRow w.heap.size 64 2 v xs.length (spCells xs) ∧ (v = .slice none 0 0 ↔ xs = []) ∧ Far T w w' := by
  obtain ⟨i0, hi, hz0, hz1, hz2⟩ := infoSp_parts
  refine calls_of_marks Tryz.func67 rfl ?_
  simp only [Tryz.ntmps67, List.size_toArray, List.length_cons, List.length_nil, Nat.reduceAdd, Nat.reduceSub, Array.replicate_succ, Array.replicate_zero, List.push_toArray, List.append_toArray, List.nil_append, List.cons_append]
  go_wp2_with fail
  obtain ⟨W0, hW0⟩ : ∃ W0, w.alloc (.cells #[.slice none 0 0] 22) = W0 := ⟨_, rfl⟩
  have hs0 : W0.heap.size = w.heap.size + 1 := by rw [← hW0]; simp
  have kB : Blk W0 w.heap.size 22 #[.slice none 0 0] := by rw [← hW0]; exact Blk.new _ _ _
  have hF0 : Far (fun _ => False) w W0 := by rw [← hW0]; exact (Far.refl _ w).alloc _
  rw [hW0]
  clear hW0
  refine rangeF (gf := g) (lb := lb) rfl eg (hseq.later (hF0.mono fun _ _ h => h.elim)) (fun _ => rfl) (fun k h => by have := hT k h; omega) (fun k h => by have := hK k h; omega)
    (fun pre W => BoxS W w.heap.size 22 64 (W0.heap.size + 2) pre ∧ Far T w W) (fun _ _ _ => False)
    (fun pre A B h hf => ⟨h.1.far hf (fun h => by rcases h with h | h | h; have := hT _ h; omega; omega; omega) (fun g hg h => by rcases h with h | h | h; have := hT _ h; omega; omega; omega), h.2.trans' hf (fun i hi h => by rcases h with h | h | h; exact h; omega; omega)⟩)
    (fun _ _ _ _ h _ => h.elim) ⟨⟨_, kB, World.ownsRow_nil _ _ _ _, by simp⟩, hF0.mono fun _ _ h => h.elim⟩
    (fun _ x a' W => ∃ Bx, W0.heap.size + 2 ≤ Bx ∧ Blk W Bx 64 #[.int .i64 x.1, .int .i64 x.2] ∧ a' = { tmps := #[.slice none 0 0, .func (.func g) #[] lb, .pointer (some ⟨w.heap.size, 0, none⟩), undef, .slice none 0 0, .pointer (some ⟨Bx, 0, none⟩), .func (.func g) #[] lb, .agg #[.int .i64 x.1, .int .i64 x.2], undef, undef, undef, undef, undef], defers := [] })
    (fun _ x a' A B ⟨Bx, h1, h2, h3⟩ hf => ⟨Bx, h1, hf.blk h2 (by omega), h3⟩) ?assign ?body ?done ?stop
  case assign =>
    intro m l x W C hs hC
    gi_wp2
    exact hC _ _ ((Far.refl _ W).alloc _) ⟨W.heap.size, hs, Blk.new _ _ _, rfl⟩
  case body =>
    rintro m l pre x a' _ W hs ⟨hbox, hF⟩ ⟨Bx, hBx, kx, rfl⟩ hpre _ _
    obtain ⟨v, hv, hrow, hnil⟩ := hbox.ex
    have cx := kx.cell
    have cv := hv.cell
    have fv := hv.frozen
    have hlen : pre.length + 1 ≤ xs.length := by have := hpre.length_le; simpa using this
    have kN := Blk.new W 64 #[.int .i64 x.1, .int .i64 x.2]
    gi_wp2_with (gi_at_builtin; refine wpListIn_append_own _ rfl (.tmp 8) (.tmp 10) 22 rfl (W0.heap.size + 2) 64 i0 (.agg #[.int .i64 0, .int .i64 0]) 2 16 Tryz.underlying22 hi hz0 hz1 hz2 rfl (by decide) v pre.length (spCells pre) rfl (hrow.alloc _) ⟨W.heap.size, 0, none⟩ 1 1 [.int .i64 x.1, .int .i64 x.2] rfl rfl (news_two kN) news_one2 (by unfold maxLen; omega) (by omega) (by simp; omega) ?_; intro v' w1 hown' hgrow _; rw [← spCells_snoc] at hown'; obtain ⟨hv1, hb2, hf2⟩ := BoxS.appended hv (by decide) hrow hown' (by simp) (by simp) hgrow; obtain ⟨A', cap', rfl⟩ := own_nil_iff hown' (by simp); have cv1 := hv1.cell; have fv1 := hv1.frozen)
    exact ⟨hf2 _ (by rintro (h | h | h); have := hK _ h; omega; omega; omega) (fun g hg => by have := (hrow.lt g hg).1; rintro (h | h | h); have := hK _ h; omega; omega; omega), hb2, hF.trans' (hf2 (fun k => w.heap.size ≤ k) (Nat.le_refl _) (fun g hg => by have := (hrow.lt g hg).1; omega)) (fun i hi h => by omega)⟩
  case done =>
    rintro W hs ⟨hbox, hF⟩ hd
    obtain ⟨v, hv, hrow, hnil⟩ := hbox.ex
    have cv := hv.cell
    obtain ⟨A', cap', rfl⟩ := own_nil_iff hrow rfl
    go_wp2_with fail
    have hfp : Far (fun k => k = W0.heap.size) W (W.putObj W0.heap.size (.deferred none)) := Far.putObj (T := fun k => k = W0.heap.size) (Far.refl _ _) (fun _ => rfl) _
    exact leave_mark (v := .slice A' xs.length cap') hd (by simp [results, Tryz.results67, go_sem]) ⟨_, rfl, ownsRow_base (ownsRow_far hrow hfp (fun g hg h => by have := (hrow.lt g hg).1; omega)) (by omega), hnil, hF.putObj (fun h => absurd h (by omega)) _⟩
  case stop => exact fun _ _ _ _ _ h _ => h.elim
theorem collect_any (g : Nat) (lb : Array Value) (T K : Nat → Prop) (xs : List Sp) (w : World) (hxs : xs.length ≤ 1000000)
    (hseq : SeqF Tryz.prog g lb spV T K xs w) (eg : ∀ args w, (callFunc g args).run Tryz.prog w = .ok (.enter g args) w) (hT : ∀ k, T k → k < w.heap.size) (hK : ∀ k, K k → k < w.heap.size) :
    Calls Tryz.prog 45 #[.func (.func g) #[] lb] w fun e w' => ∃ v, e = .returned v ∧ w'.ownsRow w.heap.size 64 2 v xs.length (spCells xs) ∧ (v = .slice none 0 0 ↔ xs = []) ∧ Far T w w' := by
  have HA := Lib.hid (appendSeq_any g lb T K xs w hxs hseq eg hT hK)
  go_enter Tryz.func45, Tryz.ntmps45
  go_wp2_with (go_at_call 67; refine (HA.out).mono ?_; rintro e w1 ⟨v, rfl, hown, hnil, hf⟩)
  go_ret
  exact ⟨v, rfl, hown, hnil, hf⟩

theorem runsF_len (size en : Int) : ∀ (k : Nat) (a : Int), (runsF size en k a).length ≤ k
  | 0, _ => by simp [runsF]
  | k + 1, a => by
    have := runsF_len size en k (a + size + 1)
    rw [runsF]; split
    · simp; omega
    · simp
theorem runsL_len {pg n f b ev : Int} (_ : PlanOk pg n f b ev) : (runsL pg n f b ev).length ≤ 1000000 := by
  have := runsF_len (if ev = 0 then 1024 else ev) (pg + n - b) 1025 (pg + f)
  unfold runsL; omega
theorem runs_enters : ∀ args w, (callFunc 68 args).run Tryz.prog w = .ok (.enter 68 args) w := enters_of Tryz.func68 (by kernel_rfl) rfl
theorem common_enters : ∀ args w, (callFunc 96 args).run Tryz.prog w = .ok (.enter 96 args) w := enters_of Tryz.func96 (by kernel_rfl) rfl

/-- what hands back a slice of spans and an error -/
def SpansR (w : World) (us : List Sp) (er : Int) (e : Ending) (w' : World) : Prop :=
  ∃ (A : Option Addr) (cap : Nat), e = .returned (.tuple #[.slice A us.length cap, .int .i64 er]) ∧ RU w' w'.heap.size A us ∧ us.length ≤ cap ∧ cap ≤ maxLen ∧ (∀ b o, A = some ⟨b, o, none⟩ → w.heap.size ≤ b) ∧ Below w.heap.size w w'

set_option maxHeartbeats 400000 in
theorem usable_any (pg n f b ev : Int) (w : World) :
    Calls Tryz.prog 18 #[planV pg n f b ev] w (SpansR w (if chkG pg n f b ev = 0 then runsL pg n f b ev else []) (chkG pg n f b ev)) := by
  have HC := Lib.hid (fun W => gcheck_any pg n f b ev W)
  have hb0 := (Below.refl w.heap.size w).alloc (Nat.le_refl _) (.cells (planC pg n f b ev) 31)
  have k0 := Blk.new w 31 (planC pg n f b ev)
  have c0 := k0.cell
  by_cases hc : chkG pg n f b ev = 0
  · have hp := chkG_zero.1 hc
    rw [hc] at HC ⊢
    rw [if_pos rfl]
    have HR := Lib.hid (fun W => runs_any pg n f b ev W)
    go_enter Tryz.func18, Tryz.ntmps18
    go_wp2_with (first
      | (go_at_call 44; refine (HC.out _).mono ?_; rintro e w1 ⟨rfl, hq⟩; have k1 := k0.call hq; have c1 := k1.cell; have hb1 := hb0.trans (hq.mono hb0.size))
      | (go_at_call 46; refine (HR.out _).mono ?_; rintro e w2 ⟨rfl, rfl⟩; have HS := Lib.hid (runs1_seq pg n f b ev w1.heap.size _ hp (Blk.new w1 31 (planC pg n f b ev))))
      | (go_at_call 45; refine (collect_any _ _ _ _ _ _ (runsL_len hp) HS.out runs_enters (fun _ h => h.elim) (fun k h => by subst h; simp)).mono ?_; rintro e w3 ⟨v, rfl, hown, _, hf⟩; obtain ⟨A, cap, rfl, hru, h1, h2, h3, _⟩ := own_RU hown rfl))
    have hb2 := hb1.alloc hb1.size (.cells (planC pg n f b ev) 31)
    have hb3 := hf.below (n := w.heap.size) (Nat.le_trans hb1.size (by simp)) (fun _ _ h => h)
    go_ret2
    exact ⟨A, cap, rfl, hru, h1, h2, fun b o e => by have := h3 b o e; simp at this; have := hb1.size; omega, hb2.trans hb3⟩
  · rw [if_neg hc]
    generalize chkG pg n f b ev = er at *
    have hc' : (er != 0) = true := by simpa using hc
    clear hc
    go_enter Tryz.func18, Tryz.ntmps18
    go_wp2_with (go_at_call 44; refine (HC.out _).mono ?_; rintro e w1 ⟨rfl, hq⟩; have k1 := k0.call hq; have c1 := k1.cell; have hb1 := hb0.trans (hq.mono hb0.size))
    go_ret2
    exact ⟨none, 0, rfl, RU.nil, by simp, by unfold maxLen; omega, fun b o e => (by cases e), hb1⟩
end Go.Proofs.YtdepkmpilipolaaGreat
namespace Go.Pol
open Go Go.RowKit
/-- an array of marks reads as a function -/
structure MarksAre (cs : Array Value) (f : Nat → Bool) : Prop where
  size : cs.size = 1024
  at_ : ∀ k, k < 1024 → cs[k]? = some (.bool (f k))
theorem form_len2 : ∀ (s : List Sp) (e : Int) (m : Int), (∀ x ∈ s, 1 ≤ x.2 ∧ x.1 + x.2 ≤ m) → formOk e s = true → e ≤ m → (s.length : Int) ≤ m - e
  | [], e, m, _, _, h => by simp; omega
  | x :: r, e, m, hw, hf, _ => by
    have hf' := formOk_cons.1 hf
    have hx := hw x (by simp)
    have := form_len2 r (x.1 + x.2) m (fun y hy => hw y (by simp [hy])) hf'.2 hx.2
    simp only [List.length_cons]
    omega
theorem spCells_set (r : List Sp) (x : Sp) (y : Int) : (spCells (r ++ [x])).set (r.length * 2 + 1) (.int .i64 y) = spCells (r ++ [(x.1, y)]) := by
  rw [spCells_snoc, spCells_snoc]
  have : r.length * 2 + 1 = (spCells r).length + 1 := by rw [spCells_len]
  rw [this, List.set_append_right _ _ (by omega)]
  simp
end Go.Pol
namespace Go.Proofs.YtdepkmpilipolaaGreat
open Go Go.Proofs Go.RowKit Go.Pol

/-- what hands back a slice of spans -/
def SpansO (w : World) (us : List Sp) (e : Ending) (w' : World) : Prop :=
  ∃ (A : Option Addr) (cap : Nat), e = .returned (.slice A us.length cap) ∧ RU w' w'.heap.size A us ∧ us.length ≤ cap ∧ cap ≤ maxLen ∧ (∀ b o, A = some ⟨b, o, none⟩ → w.heap.size ≤ b) ∧ Below w.heap.size w w'

set_option maxRecDepth 100000 in
set_option maxHeartbeats 1600000 in
theorem refSet_any (cs : Array Value) (f : Nat → Bool) (w : World) (hm : MarksAre cs f) :
    Calls Tryz.prog 86 #[.agg cs] w (SpansO w (setA f)) := by
  obtain ⟨i0, hi, hz0, hz1, hz2⟩ := infoSp_parts
  have hb0 := (Below.refl w.heap.size w).alloc (Nat.le_refl _) (.cells cs 141)
  have kM := Blk.new w 141 cs
  have hcs := Lib.hid hm.at_
  have hcz := hm.size
  have hok := Lib.hid (fun p => setF_ok f p)
  have hA : Hid (setA f = setF f 1024) := Lib.hid rfl
  obtain ⟨SA, hSA⟩ : ∃ S, setA f = S := ⟨_, rfl⟩
  rw [hSA]
  have hSA' := Lib.hid hSA
  clear hSA hm
  go_enter Tryz.func86, Tryz.ntmps86
  go_wp2_with fail
  go_loopw [3, 4] (fun v i wr => ∃ k : Nat, k ≤ 1024 ∧ i = .int .i64 k ∧ wr.ownsRow (w.heap.size + 1) 64 2 v (setF f k).length (spCells (setF f k)) ∧ Blk wr w.heap.size 141 cs ∧ Below w.heap.size w wr) (fun _ i _ => 1024 - (intOf i).toNat)
  case atStart => exact ⟨0, by omega, rfl, World.ownsRow_nil _ _ _ _, kM, hb0⟩
  case round =>
    obtain ⟨k, hk, rfl, hrow, kW, hB⟩ := hrel
    have hBs := hB.size
    have hwl := kW.lt
    by_cases hlt : k < 1024
    · have hlt' : decide ((k : Int) < 1024) = true := by simp; omega
      have hck : wr.cell? ⟨w.heap.size, k, none⟩ = some (.bool (f k)) := by rw [kW.cell]; exact hcs.out k hlt
      have hstep := Lib.hid (show setF f (k + 1) = _ from rfl)
      have hl512 : (setF f k).length ≤ 1024 := by
        have := (hok.out k)
        have h := form_len2 (setF f k) (-1) k (fun x hx => ⟨(this.wid x hx).2.1, (this.wid x hx).2.2⟩) this.form (by omega)
        omega
      cases hfk : f k with
      | false =>
        rw [hfk] at hck
        have hS : Hid (setF f (k + 1) = setF f k) := Lib.hid (by rw [setF, if_neg (by simp [hfk])])
        go_wp2_with fail
        go_roundw
        case rel => exact ⟨k + 1, by omega, by simp, by rw [hS.out]; exact hrow, kW, hB⟩
        case measure => simp [intOf]; omega
      | true =>
        rw [hfk] at hck
        by_cases hk0 : 0 < k
        case neg =>
          have hk0' : decide (0 < (k : Int)) = false := by simp; omega
          have hk0n : decide (0 < k) = false := by simp; omega
          have hS : Hid (setF f (k + 1) = setF f k ++ [((k : Int), 1)]) := Lib.hid (by rw [setF, if_pos hfk, if_neg (by simp; omega)])
          have kN := Blk.new wr 64 #[.int .i64 (k : Int), .int .i64 1]
          go_wp2_with (refine wpList_append_own _ rfl (.tmp 9) (.tmp 12) 22 rfl (w.heap.size + 1) 64 i0 (.agg #[.int .i64 0, .int .i64 0]) 2 16 Tryz.underlying22 hi hz0 hz1 hz2 rfl (by decide) _ (setF f k).length (spCells (setF f k)) rfl (hrow.alloc _) ⟨wr.heap.size, 0, none⟩ 1 1 [.int .i64 (k : Int), .int .i64 1] rfl rfl (news_two kN) news_one2 (by unfold maxLen; omega) (by omega) (by simp; omega) ?_; intro v' w1 hown' hgrow _; rw [← spCells_snoc (setF f k) ((k : Int), 1), ← hS.out] at hown')
          have hne1 := (hrow.alloc (.cells #[.int .i64 (k : Int), .int .i64 1] 64)).lt
          go_roundw
          case rel => exact ⟨k + 1, by omega, by simp, by rw [show (setF f (k + 1)).length = (setF f k).length + 1 by rw [hS.out]; simp]; exact hown', (kW.alloc _).grown hgrow (fun e => by have := (hrow.lt _ e.symm).1; omega), (hB.alloc hBs _).grown hgrow (by simp; omega) (fun j hj => by have := (hrow.lt j hj).1; omega)⟩
          case measure => simp [intOf]; omega
        case pos =>
          have hk0' : decide (0 < (k : Int)) = true := by simp; omega
          have hk0n : decide (0 < k) = true := by simp; omega
          have hkp : wr.cell? ⟨w.heap.size, k - 1, none⟩ = some (.bool (f (k - 1))) := by rw [kW.cell]; exact hcs.out (k - 1) (by omega)
          cases hfp : f (k - 1) with
          | false =>
            rw [hfp] at hkp
            have hS : Hid (setF f (k + 1) = setF f k ++ [((k : Int), 1)]) := Lib.hid (by rw [setF, if_pos hfk, if_neg (by simp [hfp])])
            have kN := Blk.new wr 64 #[.int .i64 (k : Int), .int .i64 1]
            go_wp2_with (refine wpList_append_own _ rfl (.tmp 9) (.tmp 12) 22 rfl (w.heap.size + 1) 64 i0 (.agg #[.int .i64 0, .int .i64 0]) 2 16 Tryz.underlying22 hi hz0 hz1 hz2 rfl (by decide) _ (setF f k).length (spCells (setF f k)) rfl (hrow.alloc _) ⟨wr.heap.size, 0, none⟩ 1 1 [.int .i64 (k : Int), .int .i64 1] rfl rfl (news_two kN) news_one2 (by unfold maxLen; omega) (by omega) (by simp; omega) ?_; intro v' w1 hown' hgrow _; rw [← spCells_snoc (setF f k) ((k : Int), 1), ← hS.out] at hown')
            have hne1 := (hrow.alloc (.cells #[.int .i64 (k : Int), .int .i64 1] 64)).lt
            go_roundw
            case rel => exact ⟨k + 1, by omega, by simp, by rw [show (setF f (k + 1)).length = (setF f k).length + 1 by rw [hS.out]; simp]; exact hown', (kW.alloc _).grown hgrow (fun e => by have := (hrow.lt _ e.symm).1; omega), (hB.alloc hBs _).grown hgrow (by simp; omega) (fun j hj => by have := (hrow.lt j hj).1; omega)⟩
            case measure => simp [intOf]; omega
          | true =>
            rw [hfp] at hkp
            obtain ⟨r, x, hrx, hxe⟩ := (hok.out k).last hk0 hfp
            have hwx := (hok.out k).wid x (by rw [hrx]; simp)
            have hS : Hid (setF f (k + 1) = r ++ [(x.1, x.2 + 1)]) := Lib.hid (by rw [setF, if_pos hfk, if_pos (by simp [hfp]; omega), hrx, bump_snoc])
            rw [hrx] at hrow hl512
            clear hrx hstep
            obtain ⟨xa, xb⟩ := x
            dsimp only at hwx hxe
            rw [List.length_append, List.length_singleton] at hrow hl512
            obtain ⟨g, cap, rfl⟩ := ownsRow_succ hrow
            have hgb := (hrow.lt g rfl).1
            have hcx : wr.cell? ⟨g, r.length * 2 + 1, none⟩ = some (.int .i64 xb) := by
              rw [hrow.cellAt _ (by omega), spCells_snoc, List.getElem?_append_right (by rw [spCells_len]; omega), spCells_len]
              simp
            have hfx := hrow.frozenAt (r.length * 2 + 1)
            obtain ⟨hst, hgr⟩ := hrow.stored (r.length * 2 + 1) (.int .i64 (xb + 1))
            rw [spCells_set] at hst
            obtain ⟨rl, hrl⟩ : ∃ rl, r.length = rl := ⟨_, rfl⟩
            rw [hrl] at hcx hfx hst hgr hl512 ⊢
            have hrl' := Lib.hid hrl
            clear hrl hrow
            go_wp2_with fail
            go_roundw
            case rel => exact ⟨k + 1, by omega, by simp, by rw [hS.out]; simpa [hrl'.out] using hst, kW.grown hgr (fun e => by cases e; omega), hB.grown hgr hBs (fun j hj => by cases hj; omega)⟩
            case measure => simp [intOf]; omega
    · obtain rfl : k = 1024 := by omega
      obtain ⟨A, cap, rfl, hru, h1, h2, h3, _⟩ := own_RU hrow rfl
      have hE : Hid (SA = setF f 1024) := Lib.hid (by rw [← hSA'.out]; rfl)
      go_wp2_with fail
      go_ret
      rw [hE.out]
      exact ⟨A, cap, rfl, hru, h1, h2, fun b o e => by have := h3 b o e; omega, hB⟩
end Go.Proofs.YtdepkmpilipolaaGreat
namespace Go.Pol
open Go
theorem runsF_ok (sz en : Int) (hsz : 1 ≤ sz) : ∀ (k : Nat) (a : Int), en - a < k →
    (∀ x ∈ runsF sz en k a, a ≤ x.1 ∧ 1 ≤ x.2 ∧ x.1 + x.2 ≤ en) ∧ formOk (a - 1) (runsF sz en k a) = true ∧ (∀ q : Int, mem q (runsF sz en k a) = true ↔ (a ≤ q ∧ q < en) ∧ (q - a + 1) % (sz + 1) ≠ 0)
  | 0, a, h => ⟨by simp [runsF], rfl, fun q => by simp [runsF, mem_nil]; omega⟩
  | k + 1, a, h => by
    rw [runsF]
    by_cases hlt : a < en
    · rw [if_pos hlt]
      obtain ⟨h1, h2, h3⟩ := runsF_ok sz en hsz k (a + sz + 1) (by omega)
      refine ⟨fun x hx => ?_, ?_, fun q => ?_⟩
      · rcases List.mem_cons.1 hx with rfl | hx
        · simp only; omega
        · have := h1 x hx; omega
      · rw [formOk_cons]
        exact ⟨by simp only; omega, formOk_le h2 (by simp only; omega)⟩
      · rw [mem_cons', h3 q]
        simp only
        have e : (q - (a + sz + 1) + 1) % (sz + 1) = (q - a + 1) % (sz + 1) := by
          rw [show q - a + 1 = (q - (a + sz + 1) + 1) + (sz + 1) by omega, Int.add_emod_right]
        rw [e]
        by_cases hq : q < a
        · constructor
          · rintro (h | ⟨h, _⟩) <;> omega
          · rintro ⟨h, _⟩; omega
        by_cases hq2 : q < a + sz
        · have em : (q - a + 1) % (sz + 1) = q - a + 1 := Int.emod_eq_of_lt (by omega) (by omega)
          rw [em]; omega
        by_cases hq3 : q = a + sz
        · have em : (q - a + 1) % (sz + 1) = 0 := by rw [hq3, show a + sz - a + 1 = sz + 1 by omega, Int.emod_self]
          rw [em]; omega
        · constructor
          · rintro (h | ⟨h, h'⟩)
            · omega
            · exact ⟨by omega, h'⟩
          · rintro ⟨h, h'⟩; exact .inr ⟨by omega, h'⟩
    · rw [if_neg hlt]
      exact ⟨by simp, rfl, fun q => by simp [mem_nil]; omega⟩
section
variable {pg n f b ev : Int}
theorem runsL_ok (hp : PlanOk pg n f b ev) : (∀ x ∈ runsL pg n f b ev, pg + f ≤ x.1 ∧ 1 ≤ x.2 ∧ x.1 + x.2 ≤ pg + n - b) ∧ formOk (pg + f - 1) (runsL pg n f b ev) = true ∧
    (∀ q : Int, mem q (runsL pg n f b ev) = true ↔ (pg + f ≤ q ∧ q < pg + n - b) ∧ (q - (pg + f) + 1) % ((if ev = 0 then 1024 else ev) + 1) ≠ 0) := by
  have h := runsF_ok (if ev = 0 then 1024 else ev) (pg + n - b) (by have := hp.e0; split <;> omega) 1025 (pg + f) (by have := hp.n1; have := hp.pg0; have := hp.f0; have := hp.b0; omega)
  exact h
theorem runsL_can (hp : PlanOk pg n f b ev) : Go.Pol.Can (runsL pg n f b ev) := by
  obtain ⟨h1, h2, _⟩ := runsL_ok hp
  have a1 := hp.pg0; have a2 := hp.n1; have a3 := hp.f0; have a4 := hp.b0
  refine ⟨fun x hx => ?_, formOk_le h2 (by omega)⟩
  have := h1 x hx
  rw [vld_iff]; omega
theorem kindG_zero (hp : PlanOk pg n f b ev) (q : Int) : kindG pg n f b ev q = 0 ↔ mem q (runsL pg n f b ev) = true := by
  obtain ⟨a1, a2, a3, a4, a5, a6, a7, a8, a9, a10, a11⟩ := hp
  rw [(runsL_ok ⟨a1, a2, a3, a4, a5, a6, a7, a8, a9, a10, a11⟩).2.2 q]
  unfold kindG
  by_cases h1 : q - pg < 0 ∨ n ≤ q - pg
  · rw [if_pos h1]; constructor
    · intro h; cases h
    · rintro ⟨h, _⟩; omega
  rw [if_neg h1]
  by_cases h2 : q - pg < f
  · rw [if_pos h2]; constructor
    · intro h; cases h
    · rintro ⟨h, _⟩; omega
  rw [if_neg h2]
  by_cases h3 : n - b ≤ q - pg
  · rw [if_pos h3]; constructor
    · intro h; cases h
    · rintro ⟨h, _⟩; omega
  rw [if_neg h3, show q - (pg + f) + 1 = q - pg - f + 1 by omega]
  by_cases h0 : ev = 0
  · subst h0
    rw [if_neg (by omega), if_pos rfl]
    have : (q - pg - f + 1) % (1024 + 1) = q - pg - f + 1 := Int.emod_eq_of_lt (by omega) (by omega)
    rw [this]; omega
  · rw [if_neg h0]
    by_cases h4 : (q - pg - f + 1) % (ev + 1) = 0
    · rw [if_pos ⟨by omega, h4⟩]; constructor
      · intro h; cases h
      · rintro ⟨_, h⟩; exact absurd h4 h
    · rw [if_neg (fun h => h4 h.2)]
      exact ⟨fun _ => ⟨by omega, h4⟩, fun _ => rfl⟩
end

def sumS (l : List Sp) : Int := (l.map (·.2)).sum
theorem sumS_snoc (l : List Sp) (x : Sp) : sumS (l ++ [x]) = sumS l + x.2 := by simp [sumS]
theorem sumS_bound : ∀ (l : List Sp), (∀ x ∈ l, vld x = true) → 0 ≤ sumS l ∧ sumS l ≤ 1024 * l.length
  | [], _ => by simp [sumS]
  | x :: r, h => by
    have := sumS_bound r (fun y hy => h y (by simp [hy]))
    have hx := vld_iff.1 (h x (by simp))
    simp only [sumS, List.map_cons, List.sum_cons, List.length_cons] at this ⊢
    omega
/-- the usable page with a number -/
def nthF : List Sp → Int → Int × Int
  | [], _ => (0, 7)
  | x :: r, i => if i < 0 then (0, 7) else if i < x.2 then (x.1 + i, 0) else nthF r (i - x.2)
/-- the number of a usable page -/
def idxF (page : Int) : Int → List Sp → Int × Int
  | _, [] => (0, 4)
  | n, x :: r => if x.1 ≤ page ∧ page < x.1 + x.2 then (n + page - x.1, 0) else idxF page (n + x.2) r
/-- where the run with a page ends; the page itself if it is in none -/
def skipF (page : Int) : List Sp → Int
  | [] => page
  | x :: r => if x.1 ≤ page ∧ page < x.1 + x.2 then x.1 + x.2 else skipF page r
theorem nthF_step {L pre rest : List Sp} {i : Int} {x : Sp} (h : nthF L i = nthF (x :: rest) (i - sumS pre)) (h1 : ¬ i - sumS pre < 0) (h2 : ¬ i - sumS pre < x.2) : nthF L i = nthF rest (i - sumS (pre ++ [x])) := by
  rw [h, nthF, if_neg h1, if_neg h2, sumS_snoc]
  congr 1; omega
theorem idxF_step {L pre rest : List Sp} {page : Int} {x : Sp} (h : idxF page 0 L = idxF page (sumS pre) (x :: rest)) (h1 : ¬ (x.1 ≤ page ∧ page < x.1 + x.2)) : idxF page 0 L = idxF page (sumS (pre ++ [x])) rest := by
  rw [h, idxF, if_neg h1, sumS_snoc]
theorem skipF_step {L rest : List Sp} {page : Int} {x : Sp} (h : skipF page L = skipF page (x :: rest)) (h1 : ¬ (x.1 ≤ page ∧ page < x.1 + x.2)) : skipF page L = skipF page rest := by
  rw [h, skipF, if_neg h1]
theorem prefix_cons {α : Type} {pre xs : List α} {x : α} (h : pre ++ [x] <+: xs) : ∃ rest, xs = pre ++ x :: rest := by
  obtain ⟨rest, h⟩ := h
  exact ⟨rest, by rw [← h]; simp⟩
end Go.Pol
namespace Go.Pol
open Go Go.RowKit
theorem ints_one {a : Int} : ∀ u ∈ [Value.int .i64 a], u.oneCell' = true := by
  intro u hu; simp only [List.mem_cons, List.not_mem_nil, or_false] at hu; subst hu; rfl
theorem news_i {w : World} {g : Nat} {t : TypeId} {a : Int} (h : Blk w g t #[.int .i64 a]) : ∀ (j : Nat) (u : Value), [Value.int .i64 a][j]? = some u → w.cell? ((⟨g, 0, none⟩ : Addr).add j) = some u := by
  intro j u hu
  rw [addr_add0, Nat.zero_add, h.cell]
  simpa using hu
end Go.Pol
namespace Go.Pol
open Go Go.RowKit
def daA (p : Int) (f : Nat → Int) : Array Value := (Value.int .i64 p :: (List.range 64).map fun i => Value.int .u8 (f i)).toArray
/-- a saved state in memory: runs, huge groups, pages with bytes, refusals -/
structure VsIs (w : World) (S : Value) (V : Vm) : Prop where
  ex : ∃ (A1 A2 A3 A4 : Option Addr) (n1 c1 n2 c2 n3 c3 n4 c4 : Nat), S = .agg (stC (.slice A1 n1 c1) (.slice A2 n2 c2) (.slice A3 n3 c3) (.slice A4 n4 c4) V.rf.calls V.rf.hits).toArray ∧
    (vrunsL V 1024).length = n1 ∧ Rd w w.heap.size A1 (fl rnC (vrunsL V 1024)) ∧ (hugL V 1024).length = n2 ∧ RI w w.heap.size A2 (hugL V 1024) ∧ (datL V 1024).length = n3 ∧ Rd w w.heap.size A3 (fl (daC V) (datL V 1024)) ∧
    V.rf.rules.length = n4 ∧ Rd w w.heap.size A4 (fl ruC V.rf.rules)
theorem VsIs.on {w w' : World} {S : Value} {V : Vm} (h : VsIs w S V) (hb : Below w.heap.size w w') : VsIs w' S V := by
  obtain ⟨A1, A2, A3, A4, n1, c1, n2, c2, n3, c3, n4, c4, h0, h1, h2, h3, h4, h5, h6, h7, h8⟩ := h.ex
  exact ⟨A1, A2, A3, A4, n1, c1, n2, c2, n3, c3, n4, c4, h0, h1, h2.on_ hb, h3, RI.more (RI.below h4 hb) hb.size, h5, h6.on_ hb, h7, h8.on_ hb⟩
theorem Rd.farN {w w' : World} {N : Nat} {A : Option Addr} {xs : List Value} {T : Nat → Prop} (h : Rd w N A xs) (hF : Far T w w') (hT : ∀ k, k < N → (∃ o, A = some ⟨k, o, none⟩) → ¬ T k) : Rd w' N A xs := fun k hk => by
  obtain ⟨b, o, e, hb, hc⟩ := h k hk
  exact ⟨b, o, e, hb, hF.cell hc (hT b hb ⟨o, e⟩)⟩
def SaveO (V : Vm) (w : World) (e : Ending) (w' : World) : Prop := ∃ S, e = .returned S ∧ VsIs w' S V ∧ Below w.heap.size w w'
theorem nzB_all (g : Pg) : (List.range 64).all (fun i => g.byt i == 0) = !nzB g := by
  unfold nzB
  rw [Bool.eq_iff_iff]
  simp
theorem daC_eq (V : Vm) (p : Nat) : daC V p = (daA p (V.pg p).byt).toList := rfl
end Go.Pol
namespace Go.Proofs.YtdepkmpilipolaaGreat
open Go Go.Proofs Go.RowKit Go.Pol Go.Shelf
attribute [local go_sem] Oper.semAt_some Go.Pol.wide_fn Go.Pol.wide_depth Go.Pol.wide_fn' Go.Pol.wide_depth'

theorem z_results_cell1 {P : Program} {fn : Func} {a : Tmp} {t : TypeId} {tmps : Array Value} {w : World} {v : Value} {p : Addr} (h : fn.results = #[.cell a t]) (ha : tmps.getD a undef = .pointer (some p)) (hl : (loadVar t p).run P w = .ok v w) :
    (results fn tmps).run P w = .ok v w := by
  have ha' : tmps[a]?.getD undef = .pointer (some p) := by rw [← ha, Array.getD_eq_getD_getElem?]
  simp [results, h, ha', asAddr, hl]
theorem wpList_buildU {P : Program} {ops : Array Oper} {rest : List Oper} {op : Oper} {a : Act} {w : World} {Q : Exit → Act → World → Prop} (hgd : op.guard = none) (d : Nat) (hd : op.dst = some d) (t : TypeId) (parts : List (Nat × Operand)) (ho : op.op = .build t parts.toArray)
    (vals : List (Nat × Value)) (hv : parts.map (fun x => (x.1, a.eval x.2)) = vals) (cells : Array Value) (hb : P.built t vals = some cells) (h : wpList P ops Q rest (a.put (some d) (.agg cells)) w) : wpList P ops Q (op :: rest) a w :=
  wpList_plain hgd fun K hK => by
    have hb' : P.built t (parts.toArray.map fun (i, x) => (i, a.eval x)).toList = some cells := by
      rw [← hb, ← hv]; simp
    unfold Oper.wp execOp
    simp only [ho, Sem.run_bind, run_build w t _ cells hb', Result.andThen_ok]
    show K (a.put op.dst _) w
    rw [hd]
    exact hK _ _ h
theorem wpList_buildSliceU {P : Program} {ops : Array Oper} {rest : List Oper} {o : Oper} {a : Act} {w : World} {Q : Exit → Act → World → Prop} (hg : o.guard = none) (d : Nat) (hd : o.dst = some d) (t e : TypeId) (len : Nat) (parts : List (Nat × Operand)) (ho : o.op = .buildSlice t len parts.toArray)
    (vals : List (Nat × Value)) (hv : parts.map (fun x => (x.1, a.eval x.2)) = vals) (cells : Array Value) (ie : TypeInfo) (z : Value)
    (hu : P.underlying t = some (.slice e)) (hie : P.info? e = some ie) (hz : ie.zero = some z) (hsmall : ¬ len * ie.size > 2 ^ 24) (hpos : ¬ len * ie.size = 0)
    (hf : Instr.fill (fun i => some (i * ie.size, ie.size)) ((Array.range (len * ie.size)).map (z.cells[· % z.cells.size]!)) vals = some cells)
    (h : wpList P ops Q rest (a.put (some d) (.slice (some ⟨w.heap.size, 0, none⟩) len len)) (w.alloc (.cells cells e))) : wpList P ops Q (o :: rest) a w :=
  wpList_buildSlice hg t e len parts.toArray ho cells ie z hu hie hz hsmall hpos (by rw [← hf, ← hv]; simp) (by rw [hd]; exact h)
theorem infoInQ : (Tryz.prog.info? 3).map (fun i => (i.zero, i.size, i.bytes)) = some (some (.int .i64 0), 1, 8) := by kernel_rfl
theorem infoDa : (Tryz.prog.info? 76).map (fun i => (i.zero, i.size, i.bytes)) = some (some (.agg (daA 0 (fun _ => 0))), 65, 72) := by kernel_rfl
theorem built_da (p : Int) (f : Nat → Int) : Tryz.prog.built 76 [(0, .int .i64 p), (1, .agg (arrI .u8 64 f))] = some (daA p f) := by kernel_rfl
theorem fill_da (p : Int) (f : Nat → Int) : Instr.fill (fun i => some (i * 65, 65)) ((Array.range (1 * 65)).map ((Value.agg (daA 0 (fun _ => 0))).cells[· % (Value.agg (daA 0 (fun _ => 0))).cells.size]!)) [(0, .agg (daA p f))] = some (daA p f) := by kernel_rfl
set_option maxRecDepth 100000 in
set_option maxHeartbeats 3200000 in
theorem save_any (b : Nat) (V : Vm) (w : World) (hV : SysIs w b V) :
    Calls Tryz.prog 12 #[.pointer (some ⟨b, 0, none⟩)] w (SaveO V w) := by
  have hV' := Lib.hid hV
  have hb0 := (Below.refl w.heap.size w).alloc (Nat.le_refl _) (.cells (stC (.slice none 0 0) (.slice none 0 0) (.slice none 0 0) (.slice none 0 0) (fun _ => 0) (fun _ => 0)).toArray 53)
  have k2 := Blk.new w 53 (stC (.slice none 0 0) (.slice none 0 0) (.slice none 0 0) (.slice none 0 0) (fun _ => 0) (fun _ => 0)).toArray
  have V0 := hV.call hb0
  have hbs := hV.lt
  have HI := Lib.hid (fun W h => is_any b V W h)
  obtain ⟨s, hs⟩ : ∃ s, w.heap.size = s := ⟨_, rfl⟩
  have hsz0 : (w.alloc (.cells (stC (.slice none 0 0) (.slice none 0 0) (.slice none 0 0) (.slice none 0 0) (fun _ => 0) (fun _ => 0)).toArray 53)).heap.size = s + 1 := by rw [World.size_alloc, hs]
  rw [hs] at k2
  unfold stC rfC at hb0 k2 V0 hsz0
  clear hV
  go_enter Tryz.func12, Tryz.ntmps12
  go_upto_region 1 with fail
  generalize w.alloc _ = w0 at *
  try simp only [hs]
  go_wp2_with fail
  refine (HI.out _ V0).mono ?_
  rintro e9 w9 ⟨rfl, hw9⟩
  replace hw9 := hw9.symm
  subst hw9
  obtain ⟨cs, A, n, cap, kb, hc, hn, hr, hz, _⟩ := V0.ex
  have hok := V0.ok
  go_upto_region 3 with fail
  refine save_first _ _ b cs V A n cap (Nat.le_of_ble_eq_true rfl) rfl kb hc ?_
  intro B1 s3 v12 w1 hs3 k3 hrow1 hb1
  simp only [lpput, Act.put, List.setIfInBounds_toArray, List.set_cons_succ, List.set_cons_zero]
  obtain ⟨A1, cap1, rfl, r1, _, _, hA1, _⟩ := own_Rd hrow1
  have hA13 : ∀ o, A1 ≠ some ⟨s3, o, none⟩ := fun o e => by
    subst e
    exact own_other hrow1 rfl k3 (by decide)
  obtain ⟨N1, hN1⟩ : ∃ N1, (vrunsL V 1024).length = N1 := ⟨_, rfl⟩
  rw [hN1] at k3 hrow1
  try simp only [hN1]
  have kb1 := kb.call hb1
  have c67 : w1.cell? ⟨b, 67585, none⟩ = some (.slice A n cap) := by rw [kb1.cell]; exact (hc.rf 0 (by omega)).trans rfl
  have hr1 := hr.on_ hb1
  have hlen50 := (chkR_zero.1 hok.plan).1
  have hb1' := Lib.hid hb1
  have k2' := Lib.hid (k2.call hb1)
  have h01 : s + 1 ≤ w0.heap.size := Nat.le_of_eq hsz0.symm
  have B1 : Below s w w1 := by rw [← hs]; exact hb0.trans (hb1.mono (by rw [hs]; omega))
  have HCl := Lib.hid (cloneR_any A n cap V.rf.rules w1 hn (by omega) hz hr1)
  have f3 := k3.frozen
  have c3 := k3.cell
  have hc' := Lib.hid hc
  have hN1' := Lib.hid hN1
  have r1' := Lib.hid r1
  have hAs := Lib.hid hA1
  have k3' := Lib.hid k3
  clear hb1 k2 kb hr hz hok hrow1 V0 HI hn hb0 hc hN1 r1 hA1 hr1 hlen50 k3 c3 f3
  unfold rfV stC rfC
  go_wp2_with fail
  refine HCl.out.mono ?_
  rintro e w2 ⟨v4, rfl, hv4⟩
  obtain ⟨A4, c4, rfl, q1, _, _, q4, q5, hb2⟩ := hv4
  have k32 := k3'.out.call hb2
  have k22 := k2'.out.call hb2
  have kb2 := kb1.call hb2
  have r12 := Lib.hid (r1'.out.below hb2)
  have B2 := B1.trans (hb2.mono (by have := B1.size; omega))
  have c3 := k32.cell
  have f3 := k32.frozen
  have c33 : w2.cell? ⟨s3, 3, none⟩ = some (.slice A n cap) := (k32.cell 3).trans rfl
  have k33 := k32.set_ 3 (.slice A4 V.rf.rules.length c4)
  have F3 : Far (fun k => k = s3) w2 (w2.setCell ⟨s3, 3, none⟩ (.slice A4 V.rf.rules.length c4)) := Far.setCell (T := fun k => k = s3) (p := ⟨s3, 3, none⟩) (Far.refl _ w2) (fun _ => rfl) _
  have hsb1 := kb1.lt
  have hls3 := k3'.out.lt
  clear HCl c67 kb1 c3 k2'
  go_upto_region 5 with fail
  generalize w2.setCell ⟨s3, 3, none⟩ _ = w3 at *
  have k34 : Blk w3 s3 53 (stC (.slice A1 N1 cap1) (.slice none 0 0) (.slice none 0 0) (.slice A4 V.rf.rules.length c4) V.rf.calls V.rf.hits).toArray := k33
  have q13 : Rd w3 w2.heap.size A4 (fl ruC V.rf.rules) := q1.far_ F3 (fun g o e => by have := q4 g o e; show ¬ g = s3; omega)
  have r13 : Rd w3 w1.heap.size A1 (fl rnC (vrunsL V 1024)) := r12.out.farN F3 (fun k _ ⟨o, e⟩ h => hA13 o (h ▸ e))
  have kb3 := F3.blk kb2 (by show ¬ b = s3; omega)
  have k23 := F3.blk k22 (by show ¬ s = s3; omega)
  have B3 := B2.trans (F3.below (by have := B2.size; omega) (fun k hk e => by omega))
  have hsz3 : w2.heap.size ≤ w3.heap.size := F3.size
  have hsz2 := hb2.size
  have q13' := Lib.hid q13
  have r13' := Lib.hid r13
  clear F3 k32 k22 kb2 r12 B2 c33 k33 q13 r13 q1 f3 hb2 k3' r1' B1
  generalize hN4 : V.rf.rules.length = N4 at *
  have hN4' := Lib.hid hN4
  clear hN4
  obtain ⟨i0, hi, hz0, hz1, hz2⟩ := info_parts infoInQ
  obtain ⟨iD, hiD, hzD0, hzD1, hzD2⟩ := info_parts infoDa
  obtain ⟨NB, hNB⟩ : ∃ NB, w3.heap.size = NB := ⟨_, rfl⟩
  go_wp2_with fail
  go_loopw [28] (fun u wr => ∃ (k : Nat) (v2 v3 : Value), k ≤ 1024 ∧ u = .int .i64 k ∧ Blk wr s3 53 (stC (.slice A1 N1 cap1) v2 v3 (.slice A4 N4 c4) V.rf.calls V.rf.hits).toArray ∧
    wr.ownsRow NB 3 1 v2 (hugL V k).length ((hugL V k).map (Value.int .i64)) ∧ wr.ownsRow NB 76 65 v3 (datL V k).length (fl (daC V) (datL V k)) ∧ Far (fun k => k = s3 ∨ NB ≤ k) w3 wr) (fun u _ => 1024 - (intOf u).toNat)
  case atStart => exact ⟨0, _, _, by omega, rfl, k34, World.ownsRow_nil _ _ _ _, World.ownsRow_nil _ _ _ _, Far.refl _ _⟩
  case round =>
    clear k34
    obtain ⟨k, v2, v3, hk, rfl, k3, ro2, ro3, hF⟩ := hrel
    by_cases hlt : k < 1024
    · have hlt' : decide ((k : Int) < 1024) = true := by rw [decide_eq_true_eq]; omega
      have hkl : (k : Int) < 1024 := by omega
      have kbr := hF.blk kb3 (by show ¬ (b = s3 ∨ NB ≤ b); omega)
      have HFi := Lib.hid (vfirst_any (k : Int) wr)
      have hfk : fstB (k : Int) = decide (k % 16 = 0) := by
        unfold fstB
        rw [Bool.eq_iff_iff]
        simp
        omega
      rw [hfk] at HFi
      have hstH : Hid (hugL V (k + 1) = if k % 16 = 0 ∧ (V.pg k).huge = true then hugL V k ++ [(k : Int)] else hugL V k) := Lib.hid rfl
      have hstD : Hid (datL V (k + 1) = if nzB (V.pg k) = true then datL V k ++ [k] else datL V k) := Lib.hid rfl
      have hcH := (kbr.cell (1 + k * 66 + 1)).trans (hc'.out.hug hlt)
      have hlH := hugL_len V k
      have hlD := datL_len V k
      clear hfk
      by_cases hm : k % 16 = 0
      · rw [decide_eq_true hm] at HFi
        cases hh : (V.pg k).huge with
        | true =>
          rw [hh] at hcH
          have hst2 : Hid (hugL V (k + 1) = hugL V k ++ [(k : Int)]) := Lib.hid (by rw [hstH.out, if_pos ⟨hm, hh⟩])
          clear hstH hm hh
          obtain ⟨ll, hll⟩ : ∃ ll, (hugL V k).length = ll := ⟨_, rfl⟩
          rw [hll] at ro2 hlH
          obtain ⟨A2, cap2, rfl, _⟩ := own_Rd ro2
          have kN := Blk.new wr 3 #[.int .i64 (k : Int)]
          have hbN : Below wr.heap.size wr (wr.alloc (.cells #[.int .i64 (k : Int)] 3)) := (Below.refl _ _).alloc (Nat.le_refl _) _
          have hsF := hF.size
          have c3 := k3.cell
          unfold stC rfC at c3
          go_wp2_with fail
          refine HFi.out.mono ?_
          rintro e8 w8 ⟨rfl, hw8⟩
          replace hw8 := hw8.symm
          subst hw8
          go_upto_region 10 with (refine wpList_append_own _ rfl (.tmp 43) (.tmp 45) 47 rfl NB 3 i0 (.int .i64 0) 1 8 Tryz.underlying47 hi hz0 hz1 hz2 rfl (by decide) _ ll ((hugL V k).map (Value.int .i64)) rfl (ro2.alloc _) ⟨wr.heap.size, 0, none⟩ 1 1 [.int .i64 (k : Int)] rfl rfl (news_i kN) ints_one (by unfold maxLen; omega) (by omega) (by simp; omega) ?_; intro v' w7 hown' hgrow _; rw [show (hugL V k).map (Value.int .i64) ++ [Value.int .i64 (k : Int)] = (hugL V k ++ [(k : Int)]).map (Value.int .i64) by simp] at hown'; have F7 : Far (fun g => (Value.slice A2 ll cap2).ownBlock = some g) wr w7 := (Far.of_below hbN).grown hgrow (fun g hg _ => hg); have k37 := F7.blk k3 (fun h => own_other ro2 h k3 (by decide)); have f37 := k37.frozen; have c371 : w7.cell? ⟨s3, 1, none⟩ = some (.slice A2 ll cap2) := (k37.cell 1).trans rfl; obtain ⟨A2n, cap2n, rfl, _⟩ := own_Rd hown'; clear c3)
          have F8 : Far (fun k => k = s3) w7 (w7.setCell ⟨s3, 1, none⟩ (.slice A2n (ll + 1) cap2n)) := Far.setCell (T := fun k => k = s3) (p := ⟨s3, 1, none⟩) (Far.refl _ w7) (fun _ => rfl) _
          have k38 : Blk (w7.setCell ⟨s3, 1, none⟩ (.slice A2n (ll + 1) cap2n)) s3 53 (stC (.slice A1 N1 cap1) (.slice A2n (ll + 1) cap2n) v3 (.slice A4 N4 c4) V.rf.calls V.rf.hits).toArray := k37.set_ 1 _
          have ro28 : (w7.setCell ⟨s3, 1, none⟩ (.slice A2n (ll + 1) cap2n)).ownsRow NB 3 1 (.slice A2n (ll + 1) cap2n) (hugL V (k + 1)).length ((hugL V (k + 1)).map (Value.int .i64)) := by
            rw [hst2.out, List.length_append, List.length_singleton, hll]
            exact ownsRow_far hown' F8 (fun g hg h => own_other hown' (hg.trans (congrArg some h)) k37 (by decide))
          have ro38 := ownsRow_far (ownsRow_far ro3 F7 (fun g hg h => by
            rcases ro2.2 with ⟨hx, _⟩ | ⟨g', cap', cur, hx, _, hkx, _⟩
            · rw [hx] at h; cases h
            · rw [hx] at h
              have e' : g' = g := by injection h
              subst e'
              exact own_other ro3 hg (show Blk wr g' 3 cur from hkx) (by decide))) F8 (fun g hg h => by
            have := (ro3.lt g hg).1
            omega)
          have F38 : Far (fun k => k = s3 ∨ NB ≤ k) w3 (w7.setCell ⟨s3, 1, none⟩ (.slice A2n (ll + 1) cap2n)) := (hF.trans' F7 (fun i hi h => .inr (ro2.lt i h).1)).trans' F8 (fun i hi h => .inl h)
          have kb8 := F8.blk (F7.blk kbr (fun h => by have := (ro2.lt b h).1; omega)) (by show ¬ b = s3; omega)
          clear F7 F8 k37 f37 c371 hown' hgrow ro2 ro3 hF k3 kbr kN hbN hcH hlH hsF HFi
          generalize w7.setCell ⟨s3, 1, none⟩ _ = w8 at *
          generalize (.slice A2n (ll + 1) cap2n : Value) = v2n at *
          obtain ⟨X, hX⟩ : ∃ X, arrI .u8 64 (V.pg k).byt = X := ⟨_, rfl⟩
          have hXs : X.size = 64 := by rw [← hX]; simp [arrI]
          have hra : w8.rangeAt b (1 + k * 66 + 2) X.toList := fun j v hj => by
            rw [← hX] at hj
            have hj64 : j < 64 := by have := (List.getElem?_eq_some_iff.1 hj).1; simpa [arrI] using this
            rw [kb8.cell, show 1 + k * 66 + 2 + j = 1 + k * 66 + (j + 2) by omega, hc'.out.byte hlt hj64, ← hj, Array.getElem?_toList, arrI_at hj64]
          have hinf : (Tryz.prog.info? 74).map (·.size) = some X.size := by rw [hXs]; exact infoKinds
          have hinfl : (Tryz.prog.info? 74).map (·.size) = some X.toList.length := by rw [Array.length_toList]; exact hinf
          have hone : X.all (·.oneCell') = true := by
            rw [← hX]; unfold arrI
            exact Go.all_oneCell_toArray (fun x hx => by simp only [List.mem_map] at hx; obtain ⟨i, _, rfl⟩ := hx; rfl)
          have ht : ∀ Z : Array Value, Z.size = 64 → (w8.alloc (.cells Z 74)).there w8.heap.size 0 X.size := fun Z hZ => z_there (Blk.new w8 _ Z) 0 X.size (by omega)
          have hw9 : ∀ (Z : Array Value) w9, (w8.alloc (.cells Z 74)).setCells w8.heap.size 0 X.toList = w9 → Z.size = 64 → Blk w9 w8.heap.size 74 X ∧ Below w8.heap.size w8 w9 := fun Z w9 h hZ => by
            have kP := Blk.puts (g := w8.heap.size) (t := 74) (w := w8) (cs := #[]) X.toList 0 _ _ (Blk.new w8 74 Z)
            rw [putA_all (by rw [Array.length_toList]; omega)] at kP
            have hF := Far.puts (T := fun k => k = w8.heap.size) rfl X.toList 0 w8 _ ((Far.refl _ w8).alloc (.cells Z 74))
            rw [h] at kP hF
            exact ⟨kP, hF.below (Nat.le_refl _) (fun k hk e => by omega)⟩
          have heq : ∀ W, (Op.equalIn 10000 74 (.agg X) (.agg #[.int .u8 0, .int .u8 0, .int .u8 0, .int .u8 0, .int .u8 0, .int .u8 0, .int .u8 0, .int .u8 0, .int .u8 0, .int .u8 0, .int .u8 0, .int .u8 0, .int .u8 0, .int .u8 0, .int .u8 0, .int .u8 0, .int .u8 0, .int .u8 0, .int .u8 0, .int .u8 0, .int .u8 0, .int .u8 0, .int .u8 0, .int .u8 0, .int .u8 0, .int .u8 0, .int .u8 0, .int .u8 0, .int .u8 0, .int .u8 0, .int .u8 0, .int .u8 0, .int .u8 0, .int .u8 0, .int .u8 0, .int .u8 0, .int .u8 0, .int .u8 0, .int .u8 0, .int .u8 0, .int .u8 0, .int .u8 0, .int .u8 0, .int .u8 0, .int .u8 0, .int .u8 0, .int .u8 0, .int .u8 0, .int .u8 0, .int .u8 0, .int .u8 0, .int .u8 0, .int .u8 0, .int .u8 0, .int .u8 0, .int .u8 0, .int .u8 0, .int .u8 0, .int .u8 0, .int .u8 0, .int .u8 0, .int .u8 0, .int .u8 0, .int .u8 0])).run Tryz.prog W = .ok (!nzB (V.pg k)) W := fun W => by
            have h := eq64_any (V.pg k).byt (fun _ => 0) W
            rw [hX, nzB_all] at h
            exact h
          have hX' := Lib.hid hX
          have hXs' := Lib.hid hXs
          clear hX hXs
          go_upto_region 11 with (first
            | (refine wpList_load_mid rfl 74 (.tmp 53) rfl b (1 + k * 66 + 2) rfl X.toList _ hra Tryz.underlying74 rfl hinfl ?_; rw [Array.toArray_toList])
            | (refine wpList_store_mid rfl 74 (.tmp 5) (.tmp 54) rfl w8.heap.size 0 X rfl rfl (ht _ rfl) hinf hone ?_))
          generalize hW9 : World.setCells _ w8.heap.size 0 X.toList = w9
          obtain ⟨k9, hb9⟩ := hw9 _ _ hW9 rfl
          clear hW9 hw9 ht hra
          have hra9 : w9.rangeAt w8.heap.size 0 X.toList := fun j v hj => by rw [Nat.zero_add, k9.cell]; simpa using hj
          cases hnz : nzB (V.pg k) with
          | false =>
            rw [hnz] at heq
            go_wp2_with (refine wpList_load_mid rfl 74 (.tmp 5) rfl w8.heap.size 0 rfl X.toList _ hra9 Tryz.underlying74 rfl hinfl ?_; rw [Array.toArray_toList])
            go_roundw
            case rel =>
              have hstD2 : datL V (k + 1) = datL V k := by rw [hstD.out, if_neg (by rw [hnz]; decide)]
              exact ⟨k + 1, v2n, v3, by omega, by go_num, k38.call hb9, ownsRow_call ro28 hb9, by rw [hstD2]; exact ownsRow_call ro38 hb9, F38.trans (.of_below hb9)⟩
            case measure => simp [intOf]; omega
          | true =>
            rw [hnz] at heq
            go_upto_region 12 with (refine wpList_load_mid rfl 74 (.tmp 5) rfl w8.heap.size 0 rfl X.toList _ hra9 Tryz.underlying74 rfl hinfl ?_; rw [Array.toArray_toList])
            obtain ⟨D, hD⟩ : ∃ D, daA (k : Int) (V.pg k).byt = D := ⟨_, rfl⟩
            have hbt : Tryz.prog.built 76 [(0, .int .i64 (k : Int)), (1, .agg X)] = some D := by rw [← hD, ← hX'.out]; exact built_da _ _
            have hb171 : ∀ W, (Instr.build 76 #[(0, .int .i64 (k : Int)), (1, .agg X)]).run Tryz.prog W = .ok (.agg D) W := fun W => run_build W _ _ _ hbt
            have hbs := fill_da (k : Int) (V.pg k).byt
            rw [hD] at hbs
            have hDs : D.toList.length = 65 := by rw [← hD]; simp [daA]
            have hDo : ∀ u ∈ D.toList, u.oneCell' = true := by
              intro u hu
              rw [← hD, ← daC_eq] at hu
              exact daC_one V [k] u (by simpa [fl] using hu)
            have hDl : fl (daC V) [k] = D.toList := by rw [← hD, ← daC_eq]; simp [fl]
            have hstD2 : Hid (datL V (k + 1) = datL V k ++ [k]) := Lib.hid (by rw [hstD.out, if_pos hnz])
            obtain ⟨dl, hdl⟩ : ∃ dl, (datL V k).length = dl := ⟨_, rfl⟩
            rw [hdl] at ro38 hlD
            have ro39 := ownsRow_call ro38 hb9
            have k39 := k38.call hb9
            obtain ⟨A3n, cap3n, rfl, _⟩ := own_Rd ro39
            have c39 : w9.cell? ⟨s3, 2, none⟩ = some (.slice A3n dl cap3n) := (k39.cell 2).trans rfl
            clear hD hnz heq
            have hfl : Instr.fill (fun i => some (i * iD.size, iD.size)) ((Array.range (1 * iD.size)).map ((Value.agg (daA 0 (fun _ => 0))).cells[· % (Value.agg (daA 0 (fun _ => 0))).cells.size]!)) [(0, .agg D)] = some D := by rw [hzD1]; exact hbs
            have hs1 : ¬ 1 * iD.size > 2 ^ 24 := by rw [hzD1]; decide
            have hs2 : ¬ 1 * iD.size = 0 := by rw [hzD1]; decide
            have kD := Blk.new w9 76 D
            have hbD : Below w9.heap.size w9 (w9.alloc (.cells D 76)) := (Below.refl _ _).alloc (Nat.le_refl _) _
            have nwD : ∀ (j : Nat) (u : Value), D.toList[j]? = some u → (w9.alloc (.cells D 76)).cell? ((⟨w9.heap.size, 0, none⟩ : Addr).add j) = some u := fun j u hu => by
              rw [addr_add0, Nat.zero_add, kD.cell]; simpa using hu
            have hsF9 := (F38.trans (.of_below hb9)).size
            clear hbs hb171
            go_wp2_with (refine wpList_load_mid rfl 74 (.tmp 5) rfl w8.heap.size 0 rfl X.toList _ hra9 Tryz.underlying74 rfl hinfl ?_; rw [Array.toArray_toList]; refine wpList_buildU rfl 62 rfl 76 [(0, .tmp 60), (1, .tmp 61)] rfl _ rfl D hbt ?_; refine wpList_buildSliceU rfl 63 rfl 48 76 1 [(0, .tmp 62)] rfl _ rfl D iD _ Tryz.underlying48 hiD hzD0 hs1 hs2 hfl ?_; refine wpList_append_own _ rfl (.tmp 59) (.tmp 63) 48 rfl NB 76 iD (.agg (daA 0 (fun _ => 0))) 65 72 Tryz.underlying48 hiD hzD0 hzD1 hzD2 rfl (by decide) _ dl (fl (daC V) (datL V k)) rfl (ro39.alloc _) ⟨w9.heap.size, 0, none⟩ 1 1 D.toList rfl hDs nwD hDo (by unfold maxLen; omega) (by omega) (by simp; omega) ?_; intro v' w10 hown' hgrow _; rw [← hDl, ← fl_append] at hown'; have F10 : Far (fun g => (Value.slice A3n dl cap3n).ownBlock = some g) w9 w10 := (Far.of_below hbD).grown hgrow (fun g hg _ => hg); have k310 := F10.blk k39 (fun h => own_other ro39 h k39 (by decide)); have f310 := k310.frozen; have c310 : w10.cell? ⟨s3, 2, none⟩ = some (.slice A3n dl cap3n) := (k310.cell 2).trans rfl; obtain ⟨A3m, cap3m, rfl, _⟩ := own_Rd hown'; clear c39)
            have F11 : Far (fun k => k = s3) w10 (w10.setCell ⟨s3, 2, none⟩ (.slice A3m (dl + 1) cap3m)) := Far.setCell (T := fun k => k = s3) (p := ⟨s3, 2, none⟩) (Far.refl _ w10) (fun _ => rfl) _
            have k311 : Blk (w10.setCell ⟨s3, 2, none⟩ (.slice A3m (dl + 1) cap3m)) s3 53 (stC (.slice A1 N1 cap1) v2n (.slice A3m (dl + 1) cap3m) (.slice A4 N4 c4) V.rf.calls V.rf.hits).toArray := k310.set_ 2 _
            have ro311 : (w10.setCell ⟨s3, 2, none⟩ (.slice A3m (dl + 1) cap3m)).ownsRow NB 76 65 (.slice A3m (dl + 1) cap3m) (datL V (k + 1)).length (fl (daC V) (datL V (k + 1))) := by
              rw [hstD2.out, List.length_append, List.length_singleton, hdl]
              exact ownsRow_far hown' F11 (fun g hg h => own_other hown' (hg.trans (congrArg some h)) k310 (by decide))
            have ro29 := ownsRow_call ro28 hb9
            have ro211 := ownsRow_far (ownsRow_far ro29 F10 (fun g hg h => by
              rcases ro39.2 with ⟨hx, _⟩ | ⟨g', cap', cur, hx, _, hkx, _⟩
              · rw [hx] at h; cases h
              · rw [hx] at h
                have e' : g' = g := by injection h
                subst e'
                exact own_other ro29 hg (show Blk w9 g' 76 cur from hkx) (by decide))) F11 (fun g hg h => by
              have := (ro29.lt g hg).1
              omega)
            have F311 : Far (fun k => k = s3 ∨ NB ≤ k) w3 (w10.setCell ⟨s3, 2, none⟩ (.slice A3m (dl + 1) cap3m)) := ((F38.trans (.of_below hb9)).trans' F10 (fun i hi h => .inr (ro39.lt i h).1)).trans' F11 (fun i hi h => .inl h)
            go_roundw
            case rel => exact ⟨k + 1, v2n, _, by omega, by go_num, k311, ro211, ro311, F311⟩
            case measure => simp [intOf]; omega
        | false =>
          rw [hh] at hcH
          have hst2 : Hid (hugL V (k + 1) = hugL V k) := Lib.hid (by rw [hstH.out, if_neg (by rw [hh]; simp)])
          clear hstH hm hh
          have k38 := k3
          have ro28 : wr.ownsRow NB 3 1 v2 (hugL V (k + 1)).length ((hugL V (k + 1)).map (Value.int .i64)) := by rw [hst2.out]; exact ro2
          have ro38 := ro3
          have F38 := hF
          have kb8 := kbr
          clear k3 ro2 ro3 hF kbr hlH
          go_upto_region 10 with fail
          refine HFi.out.mono ?_
          rintro e8 w8 ⟨rfl, hw8⟩
          replace hw8 := hw8.symm
          subst hw8
          go_upto_region 10 with fail
          clear HFi hcH
          obtain ⟨X, hX⟩ : ∃ X, arrI .u8 64 (V.pg k).byt = X := ⟨_, rfl⟩
          have hXs : X.size = 64 := by rw [← hX]; simp [arrI]
          have hra : wr.rangeAt b (1 + k * 66 + 2) X.toList := fun j v hj => by
            rw [← hX] at hj
            have hj64 : j < 64 := by have := (List.getElem?_eq_some_iff.1 hj).1; simpa [arrI] using this
            rw [kb8.cell, show 1 + k * 66 + 2 + j = 1 + k * 66 + (j + 2) by omega, hc'.out.byte hlt hj64, ← hj, Array.getElem?_toList, arrI_at hj64]
          have hinf : (Tryz.prog.info? 74).map (·.size) = some X.size := by rw [hXs]; exact infoKinds
          have hinfl : (Tryz.prog.info? 74).map (·.size) = some X.toList.length := by rw [Array.length_toList]; exact hinf
          have hone : X.all (·.oneCell') = true := by
            rw [← hX]; unfold arrI
            exact Go.all_oneCell_toArray (fun x hx => by simp only [List.mem_map] at hx; obtain ⟨i, _, rfl⟩ := hx; rfl)
          have ht : ∀ Z : Array Value, Z.size = 64 → (wr.alloc (.cells Z 74)).there wr.heap.size 0 X.size := fun Z hZ => z_there (Blk.new wr _ Z) 0 X.size (by omega)
          have hw9 : ∀ (Z : Array Value) w9, (wr.alloc (.cells Z 74)).setCells wr.heap.size 0 X.toList = w9 → Z.size = 64 → Blk w9 wr.heap.size 74 X ∧ Below wr.heap.size wr w9 := fun Z w9 h hZ => by
            have kP := Blk.puts (g := wr.heap.size) (t := 74) (w := wr) (cs := #[]) X.toList 0 _ _ (Blk.new wr 74 Z)
            rw [putA_all (by rw [Array.length_toList]; omega)] at kP
            have hF := Far.puts (T := fun k => k = wr.heap.size) rfl X.toList 0 wr _ ((Far.refl _ wr).alloc (.cells Z 74))
            rw [h] at kP hF
            exact ⟨kP, hF.below (Nat.le_refl _) (fun k hk e => by omega)⟩
          have heq : ∀ W, (Op.equalIn 10000 74 (.agg X) (.agg #[.int .u8 0, .int .u8 0, .int .u8 0, .int .u8 0, .int .u8 0, .int .u8 0, .int .u8 0, .int .u8 0, .int .u8 0, .int .u8 0, .int .u8 0, .int .u8 0, .int .u8 0, .int .u8 0, .int .u8 0, .int .u8 0, .int .u8 0, .int .u8 0, .int .u8 0, .int .u8 0, .int .u8 0, .int .u8 0, .int .u8 0, .int .u8 0, .int .u8 0, .int .u8 0, .int .u8 0, .int .u8 0, .int .u8 0, .int .u8 0, .int .u8 0, .int .u8 0, .int .u8 0, .int .u8 0, .int .u8 0, .int .u8 0, .int .u8 0, .int .u8 0, .int .u8 0, .int .u8 0, .int .u8 0, .int .u8 0, .int .u8 0, .int .u8 0, .int .u8 0, .int .u8 0, .int .u8 0, .int .u8 0, .int .u8 0, .int .u8 0, .int .u8 0, .int .u8 0, .int .u8 0, .int .u8 0, .int .u8 0, .int .u8 0, .int .u8 0, .int .u8 0, .int .u8 0, .int .u8 0, .int .u8 0, .int .u8 0, .int .u8 0, .int .u8 0])).run Tryz.prog W = .ok (!nzB (V.pg k)) W := fun W => by
            have h := eq64_any (V.pg k).byt (fun _ => 0) W
            rw [hX, nzB_all] at h
            exact h
          have hX' := Lib.hid hX
          have hXs' := Lib.hid hXs
          clear hX hXs
          go_upto_region 11 with (first
            | (refine wpList_load_mid rfl 74 (.tmp 53) rfl b (1 + k * 66 + 2) rfl X.toList _ hra Tryz.underlying74 rfl hinfl ?_; rw [Array.toArray_toList])
            | (refine wpList_store_mid rfl 74 (.tmp 5) (.tmp 54) rfl wr.heap.size 0 X rfl rfl (ht _ rfl) hinf hone ?_))
          generalize hW9 : World.setCells _ wr.heap.size 0 X.toList = w9
          obtain ⟨k9, hb9⟩ := hw9 _ _ hW9 rfl
          clear hW9 hw9 ht hra
          have hra9 : w9.rangeAt wr.heap.size 0 X.toList := fun j v hj => by rw [Nat.zero_add, k9.cell]; simpa using hj
          cases hnz : nzB (V.pg k) with
          | false =>
            rw [hnz] at heq
            go_wp2_with (refine wpList_load_mid rfl 74 (.tmp 5) rfl wr.heap.size 0 rfl X.toList _ hra9 Tryz.underlying74 rfl hinfl ?_; rw [Array.toArray_toList])
            go_roundw
            case rel =>
              have hstD2 : datL V (k + 1) = datL V k := by rw [hstD.out, if_neg (by rw [hnz]; decide)]
              exact ⟨k + 1, v2, v3, by omega, by go_num, k38.call hb9, ownsRow_call ro28 hb9, by rw [hstD2]; exact ownsRow_call ro38 hb9, F38.trans (.of_below hb9)⟩
            case measure => simp [intOf]; omega
          | true =>
            rw [hnz] at heq
            go_upto_region 12 with (refine wpList_load_mid rfl 74 (.tmp 5) rfl wr.heap.size 0 rfl X.toList _ hra9 Tryz.underlying74 rfl hinfl ?_; rw [Array.toArray_toList])
            obtain ⟨D, hD⟩ : ∃ D, daA (k : Int) (V.pg k).byt = D := ⟨_, rfl⟩
            have hbt : Tryz.prog.built 76 [(0, .int .i64 (k : Int)), (1, .agg X)] = some D := by rw [← hD, ← hX'.out]; exact built_da _ _
            have hb171 : ∀ W, (Instr.build 76 #[(0, .int .i64 (k : Int)), (1, .agg X)]).run Tryz.prog W = .ok (.agg D) W := fun W => run_build W _ _ _ hbt
            have hbs := fill_da (k : Int) (V.pg k).byt
            rw [hD] at hbs
            have hDs : D.toList.length = 65 := by rw [← hD]; simp [daA]
            have hDo : ∀ u ∈ D.toList, u.oneCell' = true := by
              intro u hu
              rw [← hD, ← daC_eq] at hu
              exact daC_one V [k] u (by simpa [fl] using hu)
            have hDl : fl (daC V) [k] = D.toList := by rw [← hD, ← daC_eq]; simp [fl]
            have hstD2 : Hid (datL V (k + 1) = datL V k ++ [k]) := Lib.hid (by rw [hstD.out, if_pos hnz])
            obtain ⟨dl, hdl⟩ : ∃ dl, (datL V k).length = dl := ⟨_, rfl⟩
            rw [hdl] at ro38 hlD
            have ro39 := ownsRow_call ro38 hb9
            have k39 := k38.call hb9
            obtain ⟨A3n, cap3n, rfl, _⟩ := own_Rd ro39
            have c39 : w9.cell? ⟨s3, 2, none⟩ = some (.slice A3n dl cap3n) := (k39.cell 2).trans rfl
            clear hD hnz heq
            have hfl : Instr.fill (fun i => some (i * iD.size, iD.size)) ((Array.range (1 * iD.size)).map ((Value.agg (daA 0 (fun _ => 0))).cells[· % (Value.agg (daA 0 (fun _ => 0))).cells.size]!)) [(0, .agg D)] = some D := by rw [hzD1]; exact hbs
            have hs1 : ¬ 1 * iD.size > 2 ^ 24 := by rw [hzD1]; decide
            have hs2 : ¬ 1 * iD.size = 0 := by rw [hzD1]; decide
            have kD := Blk.new w9 76 D
            have hbD : Below w9.heap.size w9 (w9.alloc (.cells D 76)) := (Below.refl _ _).alloc (Nat.le_refl _) _
            have nwD : ∀ (j : Nat) (u : Value), D.toList[j]? = some u → (w9.alloc (.cells D 76)).cell? ((⟨w9.heap.size, 0, none⟩ : Addr).add j) = some u := fun j u hu => by
              rw [addr_add0, Nat.zero_add, kD.cell]; simpa using hu
            have hsF9 := (F38.trans (.of_below hb9)).size
            clear hbs hb171
            go_wp2_with (refine wpList_load_mid rfl 74 (.tmp 5) rfl wr.heap.size 0 rfl X.toList _ hra9 Tryz.underlying74 rfl hinfl ?_; rw [Array.toArray_toList]; refine wpList_buildU rfl 62 rfl 76 [(0, .tmp 60), (1, .tmp 61)] rfl _ rfl D hbt ?_; refine wpList_buildSliceU rfl 63 rfl 48 76 1 [(0, .tmp 62)] rfl _ rfl D iD _ Tryz.underlying48 hiD hzD0 hs1 hs2 hfl ?_; refine wpList_append_own _ rfl (.tmp 59) (.tmp 63) 48 rfl NB 76 iD (.agg (daA 0 (fun _ => 0))) 65 72 Tryz.underlying48 hiD hzD0 hzD1 hzD2 rfl (by decide) _ dl (fl (daC V) (datL V k)) rfl (ro39.alloc _) ⟨w9.heap.size, 0, none⟩ 1 1 D.toList rfl hDs nwD hDo (by unfold maxLen; omega) (by omega) (by simp; omega) ?_; intro v' w10 hown' hgrow _; rw [← hDl, ← fl_append] at hown'; have F10 : Far (fun g => (Value.slice A3n dl cap3n).ownBlock = some g) w9 w10 := (Far.of_below hbD).grown hgrow (fun g hg _ => hg); have k310 := F10.blk k39 (fun h => own_other ro39 h k39 (by decide)); have f310 := k310.frozen; have c310 : w10.cell? ⟨s3, 2, none⟩ = some (.slice A3n dl cap3n) := (k310.cell 2).trans rfl; obtain ⟨A3m, cap3m, rfl, _⟩ := own_Rd hown'; clear c39)
            have F11 : Far (fun k => k = s3) w10 (w10.setCell ⟨s3, 2, none⟩ (.slice A3m (dl + 1) cap3m)) := Far.setCell (T := fun k => k = s3) (p := ⟨s3, 2, none⟩) (Far.refl _ w10) (fun _ => rfl) _
            have k311 : Blk (w10.setCell ⟨s3, 2, none⟩ (.slice A3m (dl + 1) cap3m)) s3 53 (stC (.slice A1 N1 cap1) v2 (.slice A3m (dl + 1) cap3m) (.slice A4 N4 c4) V.rf.calls V.rf.hits).toArray := k310.set_ 2 _
            have ro311 : (w10.setCell ⟨s3, 2, none⟩ (.slice A3m (dl + 1) cap3m)).ownsRow NB 76 65 (.slice A3m (dl + 1) cap3m) (datL V (k + 1)).length (fl (daC V) (datL V (k + 1))) := by
              rw [hstD2.out, List.length_append, List.length_singleton, hdl]
              exact ownsRow_far hown' F11 (fun g hg h => own_other hown' (hg.trans (congrArg some h)) k310 (by decide))
            have ro29 := ownsRow_call ro28 hb9
            have ro211 := ownsRow_far (ownsRow_far ro29 F10 (fun g hg h => by
              rcases ro39.2 with ⟨hx, _⟩ | ⟨g', cap', cur, hx, _, hkx, _⟩
              · rw [hx] at h; cases h
              · rw [hx] at h
                have e' : g' = g := by injection h
                subst e'
                exact own_other ro29 hg (show Blk w9 g' 76 cur from hkx) (by decide))) F11 (fun g hg h => by
              have := (ro29.lt g hg).1
              omega)
            have F311 : Far (fun k => k = s3 ∨ NB ≤ k) w3 (w10.setCell ⟨s3, 2, none⟩ (.slice A3m (dl + 1) cap3m)) := ((F38.trans (.of_below hb9)).trans' F10 (fun i hi h => .inr (ro39.lt i h).1)).trans' F11 (fun i hi h => .inl h)
            go_roundw
            case rel => exact ⟨k + 1, v2, _, by omega, by go_num, k311, ro211, ro311, F311⟩
            case measure => simp [intOf]; omega
      · rw [decide_eq_false hm] at HFi
        have hst2 : Hid (hugL V (k + 1) = hugL V k) := Lib.hid (by rw [hstH.out, if_neg (fun h => hm h.1)])
        clear hstH hm
        have k38 := k3
        have ro28 : wr.ownsRow NB 3 1 v2 (hugL V (k + 1)).length ((hugL V (k + 1)).map (Value.int .i64)) := by rw [hst2.out]; exact ro2
        have ro38 := ro3
        have F38 := hF
        have kb8 := kbr
        clear k3 ro2 ro3 hF kbr hlH hcH
        go_upto_region 10 with fail
        refine HFi.out.mono ?_
        rintro e8 w8 ⟨rfl, hw8⟩
        replace hw8 := hw8.symm
        subst hw8
        go_upto_region 10 with fail
        clear HFi
        obtain ⟨X, hX⟩ : ∃ X, arrI .u8 64 (V.pg k).byt = X := ⟨_, rfl⟩
        have hXs : X.size = 64 := by rw [← hX]; simp [arrI]
        have hra : wr.rangeAt b (1 + k * 66 + 2) X.toList := fun j v hj => by
          rw [← hX] at hj
          have hj64 : j < 64 := by have := (List.getElem?_eq_some_iff.1 hj).1; simpa [arrI] using this
          rw [kb8.cell, show 1 + k * 66 + 2 + j = 1 + k * 66 + (j + 2) by omega, hc'.out.byte hlt hj64, ← hj, Array.getElem?_toList, arrI_at hj64]
        have hinf : (Tryz.prog.info? 74).map (·.size) = some X.size := by rw [hXs]; exact infoKinds
        have hinfl : (Tryz.prog.info? 74).map (·.size) = some X.toList.length := by rw [Array.length_toList]; exact hinf
        have hone : X.all (·.oneCell') = true := by
          rw [← hX]; unfold arrI
          exact Go.all_oneCell_toArray (fun x hx => by simp only [List.mem_map] at hx; obtain ⟨i, _, rfl⟩ := hx; rfl)
        have ht : ∀ Z : Array Value, Z.size = 64 → (wr.alloc (.cells Z 74)).there wr.heap.size 0 X.size := fun Z hZ => z_there (Blk.new wr _ Z) 0 X.size (by omega)
        have hw9 : ∀ (Z : Array Value) w9, (wr.alloc (.cells Z 74)).setCells wr.heap.size 0 X.toList = w9 → Z.size = 64 → Blk w9 wr.heap.size 74 X ∧ Below wr.heap.size wr w9 := fun Z w9 h hZ => by
          have kP := Blk.puts (g := wr.heap.size) (t := 74) (w := wr) (cs := #[]) X.toList 0 _ _ (Blk.new wr 74 Z)
          rw [putA_all (by rw [Array.length_toList]; omega)] at kP
          have hF := Far.puts (T := fun k => k = wr.heap.size) rfl X.toList 0 wr _ ((Far.refl _ wr).alloc (.cells Z 74))
          rw [h] at kP hF
          exact ⟨kP, hF.below (Nat.le_refl _) (fun k hk e => by omega)⟩
        have heq : ∀ W, (Op.equalIn 10000 74 (.agg X) (.agg #[.int .u8 0, .int .u8 0, .int .u8 0, .int .u8 0, .int .u8 0, .int .u8 0, .int .u8 0, .int .u8 0, .int .u8 0, .int .u8 0, .int .u8 0, .int .u8 0, .int .u8 0, .int .u8 0, .int .u8 0, .int .u8 0, .int .u8 0, .int .u8 0, .int .u8 0, .int .u8 0, .int .u8 0, .int .u8 0, .int .u8 0, .int .u8 0, .int .u8 0, .int .u8 0, .int .u8 0, .int .u8 0, .int .u8 0, .int .u8 0, .int .u8 0, .int .u8 0, .int .u8 0, .int .u8 0, .int .u8 0, .int .u8 0, .int .u8 0, .int .u8 0, .int .u8 0, .int .u8 0, .int .u8 0, .int .u8 0, .int .u8 0, .int .u8 0, .int .u8 0, .int .u8 0, .int .u8 0, .int .u8 0, .int .u8 0, .int .u8 0, .int .u8 0, .int .u8 0, .int .u8 0, .int .u8 0, .int .u8 0, .int .u8 0, .int .u8 0, .int .u8 0, .int .u8 0, .int .u8 0, .int .u8 0, .int .u8 0, .int .u8 0, .int .u8 0])).run Tryz.prog W = .ok (!nzB (V.pg k)) W := fun W => by
          have h := eq64_any (V.pg k).byt (fun _ => 0) W
          rw [hX, nzB_all] at h
          exact h
        have hX' := Lib.hid hX
        have hXs' := Lib.hid hXs
        clear hX hXs
        go_upto_region 11 with (first
          | (refine wpList_load_mid rfl 74 (.tmp 53) rfl b (1 + k * 66 + 2) rfl X.toList _ hra Tryz.underlying74 rfl hinfl ?_; rw [Array.toArray_toList])
          | (refine wpList_store_mid rfl 74 (.tmp 5) (.tmp 54) rfl wr.heap.size 0 X rfl rfl (ht _ rfl) hinf hone ?_))
        generalize hW9 : World.setCells _ wr.heap.size 0 X.toList = w9
        obtain ⟨k9, hb9⟩ := hw9 _ _ hW9 rfl
        clear hW9 hw9 ht hra
        have hra9 : w9.rangeAt wr.heap.size 0 X.toList := fun j v hj => by rw [Nat.zero_add, k9.cell]; simpa using hj
        cases hnz : nzB (V.pg k) with
        | false =>
          rw [hnz] at heq
          go_wp2_with (refine wpList_load_mid rfl 74 (.tmp 5) rfl wr.heap.size 0 rfl X.toList _ hra9 Tryz.underlying74 rfl hinfl ?_; rw [Array.toArray_toList])
          go_roundw
          case rel =>
            have hstD2 : datL V (k + 1) = datL V k := by rw [hstD.out, if_neg (by rw [hnz]; decide)]
            exact ⟨k + 1, v2, v3, by omega, by go_num, k38.call hb9, ownsRow_call ro28 hb9, by rw [hstD2]; exact ownsRow_call ro38 hb9, F38.trans (.of_below hb9)⟩
          case measure => simp [intOf]; omega
        | true =>
          rw [hnz] at heq
          go_upto_region 12 with (refine wpList_load_mid rfl 74 (.tmp 5) rfl wr.heap.size 0 rfl X.toList _ hra9 Tryz.underlying74 rfl hinfl ?_; rw [Array.toArray_toList])
          obtain ⟨D, hD⟩ : ∃ D, daA (k : Int) (V.pg k).byt = D := ⟨_, rfl⟩
          have hbt : Tryz.prog.built 76 [(0, .int .i64 (k : Int)), (1, .agg X)] = some D := by rw [← hD, ← hX'.out]; exact built_da _ _
          have hb171 : ∀ W, (Instr.build 76 #[(0, .int .i64 (k : Int)), (1, .agg X)]).run Tryz.prog W = .ok (.agg D) W := fun W => run_build W _ _ _ hbt
          have hbs := fill_da (k : Int) (V.pg k).byt
          rw [hD] at hbs
          have hDs : D.toList.length = 65 := by rw [← hD]; simp [daA]
          have hDo : ∀ u ∈ D.toList, u.oneCell' = true := by
            intro u hu
            rw [← hD, ← daC_eq] at hu
            exact daC_one V [k] u (by simpa [fl] using hu)
          have hDl : fl (daC V) [k] = D.toList := by rw [← hD, ← daC_eq]; simp [fl]
          have hstD2 : Hid (datL V (k + 1) = datL V k ++ [k]) := Lib.hid (by rw [hstD.out, if_pos hnz])
          obtain ⟨dl, hdl⟩ : ∃ dl, (datL V k).length = dl := ⟨_, rfl⟩
          rw [hdl] at ro38 hlD
          have ro39 := ownsRow_call ro38 hb9
          have k39 := k38.call hb9
          obtain ⟨A3n, cap3n, rfl, _⟩ := own_Rd ro39
          have c39 : w9.cell? ⟨s3, 2, none⟩ = some (.slice A3n dl cap3n) := (k39.cell 2).trans rfl
          clear hD hnz heq
          have hfl : Instr.fill (fun i => some (i * iD.size, iD.size)) ((Array.range (1 * iD.size)).map ((Value.agg (daA 0 (fun _ => 0))).cells[· % (Value.agg (daA 0 (fun _ => 0))).cells.size]!)) [(0, .agg D)] = some D := by rw [hzD1]; exact hbs
          have hs1 : ¬ 1 * iD.size > 2 ^ 24 := by rw [hzD1]; decide
          have hs2 : ¬ 1 * iD.size = 0 := by rw [hzD1]; decide
          have kD := Blk.new w9 76 D
          have hbD : Below w9.heap.size w9 (w9.alloc (.cells D 76)) := (Below.refl _ _).alloc (Nat.le_refl _) _
          have nwD : ∀ (j : Nat) (u : Value), D.toList[j]? = some u → (w9.alloc (.cells D 76)).cell? ((⟨w9.heap.size, 0, none⟩ : Addr).add j) = some u := fun j u hu => by
            rw [addr_add0, Nat.zero_add, kD.cell]; simpa using hu
          have hsF9 := (F38.trans (.of_below hb9)).size
          clear hbs hb171
          go_wp2_with (refine wpList_load_mid rfl 74 (.tmp 5) rfl wr.heap.size 0 rfl X.toList _ hra9 Tryz.underlying74 rfl hinfl ?_; rw [Array.toArray_toList]; refine wpList_buildU rfl 62 rfl 76 [(0, .tmp 60), (1, .tmp 61)] rfl _ rfl D hbt ?_; refine wpList_buildSliceU rfl 63 rfl 48 76 1 [(0, .tmp 62)] rfl _ rfl D iD _ Tryz.underlying48 hiD hzD0 hs1 hs2 hfl ?_; refine wpList_append_own _ rfl (.tmp 59) (.tmp 63) 48 rfl NB 76 iD (.agg (daA 0 (fun _ => 0))) 65 72 Tryz.underlying48 hiD hzD0 hzD1 hzD2 rfl (by decide) _ dl (fl (daC V) (datL V k)) rfl (ro39.alloc _) ⟨w9.heap.size, 0, none⟩ 1 1 D.toList rfl hDs nwD hDo (by unfold maxLen; omega) (by omega) (by simp; omega) ?_; intro v' w10 hown' hgrow _; rw [← hDl, ← fl_append] at hown'; have F10 : Far (fun g => (Value.slice A3n dl cap3n).ownBlock = some g) w9 w10 := (Far.of_below hbD).grown hgrow (fun g hg _ => hg); have k310 := F10.blk k39 (fun h => own_other ro39 h k39 (by decide)); have f310 := k310.frozen; have c310 : w10.cell? ⟨s3, 2, none⟩ = some (.slice A3n dl cap3n) := (k310.cell 2).trans rfl; obtain ⟨A3m, cap3m, rfl, _⟩ := own_Rd hown'; clear c39)
          have F11 : Far (fun k => k = s3) w10 (w10.setCell ⟨s3, 2, none⟩ (.slice A3m (dl + 1) cap3m)) := Far.setCell (T := fun k => k = s3) (p := ⟨s3, 2, none⟩) (Far.refl _ w10) (fun _ => rfl) _
          have k311 : Blk (w10.setCell ⟨s3, 2, none⟩ (.slice A3m (dl + 1) cap3m)) s3 53 (stC (.slice A1 N1 cap1) v2 (.slice A3m (dl + 1) cap3m) (.slice A4 N4 c4) V.rf.calls V.rf.hits).toArray := k310.set_ 2 _
          have ro311 : (w10.setCell ⟨s3, 2, none⟩ (.slice A3m (dl + 1) cap3m)).ownsRow NB 76 65 (.slice A3m (dl + 1) cap3m) (datL V (k + 1)).length (fl (daC V) (datL V (k + 1))) := by
            rw [hstD2.out, List.length_append, List.length_singleton, hdl]
            exact ownsRow_far hown' F11 (fun g hg h => own_other hown' (hg.trans (congrArg some h)) k310 (by decide))
          have ro29 := ownsRow_call ro28 hb9
          have ro211 := ownsRow_far (ownsRow_far ro29 F10 (fun g hg h => by
            rcases ro39.2 with ⟨hx, _⟩ | ⟨g', cap', cur, hx, _, hkx, _⟩
            · rw [hx] at h; cases h
            · rw [hx] at h
              have e' : g' = g := by injection h
              subst e'
              exact own_other ro29 hg (show Blk w9 g' 76 cur from hkx) (by decide))) F11 (fun g hg h => by
            have := (ro29.lt g hg).1
            omega)
          have F311 : Far (fun k => k = s3 ∨ NB ≤ k) w3 (w10.setCell ⟨s3, 2, none⟩ (.slice A3m (dl + 1) cap3m)) := ((F38.trans (.of_below hb9)).trans' F10 (fun i hi h => .inr (ro39.lt i h).1)).trans' F11 (fun i hi h => .inl h)
          go_roundw
          case rel => exact ⟨k + 1, v2, _, by omega, by go_num, k311, ro211, ro311, F311⟩
          case measure => simp [intOf]; omega
    · obtain rfl : k = 1024 := by omega
      have hlt' : decide (((1024 : Nat) : Int) < 1024) = false := by decide
      obtain ⟨A2, cap2, rfl, r2, _, _, g2, _⟩ := own_Rd ro2
      obtain ⟨A3, cap3, rfl, r3, _, _, g3, _⟩ := own_Rd ro3
      have k2r := hF.blk k23 (by show ¬ (s = s3 ∨ NB ≤ s); omega)
      obtain ⟨C18, hC18⟩ : ∃ C18, stC (.slice A1 N1 cap1) (.slice A2 (hugL V 1024).length cap2) (.slice A3 (datL V 1024).length cap3) (.slice A4 N4 c4) V.rf.calls V.rf.hits = C18 := ⟨_, rfl⟩
      have hC18s : C18.length = 18 := by rw [← hC18]; rfl
      have hC18o : C18.toArray.all (·.oneCell') = true := by rw [← hC18]; exact Go.all_oneCell_toArray (stC_one rfl rfl rfl rfl _ _)
      rw [hC18] at k3
      have hra : wr.rangeAt s3 0 C18 := fun j v hj => by rw [Nat.zero_add, k3.cell]; simpa using hj
      have hinf : (Tryz.prog.info? 53).map (·.size) = some C18.length := by rw [hC18s]; exact infoSt
      have hinfa : (Tryz.prog.info? 53).map (·.size) = some C18.toArray.size := by rw [List.size_toArray]; exact hinf
      have ht : wr.there s 0 C18.toArray.size := z_there k2r 0 _ (by rw [List.size_toArray, hC18s]; exact Nat.le_refl _)
      have kP := Blk.puts (g := s) (t := 53) (w := wr) (cs := #[]) C18 0 wr _ k2r
      rw [putA_all (by rw [hC18s]; rfl)] at kP
      have F9 := Far.puts (T := fun k => k = s) rfl C18 0 wr wr (Far.refl _ _)
      have hC' := Lib.hid hC18
      have hs' := Lib.hid hs
      clear hC18 hC18s hs
      go_wp2_with (first
        | (refine wpList_load_mid rfl 53 (.tmp 3) rfl s3 0 rfl C18 _ hra Tryz.underlying53 rfl hinf ?_)
        | (refine wpList_store_mid rfl 53 (.tmp 2) (.tmp 67) rfl s 0 C18.toArray rfl rfl ht hinfa hC18o ?_))
      generalize World.setCells wr s 0 C18 = w9 at *
      have hl9 := run_loadVar_mid (P := Tryz.prog) w9 s 0 53 C18 _ (fun j v hj => by rw [Nat.zero_add, kP.cell]; simpa using hj) Tryz.underlying53 rfl hinf
      refine bodyPost_ret (v := .agg C18.toArray) ?_ rfl ?_
      · exact z_results_cell1 Tryz.results12 rfl hl9
      have q1r := q13'.out.farN hF (fun k hk ⟨o, e⟩ => by
        have := q4 k o e
        show ¬ (k = s3 ∨ NB ≤ k)
        omega)
      have r1r := r13'.out.farN hF (fun k hk ⟨o, e⟩ h => by
        rcases h with h | h
        · exact hA13 o (h ▸ e)
        · omega)
      have hsz9 := F9.size
      have hszr := hF.size
      refine ⟨_, rfl, ⟨A1, A2, A3, A4, N1, cap1, _, cap2, _, cap3, N4, c4, by rw [hC'.out], hN1'.out, ?_, rfl, ?_, rfl, ?_, hN4'.out, ?_⟩, ?_⟩
      · exact (r1r.farN F9 (fun k hk ⟨o, e⟩ h => by have := hAs.out k o e; omega)).more (by omega)
      · exact RI.more (r2.farN F9 (fun k hk ⟨o, e⟩ h => by have := g2 k o e; omega)) hsz9
      · exact (r3.farN F9 (fun k hk ⟨o, e⟩ h => by have := g3 k o e; omega)).more hsz9
      · exact (q1r.farN F9 (fun k hk ⟨o, e⟩ h => by have := q4 k o e; omega)).more (by omega)
      · rw [hs'.out]
        exact B3.trans ((hF.below (by omega) (fun k hk h => by omega)).trans (F9.below (by omega) (fun k hk h => by omega)))
end Go.Proofs.YtdepkmpilipolaaGreat
