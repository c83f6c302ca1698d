/- Merged texts. Walks of layer 6: Save's first statement, whose order of evaluation is open. Words for the comparison of arrays of integers, and of the bytes of a page. Walks of layer 6: Save. Walks of the reference of layer 6: Write, Join, Split, Plan, New. Walks of the reference of layer 6: the two regions of Save that draw their order, over any slots. Walks of layer 24 over a system: a place left. Walks of layer 24 over a system: a list of spans turned round. What moving's Do does, said in plain words; what After's answer says of the moves. -/
import Derived.DeepKeys
import Derived.Great.BuildSlice
import Derived.Test.YtpabnbhbcphfiaaGreatR5
namespace Go.Pol
open Go Go.RowKit
/-- the cells of a saved state -/
def stC (v1 v2 v3 v4 : Value) (cs hs : Nat → Int) : List Value := v1 :: v2 :: v3 :: rfC v4 cs hs
theorem stC_one {v1 v2 v3 v4 : Value} (h1 : v1.oneCell' = true) (h2 : v2.oneCell' = true) (h3 : v3.oneCell' = true) (h4 : v4.oneCell' = true) (cs hs : Nat → Int) : ∀ x ∈ stC v1 v2 v3 v4 cs hs, x.oneCell' = true := by
  intro x hx
  simp only [stC, List.mem_cons] at hx
  rcases hx with rfl | rfl | rfl | hx
  · exact h1
  · exact h2
  · exact h3
  · exact rfC_one h4 cs hs x hx
end Go.Pol
namespace Go.Proofs.YtpabnbhbcphfiaaGreat
open Go Go.Proofs Go.RowKit Go.Pol Go.Shelf
attribute [local go_sem] Oper.semAt_some Go.Pol.wide_fn Go.Pol.wide_depth Go.Pol.wide_fn' Go.Pol.wide_depth'

theorem wp_storeU {P : Program} {op : Oper} {a : Act} {w : World} {K : Act → World → Prop} {Q : Exit → Act → World → Prop} (ty : TypeId) (x y : Operand) (ho : op.op = .store ty x y) (hd : op.dst = none)
    (b o : Nat) (cells : Array Value) (hx : a.eval x = .pointer (some ⟨b, o, none⟩)) (hy : a.eval y = .agg cells)
    (ht : w.there b o cells.size) (hi : (P.info? ty).map (·.size) = some cells.size) (h1 : cells.all (·.oneCell') = true)
    (h : K a (w.setCells b o cells.toList)) : op.wp P a w K Q :=
  wp_store_mid ty x y ho b o cells hx hy ht hi h1 (by rw [hd]; exact h)
theorem infoSt : (Tryz.prog.info? 53).map (·.size) = some 18 := by kernel_rfl
def lpput (a : Act) (v10 v11 v12 v13 v14 v15 v16 v17 v3 : Value) : Act := ((((((((a.put (some 10) v10).put (some 11) v11).put (some 12) v12).put (some 13) v13).put (some 14) v14).put (some 15) v15).put (some 16) v16).put (some 17) v17).put (some 3) v3
theorem lp_self (a : Act) (hsz : 68 ≤ a.tmps.size) : lpput a (a.eval (.tmp 10)) (a.eval (.tmp 11)) (a.eval (.tmp 12)) (a.eval (.tmp 13)) (a.eval (.tmp 14)) (a.eval (.tmp 15)) (a.eval (.tmp 16)) (a.eval (.tmp 17)) (a.eval (.tmp 3)) = a := by
  have h : ∀ t : Nat, t < 68 → a.put (some t) (a.eval (.tmp t)) = a := fun t ht => by
    have : a.tmps.setIfInBounds t (a.eval (.tmp t)) = a.tmps := by
      apply Array.ext_getElem?
      intro i
      rw [Array.getElem?_setIfInBounds]
      split
      · rename_i e; subst e
        have : t < a.tmps.size := by omega
        simp [Act.eval, this]
      · rfl
    simp only [Act.put, this]
  unfold lpput
  rw [h 10 (by omega), h 11 (by omega), h 12 (by omega), h 13 (by omega), h 14 (by omega), h 15 (by omega), h 16 (by omega), h 17 (by omega), h 3 (by omega)]
section
variable (a : Act) (v10 v11 v12 v13 v14 v15 v16 v17 v3 x : Value)
theorem lp_10 : (lpput a v10 v11 v12 v13 v14 v15 v16 v17 v3).put (some 10) x = lpput a x v11 v12 v13 v14 v15 v16 v17 v3 := by
  unfold lpput
  rw [swapU _ 3 10 _ _ (by omega), swapU _ 17 10 _ _ (by omega), swapU _ 16 10 _ _ (by omega), swapU _ 15 10 _ _ (by omega), swapU _ 14 10 _ _ (by omega), swapU _ 13 10 _ _ (by omega), swapU _ 12 10 _ _ (by omega), swapU _ 11 10 _ _ (by omega), putU]
theorem lp_11 : (lpput a v10 v11 v12 v13 v14 v15 v16 v17 v3).put (some 11) x = lpput a v10 x v12 v13 v14 v15 v16 v17 v3 := by
  unfold lpput
  rw [swapU _ 3 11 _ _ (by omega), swapU _ 17 11 _ _ (by omega), swapU _ 16 11 _ _ (by omega), swapU _ 15 11 _ _ (by omega), swapU _ 14 11 _ _ (by omega), swapU _ 13 11 _ _ (by omega), swapU _ 12 11 _ _ (by omega), putU]
theorem lp_12 : (lpput a v10 v11 v12 v13 v14 v15 v16 v17 v3).put (some 12) x = lpput a v10 v11 x v13 v14 v15 v16 v17 v3 := by
  unfold lpput
  rw [swapU _ 3 12 _ _ (by omega), swapU _ 17 12 _ _ (by omega), swapU _ 16 12 _ _ (by omega), swapU _ 15 12 _ _ (by omega), swapU _ 14 12 _ _ (by omega), swapU _ 13 12 _ _ (by omega), putU]
theorem lp_13 : (lpput a v10 v11 v12 v13 v14 v15 v16 v17 v3).put (some 13) x = lpput a v10 v11 v12 x v14 v15 v16 v17 v3 := by
  unfold lpput
  rw [swapU _ 3 13 _ _ (by omega), swapU _ 17 13 _ _ (by omega), swapU _ 16 13 _ _ (by omega), swapU _ 15 13 _ _ (by omega), swapU _ 14 13 _ _ (by omega), putU]
theorem lp_14 : (lpput a v10 v11 v12 v13 v14 v15 v16 v17 v3).put (some 14) x = lpput a v10 v11 v12 v13 x v15 v16 v17 v3 := by
  unfold lpput
  rw [swapU _ 3 14 _ _ (by omega), swapU _ 17 14 _ _ (by omega), swapU _ 16 14 _ _ (by omega), swapU _ 15 14 _ _ (by omega), putU]
theorem lp_15 : (lpput a v10 v11 v12 v13 v14 v15 v16 v17 v3).put (some 15) x = lpput a v10 v11 v12 v13 v14 x v16 v17 v3 := by
  unfold lpput
  rw [swapU _ 3 15 _ _ (by omega), swapU _ 17 15 _ _ (by omega), swapU _ 16 15 _ _ (by omega), putU]
theorem lp_16 : (lpput a v10 v11 v12 v13 v14 v15 v16 v17 v3).put (some 16) x = lpput a v10 v11 v12 v13 v14 v15 x v17 v3 := by
  unfold lpput
  rw [swapU _ 3 16 _ _ (by omega), swapU _ 17 16 _ _ (by omega), putU]
theorem lp_17 : (lpput a v10 v11 v12 v13 v14 v15 v16 v17 v3).put (some 17) x = lpput a v10 v11 v12 v13 v14 v15 v16 x v3 := by
  unfold lpput
  rw [swapU _ 3 17 _ _ (by omega), putU]
theorem lp_3 : (lpput a v10 v11 v12 v13 v14 v15 v16 v17 v3).put (some 3) x = lpput a v10 v11 v12 v13 v14 v15 v16 v17 x := by
  unfold lpput
  rw [putU]
end
section
variable (a : Act) (hsz : 68 ≤ a.tmps.size) (v10 v11 v12 v13 v14 v15 v16 v17 v3 : Value)
include hsz
theorem lpev_10 : (lpput a v10 v11 v12 v13 v14 v15 v16 v17 v3).eval (.tmp 10) = v10 := by
  unfold lpput
  rw [evalU_ne _ 3 10 _ (by omega), evalU_ne _ 17 10 _ (by omega), evalU_ne _ 16 10 _ (by omega), evalU_ne _ 15 10 _ (by omega), evalU_ne _ 14 10 _ (by omega), evalU_ne _ 13 10 _ (by omega), evalU_ne _ 12 10 _ (by omega), evalU_ne _ 11 10 _ (by omega), evalU_same _ _ _ (by omega)]
theorem lpev_11 : (lpput a v10 v11 v12 v13 v14 v15 v16 v17 v3).eval (.tmp 11) = v11 := by
  unfold lpput
  rw [evalU_ne _ 3 11 _ (by omega), evalU_ne _ 17 11 _ (by omega), evalU_ne _ 16 11 _ (by omega), evalU_ne _ 15 11 _ (by omega), evalU_ne _ 14 11 _ (by omega), evalU_ne _ 13 11 _ (by omega), evalU_ne _ 12 11 _ (by omega), evalU_same _ _ _ (by rw [sizeU]; omega)]
theorem lpev_12 : (lpput a v10 v11 v12 v13 v14 v15 v16 v17 v3).eval (.tmp 12) = v12 := by
  unfold lpput
  rw [evalU_ne _ 3 12 _ (by omega), evalU_ne _ 17 12 _ (by omega), evalU_ne _ 16 12 _ (by omega), evalU_ne _ 15 12 _ (by omega), evalU_ne _ 14 12 _ (by omega), evalU_ne _ 13 12 _ (by omega), evalU_same _ _ _ (by rw [sizeU, sizeU]; omega)]
theorem lpev_13 : (lpput a v10 v11 v12 v13 v14 v15 v16 v17 v3).eval (.tmp 13) = v13 := by
  unfold lpput
  rw [evalU_ne _ 3 13 _ (by omega), evalU_ne _ 17 13 _ (by omega), evalU_ne _ 16 13 _ (by omega), evalU_ne _ 15 13 _ (by omega), evalU_ne _ 14 13 _ (by omega), evalU_same _ _ _ (by rw [sizeU, sizeU, sizeU]; omega)]
theorem lpev_14 : (lpput a v10 v11 v12 v13 v14 v15 v16 v17 v3).eval (.tmp 14) = v14 := by
  unfold lpput
  rw [evalU_ne _ 3 14 _ (by omega), evalU_ne _ 17 14 _ (by omega), evalU_ne _ 16 14 _ (by omega), evalU_ne _ 15 14 _ (by omega), evalU_same _ _ _ (by rw [sizeU, sizeU, sizeU, sizeU]; omega)]
theorem lpev_15 : (lpput a v10 v11 v12 v13 v14 v15 v16 v17 v3).eval (.tmp 15) = v15 := by
  unfold lpput
  rw [evalU_ne _ 3 15 _ (by omega), evalU_ne _ 17 15 _ (by omega), evalU_ne _ 16 15 _ (by omega), evalU_same _ _ _ (by rw [sizeU, sizeU, sizeU, sizeU, sizeU]; omega)]
theorem lpev_16 : (lpput a v10 v11 v12 v13 v14 v15 v16 v17 v3).eval (.tmp 16) = v16 := by
  unfold lpput
  rw [evalU_ne _ 3 16 _ (by omega), evalU_ne _ 17 16 _ (by omega), evalU_same _ _ _ (by rw [sizeU, sizeU, sizeU, sizeU, sizeU, sizeU]; omega)]
theorem lpev_17 : (lpput a v10 v11 v12 v13 v14 v15 v16 v17 v3).eval (.tmp 17) = v17 := by
  unfold lpput
  rw [evalU_ne _ 3 17 _ (by omega), evalU_same _ _ _ (by rw [sizeU, sizeU, sizeU, sizeU, sizeU, sizeU, sizeU]; omega)]
theorem lpev_3 : (lpput a v10 v11 v12 v13 v14 v15 v16 v17 v3).eval (.tmp 3) = v3 := by
  unfold lpput
  rw [evalU_same _ _ _ (by rw [sizeU, sizeU, sizeU, sizeU, sizeU, sizeU, sizeU, sizeU]; omega)]
omit hsz in
theorem lpev_0 : (lpput a v10 v11 v12 v13 v14 v15 v16 v17 v3).eval (.tmp 0) = a.eval (.tmp 0) := by
  unfold lpput
  rw [evalU_ne _ 3 0 _ (by omega), evalU_ne _ 17 0 _ (by omega), evalU_ne _ 16 0 _ (by omega), evalU_ne _ 15 0 _ (by omega), evalU_ne _ 14 0 _ (by omega), evalU_ne _ 13 0 _ (by omega), evalU_ne _ 12 0 _ (by omega), evalU_ne _ 11 0 _ (by omega), evalU_ne _ 10 0 _ (by omega)]
end

noncomputable def saveOps : Array Oper := (Tryz.f16.body.bind (regOpsU 3)).getD #[]
/-- the value of the closure that goes through the runs -/
def clR (B1 : Nat) : Value := .func (.func 133) #[] #[.pointer (some ⟨B1, 0, none⟩)]
def SaveInv (a0 : Act) (w0 : World) (b : Nat) (V : Vm) (rv : Value) (D : Nat → Bool) (a : Act) (w : World) : Prop :=
  ∃ (v10 v11 v12 v13 v14 v15 v16 v17 v3 : Value) (B1 s3 : Nat), a = lpput a0 v10 v11 v12 v13 v14 v15 v16 v17 v3 ∧ Below w0.heap.size w0 w ∧ (D 0 = true → v10 = .pointer (some ⟨b, 0, none⟩)) ∧
    (D 1 = true → v11 = clR B1 ∧ w0.heap.size ≤ B1 ∧ Blk w B1 34 #[.pointer (some ⟨b, 0, none⟩)]) ∧
    (D 2 = true → w.ownsRow w0.heap.size 122 3 v12 (vrunsL V 1024).length (fl rnC (vrunsL V 1024))) ∧
    (D 3 = true → v13 = .pointer (some ⟨b, 0, none⟩)) ∧ (D 4 = true → v14 = .pointer (some ⟨b, 0, none⟩)) ∧ (D 5 = true → v15 = .pointer (some ⟨b, 67585, none⟩)) ∧ (D 6 = true → v16 = rfV rv V.rf.calls V.rf.hits) ∧
    (D 7 = true → v17 = .agg (stC v12 (.slice none 0 0) (.slice none 0 0) rv V.rf.calls V.rf.hits).toArray) ∧
    (D 8 = true → v3 = .pointer (some ⟨s3, 0, none⟩) ∧ w0.heap.size ≤ s3 ∧ Blk w s3 53 (if D 9 = true then (stC v12 (.slice none 0 0) (.slice none 0 0) rv V.rf.calls V.rf.hits).toArray else (stC (.slice none 0 0) (.slice none 0 0) (.slice none 0 0) (.slice none 0 0) (fun _ => 0) (fun _ => 0)).toArray)) ∧
    (D 9 = true → D 8 = true ∧ D 7 = true) ∧ (D 7 = true → D 2 = true ∧ D 6 = true)
attribute [local irreducible] Oper.wp in
set_option maxHeartbeats 3200000 in
theorem save_first {Q : Exit → Act → World → Prop} (a0 : Act) (w0 : World) (b : Nat) (cs : Array Value) (V : Vm) (A : Option Addr) (n cap : Nat) (hsz : 68 ≤ a0.tmps.size) (hp0 : a0.eval (.tmp 0) = .pointer (some ⟨b, 0, none⟩))
    (kS : Blk w0 b 133 cs) (hc : SysC cs (.slice A n cap) V)
    (hQ : ∀ (B1 s3 : Nat) (v12 : Value) (w' : World), w0.heap.size ≤ s3 → Blk w' s3 53 (stC v12 (.slice none 0 0) (.slice none 0 0) (.slice A n cap) V.rf.calls V.rf.hits).toArray → w'.ownsRow w0.heap.size 122 3 v12 (vrunsL V 1024).length (fl rnC (vrunsL V 1024)) → Below w0.heap.size w0 w' →
      Q .normal (lpput a0 (.pointer (some ⟨b, 0, none⟩)) (clR B1) v12 (.pointer (some ⟨b, 0, none⟩)) (.pointer (some ⟨b, 0, none⟩)) (.pointer (some ⟨b, 67585, none⟩)) (rfV (.slice A n cap) V.rf.calls V.rf.hits) (.agg (stC v12 (.slice none 0 0) (.slice none 0 0) (.slice A n cap) V.rf.calls V.rf.hits).toArray) (.pointer (some ⟨s3, 0, none⟩))) w') :
    (Code.region 3 saveOps true).wp Tryz.prog Q a0 w0 := by
  conv => arg 2; arg 2; whnf
  have hbl := kS.lt
  refine region_inv (SaveInv a0 w0 b V (.slice A n cap)) (by kernel_rfl) (by simp [edgesDown, Region.binds]) ?ext ?start ?steps ?fin
  case ext =>
    intro D D' a w h hI
    have e : ∀ i, i < 10 → D i = D' i := h
    have : SaveInv a0 w0 b V (.slice A n cap) D a w = SaveInv a0 w0 b V (.slice A n cap) D' a w := by
      unfold SaveInv
      simp only [e 0 (by omega), e 1 (by omega), e 2 (by omega), e 3 (by omega), e 4 (by omega), e 5 (by omega), e 6 (by omega), e 7 (by omega), e 8 (by omega), e 9 (by omega)]
    exact this ▸ hI
  case start =>
    intro D h
    have n : ∀ i, i < 10 → ¬ (D i = true) := fun i hi => by rw [h i hi]; decide
    exact ⟨_, _, _, _, _, _, _, _, _, 0, 0, (lp_self a0 hsz).symm, (Below.refl _ w0).drew, fun h => absurd h (n 0 (by omega)), fun h => absurd h (n 1 (by omega)), fun h => absurd h (n 2 (by omega)), fun h => absurd h (n 3 (by omega)), fun h => absurd h (n 4 (by omega)), fun h => absurd h (n 5 (by omega)), fun h => absurd h (n 6 (by omega)), fun h => absurd h (n 7 (by omega)), fun h => absurd h (n 8 (by omega)), fun h => absurd h (n 9 (by omega)), fun h => absurd h (n 7 (by omega))⟩
  case fin =>
    rintro a w ⟨v10, v11, v12, v13, v14, v15, v16, v17, v3, B1, s3, rfl, hb, h0, h1, h2, h3, h4, h5, h6, h7, h8, _, _⟩
    obtain rfl := h0 rfl
    obtain ⟨rfl, _, _⟩ := h1 rfl
    obtain rfl := h3 rfl
    obtain rfl := h4 rfl
    obtain rfl := h5 rfl
    obtain rfl := h6 rfl
    obtain rfl := h7 rfl
    obtain ⟨rfl, g8, k8⟩ := h8 rfl
    simp only [if_true] at k8
    exact hQ B1 s3 v12 w g8 k8 (h2 rfl) hb
  case steps =>
    refine ⟨?_, ?_, ?_, ?_, ?_, ?_, ?_, ?_, ?_, ?_, trivial⟩
    all_goals (rintro D a w ⟨v10, v11, v12, v13, v14, v15, v16, v17, v3, B1, s3, rfl, hb, h0, h1, h2, h3, h4, h5, h6, h7, h8, h98, h76⟩ hk he)
    all_goals (refine step_plainU rfl ?_)
    · refine wp_valU (v := .pointer (some ⟨b, 0, none⟩)) (w' := w) (by simp only [execOp, lpev_0, hp0]; simp [go_sem]) ?_
      show SaveInv a0 w0 b V (.slice A n cap) _ ((lpput a0 v10 v11 v12 v13 v14 v15 v16 v17 v3).put (some 10) _) _; rw [lp_10]
      refine ⟨_, _, _, _, _, _, _, _, _, B1, s3, rfl, hb, ?_⟩
      simp only [Nat.reduceBEq, Bool.true_or, Bool.false_or, forall_const]
      exact ⟨trivial, h1, h2, h3, h4, h5, h6, h7, h8, h98, h76⟩
    · have e := h0 (he ⟨0, .data⟩ (by simp) rfl)
      have ev' : (lpput a0 v10 v11 v12 v13 v14 v15 v16 v17 v3).tmps[10]?.getD undef = .pointer (some ⟨b, 0, none⟩) := by
        have := (lpev_10 a0 hsz v10 v11 v12 v13 v14 v15 v16 v17 v3).trans e
        simpa [Act.eval] using this
      refine wp_enterV (f := 69) (args := #[.pointer (some ⟨b, 0, none⟩)]) (w1 := w) (C := fun v w' => v = clR w.heap.size ∧ w' = w.alloc (.cells #[.pointer (some ⟨b, 0, none⟩)] 34)) (by simp only [execOp]; simp [go_sem, ev']) ((vruns_any b w).mono fun e w' ⟨h1, h2⟩ => ⟨_, h1, rfl, h2⟩) ?_
      rintro v w' ⟨rfl, rfl⟩
      show SaveInv a0 w0 b V (.slice A n cap) _ ((lpput a0 v10 v11 v12 v13 v14 v15 v16 v17 v3).put (some 11) _) _; rw [lp_11]
      refine ⟨_, _, _, _, _, _, _, _, _, w.heap.size, s3, rfl, hb.alloc hb.size _, ?_⟩
      simp only [Nat.reduceBEq, Nat.reduceAdd, Bool.true_or, Bool.false_or, forall_const]
      have hbA := (Below.refl w.heap.size w).alloc (Nat.le_refl _) (.cells #[.pointer (some ⟨b, 0, none⟩)] 34)
      exact ⟨h0, ⟨trivial, hb.size, Blk.new _ _ _⟩, fun d => ownsRow_call (h2 d) hbA, h3, h4, h5, h6, h7, fun d => ⟨(h8 d).1, (h8 d).2.1, (h8 d).2.2.call hbA⟩, h98, h76⟩
    · obtain ⟨rfl, g1, k1⟩ := h1 (he ⟨1, .data⟩ (by simp) rfl)
      have ev' : (lpput a0 v10 (clR B1) v12 v13 v14 v15 v16 v17 v3).tmps[11]?.getD undef = clR B1 := by
        have := lpev_11 a0 hsz v10 (clR B1) v12 v13 v14 v15 v16 v17 v3
        simpa [Act.eval] using this
      have hd7 : D 7 = false := by cases h : D 7 with | false => rfl | true => rw [(h76 h).1] at hk; cases hk
      have hd9 : D 9 = false := by
        cases h : D 9 with
        | false => rfl
        | true => rw [(h98 h).2] at hd7; cases hd7
      refine wp_enterV (f := 68) (args := #[clR B1]) (w1 := w) (C := fun v w' => w'.ownsRow w.heap.size 122 3 v (vrunsL V 1024).length (fl rnC (vrunsL V 1024)) ∧ Below w.heap.size w w') (by simp only [execOp]; simp [go_sem, ev']) ((collectR_any _ _ (fun k => k = b ∨ k = B1) (vrunsL V 1024) w (Nat.le_trans (vrunsL_len V 1024) (by omega)) (vruns1_seq b B1 V cs _ _ w (.inl rfl) (.inr rfl) k1 (kS.call hb) hc) vruns1_enters (fun k hk => hk.elim (fun h => by rw [h]; exact Nat.lt_of_lt_of_le hbl hb.size) (fun h => by rw [h]; exact k1.lt))).mono fun e w' ⟨v, h1, h2, h3⟩ => ⟨v, h1, h2, h3⟩) ?_
      rintro v w' ⟨hrow, hbA⟩
      show SaveInv a0 w0 b V (.slice A n cap) _ ((lpput a0 v10 (clR B1) v12 v13 v14 v15 v16 v17 v3).put (some 12) _) _; rw [lp_12]
      refine ⟨_, _, _, _, _, _, _, _, _, B1, s3, rfl, hb.trans (hbA.mono hb.size), ?_⟩
      simp only [Nat.reduceBEq, Nat.reduceAdd, Bool.true_or, Bool.false_or, forall_const]
      simp only [hd7, hd9] at h7 h8 ⊢
      exact ⟨h0, fun _ => ⟨trivial, g1, k1.call hbA⟩, ownsRow_base hrow hb.size, h3, h4, h5, h6, fun d => (by cases d), fun d => ⟨(h8 d).1, (h8 d).2.1, (h8 d).2.2.call hbA⟩, fun d => (by cases d), fun d => (by cases d)⟩
    · refine wp_valU (v := .pointer (some ⟨b, 0, none⟩)) (w' := w) (by simp only [execOp, lpev_0, hp0]; simp [go_sem]) ?_
      show SaveInv a0 w0 b V (.slice A n cap) _ ((lpput a0 v10 v11 v12 v13 v14 v15 v16 v17 v3).put (some 13) _) _; rw [lp_13]
      refine ⟨_, _, _, _, _, _, _, _, _, B1, s3, rfl, hb, ?_⟩
      simp only [Nat.reduceBEq, Nat.reduceAdd, Bool.true_or, Bool.false_or, forall_const]
      exact ⟨h0, h1, h2, trivial, h4, h5, h6, h7, h8, h98, h76⟩
    · have e := h3 (he ⟨3, .data⟩ (by simp) rfl)
      refine wp_valU (v := .pointer (some ⟨b, 0, none⟩)) (w' := w) (by simp only [execOp, lpev_13 _ hsz, e]; simp [go_sem]) ?_
      show SaveInv a0 w0 b V (.slice A n cap) _ ((lpput a0 v10 v11 v12 v13 v14 v15 v16 v17 v3).put (some 14) _) _; rw [lp_14]
      refine ⟨_, _, _, _, _, _, _, _, _, B1, s3, rfl, hb, ?_⟩
      simp only [Nat.reduceBEq, Nat.reduceAdd, Bool.true_or, Bool.false_or, forall_const]
      exact ⟨h0, h1, h2, h3, trivial, h5, h6, h7, h8, h98, h76⟩
    · have e := h4 (he ⟨4, .data⟩ (by simp) rfl)
      refine wp_valU (v := .pointer (some ⟨b, 67585, none⟩)) (w' := w) (by simp only [execOp, lpev_14 _ hsz, e]; simp [go_sem]) ?_
      show SaveInv a0 w0 b V (.slice A n cap) _ ((lpput a0 v10 v11 v12 v13 v14 v15 v16 v17 v3).put (some 15) _) _; rw [lp_15]
      refine ⟨_, _, _, _, _, _, _, _, _, B1, s3, rfl, hb, ?_⟩
      simp only [Nat.reduceBEq, Nat.reduceAdd, Bool.true_or, Bool.false_or, forall_const]
      exact ⟨h0, h1, h2, h3, h4, trivial, h6, h7, h8, h98, h76⟩
    · have e := h5 (he ⟨5, .data⟩ (by simp) rfl)
      have kb := kS.call hb
      have hrng : w.rangeAt b 67585 (rfC (.slice A n cap) V.rf.calls V.rf.hits) := fun j v hj => by
        have hj15 : j < 15 := (List.getElem?_eq_some_iff.1 hj).1
        rw [kb.cell, hc.rf j hj15]; exact hj
      have hd7 : D 7 = false := by cases h : D 7 with | false => rfl | true => rw [(h76 h).2] at hk; cases hk
      refine wp_load_mid 51 (.tmp 15) rfl b 67585 ((lpev_15 _ hsz ..).trans e) (rfC (.slice A n cap) V.rf.calls V.rf.hits) _ hrng Tryz.underlying51 rfl infoRf ?_
      show SaveInv a0 w0 b V (.slice A n cap) _ ((lpput a0 v10 v11 v12 v13 v14 v15 v16 v17 v3).put (some 16) _) _; rw [lp_16]
      refine ⟨_, _, _, _, _, _, _, _, _, B1, s3, rfl, hb, ?_⟩
      simp only [Nat.reduceBEq, Nat.reduceAdd, Bool.true_or, Bool.false_or, forall_const]
      simp only [hd7] at h7 ⊢
      exact ⟨h0, h1, h2, h3, h4, h5, rfl, fun d => (by cases d), h8, fun d => (by rw [(h98 d).2] at hd7; cases hd7), fun d => (by cases d)⟩
    · have d2 := he ⟨2, .data⟩ (by simp) rfl
      have d6 := he ⟨6, .data⟩ (by simp) rfl
      obtain rfl := h6 d6
      obtain ⟨A', cap', rfl, _⟩ := own_Rd (h2 d2)
      have ev12 : (lpput a0 v10 v11 (.slice A' (vrunsL V 1024).length cap') v13 v14 v15 (rfV (.slice A n cap) V.rf.calls V.rf.hits) v17 v3).tmps[12]?.getD undef = .slice A' (vrunsL V 1024).length cap' := by
        have := lpev_12 a0 hsz v10 v11 (.slice A' (vrunsL V 1024).length cap') v13 v14 v15 (rfV (.slice A n cap) V.rf.calls V.rf.hits) v17 v3
        simpa [Act.eval] using this
      have ev16 : (lpput a0 v10 v11 (.slice A' (vrunsL V 1024).length cap') v13 v14 v15 (rfV (.slice A n cap) V.rf.calls V.rf.hits) v17 v3).tmps[16]?.getD undef = rfV (.slice A n cap) V.rf.calls V.rf.hits := by
        have := lpev_16 a0 hsz v10 v11 (.slice A' (vrunsL V 1024).length cap') v13 v14 v15 (rfV (.slice A n cap) V.rf.calls V.rf.hits) v17 v3
        simpa [Act.eval] using this
      refine wp_valU (v := .agg (stC (.slice A' (vrunsL V 1024).length cap') (.slice none 0 0) (.slice none 0 0) (.slice A n cap) V.rf.calls V.rf.hits).toArray) (w' := w) (by
        generalize lpput a0 v10 v11 (.slice A' (vrunsL V 1024).length cap') v13 v14 v15 (rfV (.slice A n cap) V.rf.calls V.rf.hits) v17 v3 = aa at *
        generalize (vrunsL V 1024).length = N at *
        unfold rfV rfC at ev16
        unfold stC rfC
        simp only [execOp]
        simp [go_sem, ev12, ev16]) ?_
      show SaveInv a0 w0 b V (.slice A n cap) _ ((lpput a0 v10 v11 (.slice A' (vrunsL V 1024).length cap') v13 v14 v15 (rfV (.slice A n cap) V.rf.calls V.rf.hits) v17 v3).put (some 17) _) _; rw [lp_17]
      refine ⟨_, _, _, _, _, _, _, _, _, B1, s3, rfl, hb, ?_⟩
      simp only [Nat.reduceBEq, Nat.reduceAdd, Bool.true_or, Bool.false_or, forall_const]
      exact ⟨h0, h1, h2, h3, h4, h5, fun _ => trivial, trivial, h8, fun d => ⟨(h98 d).1, trivial⟩, d2, d6⟩
    · have hd9 : D 9 = false := by cases h : D 9 with | false => rfl | true => rw [(h98 h).1] at hk; cases hk
      have hbA := (Below.refl w.heap.size w).alloc (Nat.le_refl _) (.cells (stC (.slice none 0 0) (.slice none 0 0) (.slice none 0 0) (.slice none 0 0) (fun _ => 0) (fun _ => 0)).toArray 53)
      refine wp_valU (v := .pointer (some ⟨w.heap.size, 0, none⟩)) (w' := w.alloc (.cells (stC (.slice none 0 0) (.slice none 0 0) (.slice none 0 0) (.slice none 0 0) (fun _ => 0) (fun _ => 0)).toArray 53)) (by unfold stC rfC; simp [execOp, go_sem]) ?_
      show SaveInv a0 w0 b V (.slice A n cap) _ ((lpput a0 v10 v11 v12 v13 v14 v15 v16 v17 v3).put (some 3) _) _; rw [lp_3]
      refine ⟨_, _, _, _, _, _, _, _, _, B1, w.heap.size, rfl, hb.alloc hb.size _, ?_⟩
      simp only [Nat.reduceBEq, Nat.reduceAdd, Bool.true_or, Bool.false_or, forall_const]
      simp only [hd9]
      exact ⟨h0, fun d => ⟨(h1 d).1, (h1 d).2.1, (h1 d).2.2.call hbA⟩, fun d => ownsRow_call (h2 d) hbA, h3, h4, h5, h6, h7, ⟨trivial, hb.size, Blk.new _ _ _⟩, fun d => (by cases d), h76⟩
    · have d8 := he ⟨8, .data⟩ (by simp) rfl
      have d7 := he ⟨7, .data⟩ (by simp) rfl
      obtain ⟨d2, d6⟩ := h76 d7
      obtain ⟨rfl, g8, k8⟩ := h8 d8
      obtain rfl := h7 d7
      have hrow := h2 d2
      obtain ⟨A', cap', rfl, _⟩ := own_Rd hrow
      have k8' : Blk w s3 53 (stC (.slice none 0 0) (.slice none 0 0) (.slice none 0 0) (.slice none 0 0) (fun _ => 0) (fun _ => 0)).toArray := by rw [hk] at k8; exact k8
      have hF := Far.puts (T := fun k => k = s3) rfl (stC (.slice A' (vrunsL V 1024).length cap') (.slice none 0 0) (.slice none 0 0) (.slice A n cap) V.rf.calls V.rf.hits) 0 w w (Far.refl _ _)
      have kP := Blk.puts (g := s3) (t := 53) (w := w) (cs := #[]) (stC (.slice A' (vrunsL V 1024).length cap') (.slice none 0 0) (.slice none 0 0) (.slice A n cap) V.rf.calls V.rf.hits) 0 w _ k8'
      rw [putA_all (by rfl)] at kP
      have hs18 : (stC (.slice A' (vrunsL V 1024).length cap') (.slice none 0 0) (.slice none 0 0) (.slice A n cap) V.rf.calls V.rf.hits).toArray.size = 18 := by rw [List.size_toArray]; rfl
      have ht : w.there s3 0 (stC (.slice A' (vrunsL V 1024).length cap') (.slice none 0 0) (.slice none 0 0) (.slice A n cap) V.rf.calls V.rf.hits).toArray.size := by rw [hs18]; exact z_there k8' 0 18 (by rw [List.size_toArray]; exact Nat.le_refl _)
      have hinf : (Tryz.prog.info? 53).map (·.size) = some (stC (.slice A' (vrunsL V 1024).length cap') (.slice none 0 0) (.slice none 0 0) (.slice A n cap) V.rf.calls V.rf.hits).toArray.size := by rw [hs18]; exact infoSt
      refine wp_storeU 53 (.tmp 3) (.tmp 17) rfl rfl s3 0 (stC (.slice A' (vrunsL V 1024).length cap') (.slice none 0 0) (.slice none 0 0) (.slice A n cap) V.rf.calls V.rf.hits).toArray (lpev_3 _ hsz ..) (lpev_17 _ hsz ..) ht hinf (Go.all_oneCell_toArray (stC_one rfl rfl rfl rfl _ _)) ?_
      refine ⟨_, _, _, _, _, _, _, _, _, B1, s3, rfl, hb.trans (hF.below hb.size (fun k hk e => by omega)), ?_⟩
      simp only [Nat.reduceBEq, Nat.reduceAdd, Bool.true_or, Bool.false_or, forall_const, if_true]
      exact ⟨h0, fun d => ⟨(h1 d).1, (h1 d).2.1, hF.blk (h1 d).2.2 (Blk.ne_ (h1 d).2.2 k8' (by decide))⟩, fun _ => ownsRow_far hrow hF (fun g hg h => own_other hrow (hg.trans (congrArg some h)) k8' (by decide)), h3, h4, h5, h6, fun _ => trivial, fun _ => ⟨trivial, g8, kP⟩, ⟨d8, d7⟩, h76⟩
end Go.Proofs.YtpabnbhbcphfiaaGreat
namespace Go.Proofs.YtpabnbhbcphfiaaGreat
open Go Go.Proofs Go.RowKit Go.Pol Go.Shelf
attribute [local go_sem] Oper.semAt_some Go.Pol.wide_fn Go.Pol.wide_depth Go.Pol.wide_fn' Go.Pol.wide_depth'

def arrI (k : IntKind) (n : Nat) (f : Nat → Int) : Array Value := ((List.range n).map fun i => .int k (f i)).toArray
theorem arrI_at {k : IntKind} {n : Nat} {f : Nat → Int} {i : Nat} (h : i < n) : (arrI k n f)[i]? = some (.int k (f i)) := by
  unfold arrI
  rw [List.getElem?_toArray, List.getElem?_map, List.getElem?_range h]; rfl
theorem eqItems_u8 (f g : Nat → Int) (w : World) : ∀ is : List Nat, (∀ i ∈ is, i < 64) → (Op.eqItems 9999 5 1 (arrI .u8 64 f) (arrI .u8 64 g) is).run Tryz.prog w = .ok (is.all fun i => f i == g i) w
  | [], _ => by simp [Op.eqItems]
  | i :: is, h => by
    have ih := eqItems_u8 f g w is (fun j hj => h j (by simp [hj]))
    have h1 := arrI_at (k := .u8) (f := f) (h i (by simp))
    have h2 := arrI_at (k := .u8) (f := g) (h i (by simp))
    have a3 := Tryz.isAgg5
    have he := run_equalIn_int (P := Tryz.prog) w 9998 5 .u8 _ (f i) (g i) Tryz.underlying5
    generalize arrI .u8 64 f = X at *
    generalize arrI .u8 64 g = Y at *
    have p1 : (part 5 X (i * 1)).run Tryz.prog w = .ok (.int .u8 (f i)) w := by simp [part, a3, h1]
    have p2 : (part 5 Y (i * 1)).run Tryz.prog w = .ok (.int .u8 (g i)) w := by simp [part, a3, h2]
    simp only [Op.eqItems, Sem.run_bind, p1, p2, he, Result.andThen_ok, List.all_cons]
    cases f i == g i with
    | false => simp
    | true => simp only [Bool.not_true, Bool.false_eq_true, if_false, Bool.true_and]; exact ih
theorem eq64_any (f g : Nat → Int) (w : World) : (Op.equalIn 10000 85 (.agg (arrI .u8 64 f)) (.agg (arrI .u8 64 g))).run Tryz.prog w = .ok ((List.range 64).all fun i => f i == g i) w := by
  obtain ⟨i0, hi⟩ := info_of_underlying (P := Tryz.prog) Tryz.underlying5
  rw [run_equalIn_array w 9999 _ _ Tryz.underlying85 hi]
  have hc : Tryz.prog.cellsOf 5 = 1 := by kernel_rfl
  rw [hc]
  exact eqItems_u8 f g w _ (fun i hi => List.mem_range.1 hi)
theorem eqItems_i (f : Nat → Int) (w : World) : ∀ is : List Nat, (∀ i ∈ is, i < 7) → (Op.eqItems 9999 3 1 (arrI .i64 7 f) (arrI .i64 7 f) is).run Tryz.prog w = .ok true w
  | [], _ => by simp [Op.eqItems]
  | i :: is, h => by
    have ih := eqItems_i f w is (fun j hj => h j (by simp [hj]))
    have h1 := arrI_at (k := .i64) (f := f) (h i (by simp))
    have a3 := Tryz.isAgg3
    have he := run_equalIn_int (P := Tryz.prog) w 9998 3 .i64 _ (f i) (f i) Tryz.underlying3
    generalize arrI .i64 7 f = X at *
    have p1 : (part 3 X (i * 1)).run Tryz.prog w = .ok (.int .i64 (f i)) w := by simp [part, a3, h1]
    rw [show (f i == f i) = true by simp] at he
    simp only [Op.eqItems, Sem.run_bind, p1, he, Result.andThen_ok, Bool.not_true, Bool.false_eq_true, if_false]
    exact ih
theorem eq7_any (f : Nat → Int) (w : World) : (Op.equalIn 10000 49 (.agg (arrI .i64 7 f)) (.agg (arrI .i64 7 f))).run Tryz.prog w = .ok true w := by
  obtain ⟨i0, hi⟩ := info_of_underlying (P := Tryz.prog) Tryz.underlying3
  rw [run_equalIn_array w 9999 _ _ Tryz.underlying49 hi]
  have hc : Tryz.prog.cellsOf 3 = 1 := by kernel_rfl
  rw [hc]
  exact eqItems_i f w _ (fun i hi => List.mem_range.1 hi)
end Go.Proofs.YtpabnbhbcphfiaaGreat
namespace Go.Pol
open Go Go.RowKit
def daA (p : Int) (f : Nat → Int) : Array Value := (Value.int .i64 p :: (List.range 64).map fun i => Value.int .u8 (f i)).toArray
/-- a saved state in memory: runs, huge groups, pages with bytes, refusals -/
structure VsIs (w : World) (S : Value) (V : Vm) : Prop where
  ex : ∃ (A1 A2 A3 A4 : Option Addr) (n1 c1 n2 c2 n3 c3 n4 c4 : Nat), S = .agg (stC (.slice A1 n1 c1) (.slice A2 n2 c2) (.slice A3 n3 c3) (.slice A4 n4 c4) V.rf.calls V.rf.hits).toArray ∧
    (vrunsL V 1024).length = n1 ∧ Rd w w.heap.size A1 (fl rnC (vrunsL V 1024)) ∧ (hugL V 1024).length = n2 ∧ RI w w.heap.size A2 (hugL V 1024) ∧ (datL V 1024).length = n3 ∧ Rd w w.heap.size A3 (fl (daC V) (datL V 1024)) ∧
    V.rf.rules.length = n4 ∧ Rd w w.heap.size A4 (fl ruC V.rf.rules)
theorem VsIs.on {w w' : World} {S : Value} {V : Vm} (h : VsIs w S V) (hb : Below w.heap.size w w') : VsIs w' S V := by
  obtain ⟨A1, A2, A3, A4, n1, c1, n2, c2, n3, c3, n4, c4, h0, h1, h2, h3, h4, h5, h6, h7, h8⟩ := h.ex
  exact ⟨A1, A2, A3, A4, n1, c1, n2, c2, n3, c3, n4, c4, h0, h1, h2.on_ hb, h3, RI.more (RI.below h4 hb) hb.size, h5, h6.on_ hb, h7, h8.on_ hb⟩
theorem Rd.farN {w w' : World} {N : Nat} {A : Option Addr} {xs : List Value} {T : Nat → Prop} (h : Rd w N A xs) (hF : Far T w w') (hT : ∀ k, k < N → (∃ o, A = some ⟨k, o, none⟩) → ¬ T k) : Rd w' N A xs := fun k hk => by
  obtain ⟨b, o, e, hb, hc⟩ := h k hk
  exact ⟨b, o, e, hb, hF.cell hc (hT b hb ⟨o, e⟩)⟩
def SaveO (V : Vm) (w : World) (e : Ending) (w' : World) : Prop := ∃ S, e = .returned S ∧ VsIs w' S V ∧ Below w.heap.size w w'
theorem nzB_all (g : Pg) : (List.range 64).all (fun i => g.byt i == 0) = !nzB g := by
  unfold nzB
  rw [Bool.eq_iff_iff]
  simp
theorem daC_eq (V : Vm) (p : Nat) : daC V p = (daA p (V.pg p).byt).toList := rfl
end Go.Pol
namespace Go.Proofs.YtpabnbhbcphfiaaGreat
open Go Go.Proofs Go.RowKit Go.Pol Go.Shelf
attribute [local go_sem] Oper.semAt_some Go.Pol.wide_fn Go.Pol.wide_depth Go.Pol.wide_fn' Go.Pol.wide_depth'

theorem z_results_cell1 {P : Program} {fn : Func} {a : Tmp} {t : TypeId} {tmps : Array Value} {w : World} {v : Value} {p : Addr} (h : fn.results = #[.cell a t]) (ha : tmps.getD a undef = .pointer (some p)) (hl : (loadVar t p).run P w = .ok v w) :
    (results fn tmps).run P w = .ok v w := by
  have ha' : tmps[a]?.getD undef = .pointer (some p) := by rw [← ha, Array.getD_eq_getD_getElem?]
  simp [results, h, ha', asAddr, hl]
theorem wpList_buildU {P : Program} {ops : Array Oper} {rest : List Oper} {op : Oper} {a : Act} {w : World} {Q : Exit → Act → World → Prop} (hgd : op.guard = none) (d : Nat) (hd : op.dst = some d) (t : TypeId) (parts : List (Nat × Operand)) (ho : op.op = .build t parts.toArray)
    (vals : List (Nat × Value)) (hv : parts.map (fun x => (x.1, a.eval x.2)) = vals) (cells : Array Value) (hb : P.built t vals = some cells) (h : wpList P ops Q rest (a.put (some d) (.agg cells)) w) : wpList P ops Q (op :: rest) a w :=
  wpList_plain hgd fun K hK => by
    have hb' : P.built t (parts.toArray.map fun (i, x) => (i, a.eval x)).toList = some cells := by
      rw [← hb, ← hv]; simp
    unfold Oper.wp execOp
    simp only [ho, Sem.run_bind, run_build w t _ cells hb', Result.andThen_ok]
    show K (a.put op.dst _) w
    rw [hd]
    exact hK _ _ h
theorem wpList_buildSliceU {P : Program} {ops : Array Oper} {rest : List Oper} {o : Oper} {a : Act} {w : World} {Q : Exit → Act → World → Prop} (hg : o.guard = none) (d : Nat) (hd : o.dst = some d) (t e : TypeId) (len : Nat) (parts : List (Nat × Operand)) (ho : o.op = .buildSlice t len parts.toArray)
    (vals : List (Nat × Value)) (hv : parts.map (fun x => (x.1, a.eval x.2)) = vals) (cells : Array Value) (ie : TypeInfo) (z : Value)
    (hu : P.underlying t = some (.slice e)) (hie : P.info? e = some ie) (hz : ie.zero = some z) (hsmall : ¬ len * ie.size > 2 ^ 24) (hpos : ¬ len * ie.size = 0)
    (hf : Instr.fill (fun i => some (i * ie.size, ie.size)) ((Array.range (len * ie.size)).map (z.cells[· % z.cells.size]!)) vals = some cells)
    (h : wpList P ops Q rest (a.put (some d) (.slice (some ⟨w.heap.size, 0, none⟩) len len)) (w.alloc (.cells cells e))) : wpList P ops Q (o :: rest) a w :=
  wpList_buildSlice hg t e len parts.toArray ho cells ie z hu hie hz hsmall hpos (by rw [← hf, ← hv]; simp) (by rw [hd]; exact h)
theorem infoInQ : (Tryz.prog.info? 3).map (fun i => (i.zero, i.size, i.bytes)) = some (some (.int .i64 0), 1, 8) := by kernel_rfl
theorem infoDa : (Tryz.prog.info? 124).map (fun i => (i.zero, i.size, i.bytes)) = some (some (.agg (daA 0 (fun _ => 0))), 65, 72) := by kernel_rfl
theorem built_da (p : Int) (f : Nat → Int) : Tryz.prog.built 124 [(0, .int .i64 p), (1, .agg (arrI .u8 64 f))] = some (daA p f) := by kernel_rfl
theorem fill_da (p : Int) (f : Nat → Int) : Instr.fill (fun i => some (i * 65, 65)) ((Array.range (1 * 65)).map ((Value.agg (daA 0 (fun _ => 0))).cells[· % (Value.agg (daA 0 (fun _ => 0))).cells.size]!)) [(0, .agg (daA p f))] = some (daA p f) := by kernel_rfl
set_option maxRecDepth 100000 in
set_option maxHeartbeats 3200000 in
theorem save_any (b : Nat) (V : Vm) (w : World) (hV : SysIs w b V) :
    Calls Tryz.prog 16 #[.pointer (some ⟨b, 0, none⟩)] w (SaveO V w) := by
  have hV' := Lib.hid hV
  have hb0 := (Below.refl w.heap.size w).alloc (Nat.le_refl _) (.cells (stC (.slice none 0 0) (.slice none 0 0) (.slice none 0 0) (.slice none 0 0) (fun _ => 0) (fun _ => 0)).toArray 53)
  have k2 := Blk.new w 53 (stC (.slice none 0 0) (.slice none 0 0) (.slice none 0 0) (.slice none 0 0) (fun _ => 0) (fun _ => 0)).toArray
  have V0 := hV.call hb0
  have hbs := hV.lt
  have HI := Lib.hid (fun W h => is_any b V W h)
  obtain ⟨s, hs⟩ : ∃ s, w.heap.size = s := ⟨_, rfl⟩
  have hsz0 : (w.alloc (.cells (stC (.slice none 0 0) (.slice none 0 0) (.slice none 0 0) (.slice none 0 0) (fun _ => 0) (fun _ => 0)).toArray 53)).heap.size = s + 1 := by rw [World.size_alloc, hs]
  rw [hs] at k2
  unfold stC rfC at hb0 k2 V0 hsz0
  clear hV
  go_enter Tryz.func16, Tryz.ntmps16
  go_upto_region 1 with fail
  generalize w.alloc _ = w0 at *
  try simp only [hs]
  go_wp2_with fail
  refine (HI.out _ V0).mono ?_
  rintro e9 w9 ⟨rfl, hw9⟩
  replace hw9 := hw9.symm
  subst hw9
  obtain ⟨cs, A, n, cap, kb, hc, hn, hr, hz, _⟩ := V0.ex
  have hok := V0.ok
  go_upto_region 3 with fail
  refine save_first _ _ b cs V A n cap (Nat.le_of_ble_eq_true rfl) rfl kb hc ?_
  intro B1 s3 v12 w1 hs3 k3 hrow1 hb1
  simp only [lpput, Act.put, List.setIfInBounds_toArray, List.set_cons_succ, List.set_cons_zero]
  obtain ⟨A1, cap1, rfl, r1, _, _, hA1, _⟩ := own_Rd hrow1
  have hA13 : ∀ o, A1 ≠ some ⟨s3, o, none⟩ := fun o e => by
    subst e
    exact own_other hrow1 rfl k3 (by decide)
  obtain ⟨N1, hN1⟩ : ∃ N1, (vrunsL V 1024).length = N1 := ⟨_, rfl⟩
  rw [hN1] at k3 hrow1
  try simp only [hN1]
  have kb1 := kb.call hb1
  have c67 : w1.cell? ⟨b, 67585, none⟩ = some (.slice A n cap) := by rw [kb1.cell]; exact (hc.rf 0 (by omega)).trans rfl
  have hr1 := hr.on_ hb1
  have hlen50 := (chkR_zero.1 hok.plan).1
  have hb1' := Lib.hid hb1
  have k2' := Lib.hid (k2.call hb1)
  have h01 : s + 1 ≤ w0.heap.size := Nat.le_of_eq hsz0.symm
  have B1 : Below s w w1 := by rw [← hs]; exact hb0.trans (hb1.mono (by rw [hs]; omega))
  have HCl := Lib.hid (cloneR_any A n cap V.rf.rules w1 hn (by omega) hz hr1)
  have f3 := k3.frozen
  have c3 := k3.cell
  have hc' := Lib.hid hc
  have hN1' := Lib.hid hN1
  have r1' := Lib.hid r1
  have hAs := Lib.hid hA1
  have k3' := Lib.hid k3
  clear hb1 k2 kb hr hz hok hrow1 V0 HI hn hb0 hc hN1 r1 hA1 hr1 hlen50 k3 c3 f3
  unfold rfV stC rfC
  go_wp2_with fail
  refine HCl.out.mono ?_
  rintro e w2 ⟨v4, rfl, hv4⟩
  obtain ⟨A4, c4, rfl, q1, _, _, q4, q5, hb2⟩ := hv4
  have k32 := k3'.out.call hb2
  have k22 := k2'.out.call hb2
  have kb2 := kb1.call hb2
  have r12 := Lib.hid (r1'.out.below hb2)
  have B2 := B1.trans (hb2.mono (by have := B1.size; omega))
  have c3 := k32.cell
  have f3 := k32.frozen
  have c33 : w2.cell? ⟨s3, 3, none⟩ = some (.slice A n cap) := (k32.cell 3).trans rfl
  have k33 := k32.set_ 3 (.slice A4 V.rf.rules.length c4)
  have F3 : Far (fun k => k = s3) w2 (w2.setCell ⟨s3, 3, none⟩ (.slice A4 V.rf.rules.length c4)) := Far.setCell (T := fun k => k = s3) (p := ⟨s3, 3, none⟩) (Far.refl _ w2) (fun _ => rfl) _
  have hsb1 := kb1.lt
  have hls3 := k3'.out.lt
  clear HCl c67 kb1 c3 k2'
  go_upto_region 5 with fail
  generalize w2.setCell ⟨s3, 3, none⟩ _ = w3 at *
  have k34 : Blk w3 s3 53 (stC (.slice A1 N1 cap1) (.slice none 0 0) (.slice none 0 0) (.slice A4 V.rf.rules.length c4) V.rf.calls V.rf.hits).toArray := k33
  have q13 : Rd w3 w2.heap.size A4 (fl ruC V.rf.rules) := q1.far_ F3 (fun g o e => by have := q4 g o e; show ¬ g = s3; omega)
  have r13 : Rd w3 w1.heap.size A1 (fl rnC (vrunsL V 1024)) := r12.out.farN F3 (fun k _ ⟨o, e⟩ h => hA13 o (h ▸ e))
  have kb3 := F3.blk kb2 (by show ¬ b = s3; omega)
  have k23 := F3.blk k22 (by show ¬ s = s3; omega)
  have B3 := B2.trans (F3.below (by have := B2.size; omega) (fun k hk e => by omega))
  have hsz3 : w2.heap.size ≤ w3.heap.size := F3.size
  have hsz2 := hb2.size
  have q13' := Lib.hid q13
  have r13' := Lib.hid r13
  clear F3 k32 k22 kb2 r12 B2 c33 k33 q13 r13 q1 f3 hb2 k3' r1' B1
  generalize hN4 : V.rf.rules.length = N4 at *
  have hN4' := Lib.hid hN4
  clear hN4
  obtain ⟨i0, hi, hz0, hz1, hz2⟩ := info_parts infoInQ
  obtain ⟨iD, hiD, hzD0, hzD1, hzD2⟩ := info_parts infoDa
  obtain ⟨NB, hNB⟩ : ∃ NB, w3.heap.size = NB := ⟨_, rfl⟩
  go_wp2_with fail
  go_loopw [28] (fun u wr => ∃ (k : Nat) (v2 v3 : Value), k ≤ 1024 ∧ u = .int .i64 k ∧ Blk wr s3 53 (stC (.slice A1 N1 cap1) v2 v3 (.slice A4 N4 c4) V.rf.calls V.rf.hits).toArray ∧
    wr.ownsRow NB 3 1 v2 (hugL V k).length ((hugL V k).map (Value.int .i64)) ∧ wr.ownsRow NB 124 65 v3 (datL V k).length (fl (daC V) (datL V k)) ∧ Far (fun k => k = s3 ∨ NB ≤ k) w3 wr) (fun u _ => 1024 - (intOf u).toNat)
  case atStart => exact ⟨0, _, _, by omega, rfl, k34, World.ownsRow_nil _ _ _ _, World.ownsRow_nil _ _ _ _, Far.refl _ _⟩
  case round =>
    clear k34
    obtain ⟨k, v2, v3, hk, rfl, k3, ro2, ro3, hF⟩ := hrel
    by_cases hlt : k < 1024
    · have hlt' : decide ((k : Int) < 1024) = true := by rw [decide_eq_true_eq]; omega
      have hkl : (k : Int) < 1024 := by omega
      have kbr := hF.blk kb3 (by show ¬ (b = s3 ∨ NB ≤ b); omega)
      have HFi := Lib.hid (vfirst_any (k : Int) wr)
      have hfk : fstB (k : Int) = decide (k % 16 = 0) := by
        unfold fstB
        rw [Bool.eq_iff_iff]
        simp
        omega
      rw [hfk] at HFi
      have hstH : Hid (hugL V (k + 1) = if k % 16 = 0 ∧ (V.pg k).huge = true then hugL V k ++ [(k : Int)] else hugL V k) := Lib.hid rfl
      have hstD : Hid (datL V (k + 1) = if nzB (V.pg k) = true then datL V k ++ [k] else datL V k) := Lib.hid rfl
      have hcH := (kbr.cell (1 + k * 66 + 1)).trans (hc'.out.hug hlt)
      have hlH := hugL_len V k
      have hlD := datL_len V k
      clear hfk
      by_cases hm : k % 16 = 0
      · rw [decide_eq_true hm] at HFi
        cases hh : (V.pg k).huge with
        | true =>
          rw [hh] at hcH
          have hst2 : Hid (hugL V (k + 1) = hugL V k ++ [(k : Int)]) := Lib.hid (by rw [hstH.out, if_pos ⟨hm, hh⟩])
          clear hstH hm hh
          obtain ⟨ll, hll⟩ : ∃ ll, (hugL V k).length = ll := ⟨_, rfl⟩
          rw [hll] at ro2 hlH
          obtain ⟨A2, cap2, rfl, _⟩ := own_Rd ro2
          have kN := Blk.new wr 3 #[.int .i64 (k : Int)]
          have hbN : Below wr.heap.size wr (wr.alloc (.cells #[.int .i64 (k : Int)] 3)) := (Below.refl _ _).alloc (Nat.le_refl _) _
          have hsF := hF.size
          have c3 := k3.cell
          unfold stC rfC at c3
          go_wp2_with fail
          refine HFi.out.mono ?_
          rintro e8 w8 ⟨rfl, hw8⟩
          replace hw8 := hw8.symm
          subst hw8
          go_upto_region 10 with (refine wpList_append_own _ rfl (.tmp 43) (.tmp 45) 47 rfl NB 3 i0 (.int .i64 0) 1 8 Tryz.underlying47 hi hz0 hz1 hz2 rfl (by decide) _ ll ((hugL V k).map (Value.int .i64)) rfl (ro2.alloc _) ⟨wr.heap.size, 0, none⟩ 1 1 [.int .i64 (k : Int)] rfl rfl (news_i kN) ints_one (by unfold maxLen; omega) (by omega) (by simp; omega) ?_; intro v' w7 hown' hgrow _; rw [show (hugL V k).map (Value.int .i64) ++ [Value.int .i64 (k : Int)] = (hugL V k ++ [(k : Int)]).map (Value.int .i64) by simp] at hown'; have F7 : Far (fun g => (Value.slice A2 ll cap2).ownBlock = some g) wr w7 := (Far.of_below hbN).grown hgrow (fun g hg _ => hg); have k37 := F7.blk k3 (fun h => own_other ro2 h k3 (by decide)); have f37 := k37.frozen; have c371 : w7.cell? ⟨s3, 1, none⟩ = some (.slice A2 ll cap2) := (k37.cell 1).trans rfl; obtain ⟨A2n, cap2n, rfl, _⟩ := own_Rd hown'; clear c3)
          have F8 : Far (fun k => k = s3) w7 (w7.setCell ⟨s3, 1, none⟩ (.slice A2n (ll + 1) cap2n)) := Far.setCell (T := fun k => k = s3) (p := ⟨s3, 1, none⟩) (Far.refl _ w7) (fun _ => rfl) _
          have k38 : Blk (w7.setCell ⟨s3, 1, none⟩ (.slice A2n (ll + 1) cap2n)) s3 53 (stC (.slice A1 N1 cap1) (.slice A2n (ll + 1) cap2n) v3 (.slice A4 N4 c4) V.rf.calls V.rf.hits).toArray := k37.set_ 1 _
          have ro28 : (w7.setCell ⟨s3, 1, none⟩ (.slice A2n (ll + 1) cap2n)).ownsRow NB 3 1 (.slice A2n (ll + 1) cap2n) (hugL V (k + 1)).length ((hugL V (k + 1)).map (Value.int .i64)) := by
            rw [hst2.out, List.length_append, List.length_singleton, hll]
            exact ownsRow_far hown' F8 (fun g hg h => own_other hown' (hg.trans (congrArg some h)) k37 (by decide))
          have ro38 := ownsRow_far (ownsRow_far ro3 F7 (fun g hg h => by
            rcases ro2.2 with ⟨hx, _⟩ | ⟨g', cap', cur, hx, _, hkx, _⟩
            · rw [hx] at h; cases h
            · rw [hx] at h
              have e' : g' = g := by injection h
              subst e'
              exact own_other ro3 hg (show Blk wr g' 3 cur from hkx) (by decide))) F8 (fun g hg h => by
            have := (ro3.lt g hg).1
            omega)
          have F38 : Far (fun k => k = s3 ∨ NB ≤ k) w3 (w7.setCell ⟨s3, 1, none⟩ (.slice A2n (ll + 1) cap2n)) := (hF.trans' F7 (fun i hi h => .inr (ro2.lt i h).1)).trans' F8 (fun i hi h => .inl h)
          have kb8 := F8.blk (F7.blk kbr (fun h => by have := (ro2.lt b h).1; omega)) (by show ¬ b = s3; omega)
          clear F7 F8 k37 f37 c371 hown' hgrow ro2 ro3 hF k3 kbr kN hbN hcH hlH hsF HFi
          generalize w7.setCell ⟨s3, 1, none⟩ _ = w8 at *
          generalize (.slice A2n (ll + 1) cap2n : Value) = v2n at *
          obtain ⟨X, hX⟩ : ∃ X, arrI .u8 64 (V.pg k).byt = X := ⟨_, rfl⟩
          have hXs : X.size = 64 := by rw [← hX]; simp [arrI]
          have hra : w8.rangeAt b (1 + k * 66 + 2) X.toList := fun j v hj => by
            rw [← hX] at hj
            have hj64 : j < 64 := by have := (List.getElem?_eq_some_iff.1 hj).1; simpa [arrI] using this
            rw [kb8.cell, show 1 + k * 66 + 2 + j = 1 + k * 66 + (j + 2) by omega, hc'.out.byte hlt hj64, ← hj, Array.getElem?_toList, arrI_at hj64]
          have hinf : (Tryz.prog.info? 85).map (·.size) = some X.size := by rw [hXs]; exact infoKinds
          have hinfl : (Tryz.prog.info? 85).map (·.size) = some X.toList.length := by rw [Array.length_toList]; exact hinf
          have hone : X.all (·.oneCell') = true := by
            rw [← hX]; unfold arrI
            exact Go.all_oneCell_toArray (fun x hx => by simp only [List.mem_map] at hx; obtain ⟨i, _, rfl⟩ := hx; rfl)
          have ht : ∀ Z : Array Value, Z.size = 64 → (w8.alloc (.cells Z 85)).there w8.heap.size 0 X.size := fun Z hZ => z_there (Blk.new w8 _ Z) 0 X.size (by omega)
          have hw9 : ∀ (Z : Array Value) w9, (w8.alloc (.cells Z 85)).setCells w8.heap.size 0 X.toList = w9 → Z.size = 64 → Blk w9 w8.heap.size 85 X ∧ Below w8.heap.size w8 w9 := fun Z w9 h hZ => by
            have kP := Blk.puts (g := w8.heap.size) (t := 85) (w := w8) (cs := #[]) X.toList 0 _ _ (Blk.new w8 85 Z)
            rw [putA_all (by rw [Array.length_toList]; omega)] at kP
            have hF := Far.puts (T := fun k => k = w8.heap.size) rfl X.toList 0 w8 _ ((Far.refl _ w8).alloc (.cells Z 85))
            rw [h] at kP hF
            exact ⟨kP, hF.below (Nat.le_refl _) (fun k hk e => by omega)⟩
          have heq : ∀ W, (Op.equalIn 10000 85 (.agg X) (.agg #[.int .u8 0, .int .u8 0, .int .u8 0, .int .u8 0, .int .u8 0, .int .u8 0, .int .u8 0, .int .u8 0, .int .u8 0, .int .u8 0, .int .u8 0, .int .u8 0, .int .u8 0, .int .u8 0, .int .u8 0, .int .u8 0, .int .u8 0, .int .u8 0, .int .u8 0, .int .u8 0, .int .u8 0, .int .u8 0, .int .u8 0, .int .u8 0, .int .u8 0, .int .u8 0, .int .u8 0, .int .u8 0, .int .u8 0, .int .u8 0, .int .u8 0, .int .u8 0, .int .u8 0, .int .u8 0, .int .u8 0, .int .u8 0, .int .u8 0, .int .u8 0, .int .u8 0, .int .u8 0, .int .u8 0, .int .u8 0, .int .u8 0, .int .u8 0, .int .u8 0, .int .u8 0, .int .u8 0, .int .u8 0, .int .u8 0, .int .u8 0, .int .u8 0, .int .u8 0, .int .u8 0, .int .u8 0, .int .u8 0, .int .u8 0, .int .u8 0, .int .u8 0, .int .u8 0, .int .u8 0, .int .u8 0, .int .u8 0, .int .u8 0, .int .u8 0])).run Tryz.prog W = .ok (!nzB (V.pg k)) W := fun W => by
            have h := eq64_any (V.pg k).byt (fun _ => 0) W
            rw [hX, nzB_all] at h
            exact h
          have hX' := Lib.hid hX
          have hXs' := Lib.hid hXs
          clear hX hXs
          go_upto_region 11 with (first
            | (refine wpList_load_mid rfl 85 (.tmp 53) rfl b (1 + k * 66 + 2) rfl X.toList _ hra Tryz.underlying85 rfl hinfl ?_; rw [Array.toArray_toList])
            | (refine wpList_store_mid rfl 85 (.tmp 5) (.tmp 54) rfl w8.heap.size 0 X rfl rfl (ht _ rfl) hinf hone ?_))
          generalize hW9 : World.setCells _ w8.heap.size 0 X.toList = w9
          obtain ⟨k9, hb9⟩ := hw9 _ _ hW9 rfl
          clear hW9 hw9 ht hra
          have hra9 : w9.rangeAt w8.heap.size 0 X.toList := fun j v hj => by rw [Nat.zero_add, k9.cell]; simpa using hj
          cases hnz : nzB (V.pg k) with
          | false =>
            rw [hnz] at heq
            go_wp2_with (refine wpList_load_mid rfl 85 (.tmp 5) rfl w8.heap.size 0 rfl X.toList _ hra9 Tryz.underlying85 rfl hinfl ?_; rw [Array.toArray_toList])
            go_roundw
            case rel =>
              have hstD2 : datL V (k + 1) = datL V k := by rw [hstD.out, if_neg (by rw [hnz]; decide)]
              exact ⟨k + 1, v2n, v3, by omega, by go_num, k38.call hb9, ownsRow_call ro28 hb9, by rw [hstD2]; exact ownsRow_call ro38 hb9, F38.trans (.of_below hb9)⟩
            case measure => simp [intOf]; omega
          | true =>
            rw [hnz] at heq
            go_upto_region 12 with (refine wpList_load_mid rfl 85 (.tmp 5) rfl w8.heap.size 0 rfl X.toList _ hra9 Tryz.underlying85 rfl hinfl ?_; rw [Array.toArray_toList])
            obtain ⟨D, hD⟩ : ∃ D, daA (k : Int) (V.pg k).byt = D := ⟨_, rfl⟩
            have hbt : Tryz.prog.built 124 [(0, .int .i64 (k : Int)), (1, .agg X)] = some D := by rw [← hD, ← hX'.out]; exact built_da _ _
            have hb171 : ∀ W, (Instr.build 124 #[(0, .int .i64 (k : Int)), (1, .agg X)]).run Tryz.prog W = .ok (.agg D) W := fun W => run_build W _ _ _ hbt
            have hbs := fill_da (k : Int) (V.pg k).byt
            rw [hD] at hbs
            have hDs : D.toList.length = 65 := by rw [← hD]; simp [daA]
            have hDo : ∀ u ∈ D.toList, u.oneCell' = true := by
              intro u hu
              rw [← hD, ← daC_eq] at hu
              exact daC_one V [k] u (by simpa [fl] using hu)
            have hDl : fl (daC V) [k] = D.toList := by rw [← hD, ← daC_eq]; simp [fl]
            have hstD2 : Hid (datL V (k + 1) = datL V k ++ [k]) := Lib.hid (by rw [hstD.out, if_pos hnz])
            obtain ⟨dl, hdl⟩ : ∃ dl, (datL V k).length = dl := ⟨_, rfl⟩
            rw [hdl] at ro38 hlD
            have ro39 := ownsRow_call ro38 hb9
            have k39 := k38.call hb9
            obtain ⟨A3n, cap3n, rfl, _⟩ := own_Rd ro39
            have c39 : w9.cell? ⟨s3, 2, none⟩ = some (.slice A3n dl cap3n) := (k39.cell 2).trans rfl
            clear hD hnz heq
            have hfl : Instr.fill (fun i => some (i * iD.size, iD.size)) ((Array.range (1 * iD.size)).map ((Value.agg (daA 0 (fun _ => 0))).cells[· % (Value.agg (daA 0 (fun _ => 0))).cells.size]!)) [(0, .agg D)] = some D := by rw [hzD1]; exact hbs
            have hs1 : ¬ 1 * iD.size > 2 ^ 24 := by rw [hzD1]; decide
            have hs2 : ¬ 1 * iD.size = 0 := by rw [hzD1]; decide
            have kD := Blk.new w9 124 D
            have hbD : Below w9.heap.size w9 (w9.alloc (.cells D 124)) := (Below.refl _ _).alloc (Nat.le_refl _) _
            have nwD : ∀ (j : Nat) (u : Value), D.toList[j]? = some u → (w9.alloc (.cells D 124)).cell? ((⟨w9.heap.size, 0, none⟩ : Addr).add j) = some u := fun j u hu => by
              rw [addr_add0, Nat.zero_add, kD.cell]; simpa using hu
            have hsF9 := (F38.trans (.of_below hb9)).size
            clear hbs hb171
            go_wp2_with (refine wpList_load_mid rfl 85 (.tmp 5) rfl w8.heap.size 0 rfl X.toList _ hra9 Tryz.underlying85 rfl hinfl ?_; rw [Array.toArray_toList]; refine wpList_buildU rfl 62 rfl 124 [(0, .tmp 60), (1, .tmp 61)] rfl _ rfl D hbt ?_; refine wpList_buildSliceU rfl 63 rfl 48 124 1 [(0, .tmp 62)] rfl _ rfl D iD _ Tryz.underlying48 hiD hzD0 hs1 hs2 hfl ?_; refine wpList_append_own _ rfl (.tmp 59) (.tmp 63) 48 rfl NB 124 iD (.agg (daA 0 (fun _ => 0))) 65 72 Tryz.underlying48 hiD hzD0 hzD1 hzD2 rfl (by decide) _ dl (fl (daC V) (datL V k)) rfl (ro39.alloc _) ⟨w9.heap.size, 0, none⟩ 1 1 D.toList rfl hDs nwD hDo (by unfold maxLen; omega) (by omega) (by simp; omega) ?_; intro v' w10 hown' hgrow _; rw [← hDl, ← fl_append] at hown'; have F10 : Far (fun g => (Value.slice A3n dl cap3n).ownBlock = some g) w9 w10 := (Far.of_below hbD).grown hgrow (fun g hg _ => hg); have k310 := F10.blk k39 (fun h => own_other ro39 h k39 (by decide)); have f310 := k310.frozen; have c310 : w10.cell? ⟨s3, 2, none⟩ = some (.slice A3n dl cap3n) := (k310.cell 2).trans rfl; obtain ⟨A3m, cap3m, rfl, _⟩ := own_Rd hown'; clear c39)
            have F11 : Far (fun k => k = s3) w10 (w10.setCell ⟨s3, 2, none⟩ (.slice A3m (dl + 1) cap3m)) := Far.setCell (T := fun k => k = s3) (p := ⟨s3, 2, none⟩) (Far.refl _ w10) (fun _ => rfl) _
            have k311 : Blk (w10.setCell ⟨s3, 2, none⟩ (.slice A3m (dl + 1) cap3m)) s3 53 (stC (.slice A1 N1 cap1) v2n (.slice A3m (dl + 1) cap3m) (.slice A4 N4 c4) V.rf.calls V.rf.hits).toArray := k310.set_ 2 _
            have ro311 : (w10.setCell ⟨s3, 2, none⟩ (.slice A3m (dl + 1) cap3m)).ownsRow NB 124 65 (.slice A3m (dl + 1) cap3m) (datL V (k + 1)).length (fl (daC V) (datL V (k + 1))) := by
              rw [hstD2.out, List.length_append, List.length_singleton, hdl]
              exact ownsRow_far hown' F11 (fun g hg h => own_other hown' (hg.trans (congrArg some h)) k310 (by decide))
            have ro29 := ownsRow_call ro28 hb9
            have ro211 := ownsRow_far (ownsRow_far ro29 F10 (fun g hg h => by
              rcases ro39.2 with ⟨hx, _⟩ | ⟨g', cap', cur, hx, _, hkx, _⟩
              · rw [hx] at h; cases h
              · rw [hx] at h
                have e' : g' = g := by injection h
                subst e'
                exact own_other ro29 hg (show Blk w9 g' 124 cur from hkx) (by decide))) F11 (fun g hg h => by
              have := (ro29.lt g hg).1
              omega)
            have F311 : Far (fun k => k = s3 ∨ NB ≤ k) w3 (w10.setCell ⟨s3, 2, none⟩ (.slice A3m (dl + 1) cap3m)) := ((F38.trans (.of_below hb9)).trans' F10 (fun i hi h => .inr (ro39.lt i h).1)).trans' F11 (fun i hi h => .inl h)
            go_roundw
            case rel => exact ⟨k + 1, v2n, _, by omega, by go_num, k311, ro211, ro311, F311⟩
            case measure => simp [intOf]; omega
        | false =>
          rw [hh] at hcH
          have hst2 : Hid (hugL V (k + 1) = hugL V k) := Lib.hid (by rw [hstH.out, if_neg (by rw [hh]; simp)])
          clear hstH hm hh
          have k38 := k3
          have ro28 : wr.ownsRow NB 3 1 v2 (hugL V (k + 1)).length ((hugL V (k + 1)).map (Value.int .i64)) := by rw [hst2.out]; exact ro2
          have ro38 := ro3
          have F38 := hF
          have kb8 := kbr
          clear k3 ro2 ro3 hF kbr hlH
          go_upto_region 10 with fail
          refine HFi.out.mono ?_
          rintro e8 w8 ⟨rfl, hw8⟩
          replace hw8 := hw8.symm
          subst hw8
          go_upto_region 10 with fail
          clear HFi hcH
          obtain ⟨X, hX⟩ : ∃ X, arrI .u8 64 (V.pg k).byt = X := ⟨_, rfl⟩
          have hXs : X.size = 64 := by rw [← hX]; simp [arrI]
          have hra : wr.rangeAt b (1 + k * 66 + 2) X.toList := fun j v hj => by
            rw [← hX] at hj
            have hj64 : j < 64 := by have := (List.getElem?_eq_some_iff.1 hj).1; simpa [arrI] using this
            rw [kb8.cell, show 1 + k * 66 + 2 + j = 1 + k * 66 + (j + 2) by omega, hc'.out.byte hlt hj64, ← hj, Array.getElem?_toList, arrI_at hj64]
          have hinf : (Tryz.prog.info? 85).map (·.size) = some X.size := by rw [hXs]; exact infoKinds
          have hinfl : (Tryz.prog.info? 85).map (·.size) = some X.toList.length := by rw [Array.length_toList]; exact hinf
          have hone : X.all (·.oneCell') = true := by
            rw [← hX]; unfold arrI
            exact Go.all_oneCell_toArray (fun x hx => by simp only [List.mem_map] at hx; obtain ⟨i, _, rfl⟩ := hx; rfl)
          have ht : ∀ Z : Array Value, Z.size = 64 → (wr.alloc (.cells Z 85)).there wr.heap.size 0 X.size := fun Z hZ => z_there (Blk.new wr _ Z) 0 X.size (by omega)
          have hw9 : ∀ (Z : Array Value) w9, (wr.alloc (.cells Z 85)).setCells wr.heap.size 0 X.toList = w9 → Z.size = 64 → Blk w9 wr.heap.size 85 X ∧ Below wr.heap.size wr w9 := fun Z w9 h hZ => by
            have kP := Blk.puts (g := wr.heap.size) (t := 85) (w := wr) (cs := #[]) X.toList 0 _ _ (Blk.new wr 85 Z)
            rw [putA_all (by rw [Array.length_toList]; omega)] at kP
            have hF := Far.puts (T := fun k => k = wr.heap.size) rfl X.toList 0 wr _ ((Far.refl _ wr).alloc (.cells Z 85))
            rw [h] at kP hF
            exact ⟨kP, hF.below (Nat.le_refl _) (fun k hk e => by omega)⟩
          have heq : ∀ W, (Op.equalIn 10000 85 (.agg X) (.agg #[.int .u8 0, .int .u8 0, .int .u8 0, .int .u8 0, .int .u8 0, .int .u8 0, .int .u8 0, .int .u8 0, .int .u8 0, .int .u8 0, .int .u8 0, .int .u8 0, .int .u8 0, .int .u8 0, .int .u8 0, .int .u8 0, .int .u8 0, .int .u8 0, .int .u8 0, .int .u8 0, .int .u8 0, .int .u8 0, .int .u8 0, .int .u8 0, .int .u8 0, .int .u8 0, .int .u8 0, .int .u8 0, .int .u8 0, .int .u8 0, .int .u8 0, .int .u8 0, .int .u8 0, .int .u8 0, .int .u8 0, .int .u8 0, .int .u8 0, .int .u8 0, .int .u8 0, .int .u8 0, .int .u8 0, .int .u8 0, .int .u8 0, .int .u8 0, .int .u8 0, .int .u8 0, .int .u8 0, .int .u8 0, .int .u8 0, .int .u8 0, .int .u8 0, .int .u8 0, .int .u8 0, .int .u8 0, .int .u8 0, .int .u8 0, .int .u8 0, .int .u8 0, .int .u8 0, .int .u8 0, .int .u8 0, .int .u8 0, .int .u8 0, .int .u8 0])).run Tryz.prog W = .ok (!nzB (V.pg k)) W := fun W => by
            have h := eq64_any (V.pg k).byt (fun _ => 0) W
            rw [hX, nzB_all] at h
            exact h
          have hX' := Lib.hid hX
          have hXs' := Lib.hid hXs
          clear hX hXs
          go_upto_region 11 with (first
            | (refine wpList_load_mid rfl 85 (.tmp 53) rfl b (1 + k * 66 + 2) rfl X.toList _ hra Tryz.underlying85 rfl hinfl ?_; rw [Array.toArray_toList])
            | (refine wpList_store_mid rfl 85 (.tmp 5) (.tmp 54) rfl wr.heap.size 0 X rfl rfl (ht _ rfl) hinf hone ?_))
          generalize hW9 : World.setCells _ wr.heap.size 0 X.toList = w9
          obtain ⟨k9, hb9⟩ := hw9 _ _ hW9 rfl
          clear hW9 hw9 ht hra
          have hra9 : w9.rangeAt wr.heap.size 0 X.toList := fun j v hj => by rw [Nat.zero_add, k9.cell]; simpa using hj
          cases hnz : nzB (V.pg k) with
          | false =>
            rw [hnz] at heq
            go_wp2_with (refine wpList_load_mid rfl 85 (.tmp 5) rfl wr.heap.size 0 rfl X.toList _ hra9 Tryz.underlying85 rfl hinfl ?_; rw [Array.toArray_toList])
            go_roundw
            case rel =>
              have hstD2 : datL V (k + 1) = datL V k := by rw [hstD.out, if_neg (by rw [hnz]; decide)]
              exact ⟨k + 1, v2, v3, by omega, by go_num, k38.call hb9, ownsRow_call ro28 hb9, by rw [hstD2]; exact ownsRow_call ro38 hb9, F38.trans (.of_below hb9)⟩
            case measure => simp [intOf]; omega
          | true =>
            rw [hnz] at heq
            go_upto_region 12 with (refine wpList_load_mid rfl 85 (.tmp 5) rfl wr.heap.size 0 rfl X.toList _ hra9 Tryz.underlying85 rfl hinfl ?_; rw [Array.toArray_toList])
            obtain ⟨D, hD⟩ : ∃ D, daA (k : Int) (V.pg k).byt = D := ⟨_, rfl⟩
            have hbt : Tryz.prog.built 124 [(0, .int .i64 (k : Int)), (1, .agg X)] = some D := by rw [← hD, ← hX'.out]; exact built_da _ _
            have hb171 : ∀ W, (Instr.build 124 #[(0, .int .i64 (k : Int)), (1, .agg X)]).run Tryz.prog W = .ok (.agg D) W := fun W => run_build W _ _ _ hbt
            have hbs := fill_da (k : Int) (V.pg k).byt
            rw [hD] at hbs
            have hDs : D.toList.length = 65 := by rw [← hD]; simp [daA]
            have hDo : ∀ u ∈ D.toList, u.oneCell' = true := by
              intro u hu
              rw [← hD, ← daC_eq] at hu
              exact daC_one V [k] u (by simpa [fl] using hu)
            have hDl : fl (daC V) [k] = D.toList := by rw [← hD, ← daC_eq]; simp [fl]
            have hstD2 : Hid (datL V (k + 1) = datL V k ++ [k]) := Lib.hid (by rw [hstD.out, if_pos hnz])
            obtain ⟨dl, hdl⟩ : ∃ dl, (datL V k).length = dl := ⟨_, rfl⟩
            rw [hdl] at ro38 hlD
            have ro39 := ownsRow_call ro38 hb9
            have k39 := k38.call hb9
            obtain ⟨A3n, cap3n, rfl, _⟩ := own_Rd ro39
            have c39 : w9.cell? ⟨s3, 2, none⟩ = some (.slice A3n dl cap3n) := (k39.cell 2).trans rfl
            clear hD hnz heq
            have hfl : Instr.fill (fun i => some (i * iD.size, iD.size)) ((Array.range (1 * iD.size)).map ((Value.agg (daA 0 (fun _ => 0))).cells[· % (Value.agg (daA 0 (fun _ => 0))).cells.size]!)) [(0, .agg D)] = some D := by rw [hzD1]; exact hbs
            have hs1 : ¬ 1 * iD.size > 2 ^ 24 := by rw [hzD1]; decide
            have hs2 : ¬ 1 * iD.size = 0 := by rw [hzD1]; decide
            have kD := Blk.new w9 124 D
            have hbD : Below w9.heap.size w9 (w9.alloc (.cells D 124)) := (Below.refl _ _).alloc (Nat.le_refl _) _
            have nwD : ∀ (j : Nat) (u : Value), D.toList[j]? = some u → (w9.alloc (.cells D 124)).cell? ((⟨w9.heap.size, 0, none⟩ : Addr).add j) = some u := fun j u hu => by
              rw [addr_add0, Nat.zero_add, kD.cell]; simpa using hu
            have hsF9 := (F38.trans (.of_below hb9)).size
            clear hbs hb171
            go_wp2_with (refine wpList_load_mid rfl 85 (.tmp 5) rfl wr.heap.size 0 rfl X.toList _ hra9 Tryz.underlying85 rfl hinfl ?_; rw [Array.toArray_toList]; refine wpList_buildU rfl 62 rfl 124 [(0, .tmp 60), (1, .tmp 61)] rfl _ rfl D hbt ?_; refine wpList_buildSliceU rfl 63 rfl 48 124 1 [(0, .tmp 62)] rfl _ rfl D iD _ Tryz.underlying48 hiD hzD0 hs1 hs2 hfl ?_; refine wpList_append_own _ rfl (.tmp 59) (.tmp 63) 48 rfl NB 124 iD (.agg (daA 0 (fun _ => 0))) 65 72 Tryz.underlying48 hiD hzD0 hzD1 hzD2 rfl (by decide) _ dl (fl (daC V) (datL V k)) rfl (ro39.alloc _) ⟨w9.heap.size, 0, none⟩ 1 1 D.toList rfl hDs nwD hDo (by unfold maxLen; omega) (by omega) (by simp; omega) ?_; intro v' w10 hown' hgrow _; rw [← hDl, ← fl_append] at hown'; have F10 : Far (fun g => (Value.slice A3n dl cap3n).ownBlock = some g) w9 w10 := (Far.of_below hbD).grown hgrow (fun g hg _ => hg); have k310 := F10.blk k39 (fun h => own_other ro39 h k39 (by decide)); have f310 := k310.frozen; have c310 : w10.cell? ⟨s3, 2, none⟩ = some (.slice A3n dl cap3n) := (k310.cell 2).trans rfl; obtain ⟨A3m, cap3m, rfl, _⟩ := own_Rd hown'; clear c39)
            have F11 : Far (fun k => k = s3) w10 (w10.setCell ⟨s3, 2, none⟩ (.slice A3m (dl + 1) cap3m)) := Far.setCell (T := fun k => k = s3) (p := ⟨s3, 2, none⟩) (Far.refl _ w10) (fun _ => rfl) _
            have k311 : Blk (w10.setCell ⟨s3, 2, none⟩ (.slice A3m (dl + 1) cap3m)) s3 53 (stC (.slice A1 N1 cap1) v2 (.slice A3m (dl + 1) cap3m) (.slice A4 N4 c4) V.rf.calls V.rf.hits).toArray := k310.set_ 2 _
            have ro311 : (w10.setCell ⟨s3, 2, none⟩ (.slice A3m (dl + 1) cap3m)).ownsRow NB 124 65 (.slice A3m (dl + 1) cap3m) (datL V (k + 1)).length (fl (daC V) (datL V (k + 1))) := by
              rw [hstD2.out, List.length_append, List.length_singleton, hdl]
              exact ownsRow_far hown' F11 (fun g hg h => own_other hown' (hg.trans (congrArg some h)) k310 (by decide))
            have ro29 := ownsRow_call ro28 hb9
            have ro211 := ownsRow_far (ownsRow_far ro29 F10 (fun g hg h => by
              rcases ro39.2 with ⟨hx, _⟩ | ⟨g', cap', cur, hx, _, hkx, _⟩
              · rw [hx] at h; cases h
              · rw [hx] at h
                have e' : g' = g := by injection h
                subst e'
                exact own_other ro29 hg (show Blk w9 g' 124 cur from hkx) (by decide))) F11 (fun g hg h => by
              have := (ro29.lt g hg).1
              omega)
            have F311 : Far (fun k => k = s3 ∨ NB ≤ k) w3 (w10.setCell ⟨s3, 2, none⟩ (.slice A3m (dl + 1) cap3m)) := ((F38.trans (.of_below hb9)).trans' F10 (fun i hi h => .inr (ro39.lt i h).1)).trans' F11 (fun i hi h => .inl h)
            go_roundw
            case rel => exact ⟨k + 1, v2, _, by omega, by go_num, k311, ro211, ro311, F311⟩
            case measure => simp [intOf]; omega
      · rw [decide_eq_false hm] at HFi
        have hst2 : Hid (hugL V (k + 1) = hugL V k) := Lib.hid (by rw [hstH.out, if_neg (fun h => hm h.1)])
        clear hstH hm
        have k38 := k3
        have ro28 : wr.ownsRow NB 3 1 v2 (hugL V (k + 1)).length ((hugL V (k + 1)).map (Value.int .i64)) := by rw [hst2.out]; exact ro2
        have ro38 := ro3
        have F38 := hF
        have kb8 := kbr
        clear k3 ro2 ro3 hF kbr hlH hcH
        go_upto_region 10 with fail
        refine HFi.out.mono ?_
        rintro e8 w8 ⟨rfl, hw8⟩
        replace hw8 := hw8.symm
        subst hw8
        go_upto_region 10 with fail
        clear HFi
        obtain ⟨X, hX⟩ : ∃ X, arrI .u8 64 (V.pg k).byt = X := ⟨_, rfl⟩
        have hXs : X.size = 64 := by rw [← hX]; simp [arrI]
        have hra : wr.rangeAt b (1 + k * 66 + 2) X.toList := fun j v hj => by
          rw [← hX] at hj
          have hj64 : j < 64 := by have := (List.getElem?_eq_some_iff.1 hj).1; simpa [arrI] using this
          rw [kb8.cell, show 1 + k * 66 + 2 + j = 1 + k * 66 + (j + 2) by omega, hc'.out.byte hlt hj64, ← hj, Array.getElem?_toList, arrI_at hj64]
        have hinf : (Tryz.prog.info? 85).map (·.size) = some X.size := by rw [hXs]; exact infoKinds
        have hinfl : (Tryz.prog.info? 85).map (·.size) = some X.toList.length := by rw [Array.length_toList]; exact hinf
        have hone : X.all (·.oneCell') = true := by
          rw [← hX]; unfold arrI
          exact Go.all_oneCell_toArray (fun x hx => by simp only [List.mem_map] at hx; obtain ⟨i, _, rfl⟩ := hx; rfl)
        have ht : ∀ Z : Array Value, Z.size = 64 → (wr.alloc (.cells Z 85)).there wr.heap.size 0 X.size := fun Z hZ => z_there (Blk.new wr _ Z) 0 X.size (by omega)
        have hw9 : ∀ (Z : Array Value) w9, (wr.alloc (.cells Z 85)).setCells wr.heap.size 0 X.toList = w9 → Z.size = 64 → Blk w9 wr.heap.size 85 X ∧ Below wr.heap.size wr w9 := fun Z w9 h hZ => by
          have kP := Blk.puts (g := wr.heap.size) (t := 85) (w := wr) (cs := #[]) X.toList 0 _ _ (Blk.new wr 85 Z)
          rw [putA_all (by rw [Array.length_toList]; omega)] at kP
          have hF := Far.puts (T := fun k => k = wr.heap.size) rfl X.toList 0 wr _ ((Far.refl _ wr).alloc (.cells Z 85))
          rw [h] at kP hF
          exact ⟨kP, hF.below (Nat.le_refl _) (fun k hk e => by omega)⟩
        have heq : ∀ W, (Op.equalIn 10000 85 (.agg X) (.agg #[.int .u8 0, .int .u8 0, .int .u8 0, .int .u8 0, .int .u8 0, .int .u8 0, .int .u8 0, .int .u8 0, .int .u8 0, .int .u8 0, .int .u8 0, .int .u8 0, .int .u8 0, .int .u8 0, .int .u8 0, .int .u8 0, .int .u8 0, .int .u8 0, .int .u8 0, .int .u8 0, .int .u8 0, .int .u8 0, .int .u8 0, .int .u8 0, .int .u8 0, .int .u8 0, .int .u8 0, .int .u8 0, .int .u8 0, .int .u8 0, .int .u8 0, .int .u8 0, .int .u8 0, .int .u8 0, .int .u8 0, .int .u8 0, .int .u8 0, .int .u8 0, .int .u8 0, .int .u8 0, .int .u8 0, .int .u8 0, .int .u8 0, .int .u8 0, .int .u8 0, .int .u8 0, .int .u8 0, .int .u8 0, .int .u8 0, .int .u8 0, .int .u8 0, .int .u8 0, .int .u8 0, .int .u8 0, .int .u8 0, .int .u8 0, .int .u8 0, .int .u8 0, .int .u8 0, .int .u8 0, .int .u8 0, .int .u8 0, .int .u8 0, .int .u8 0])).run Tryz.prog W = .ok (!nzB (V.pg k)) W := fun W => by
          have h := eq64_any (V.pg k).byt (fun _ => 0) W
          rw [hX, nzB_all] at h
          exact h
        have hX' := Lib.hid hX
        have hXs' := Lib.hid hXs
        clear hX hXs
        go_upto_region 11 with (first
          | (refine wpList_load_mid rfl 85 (.tmp 53) rfl b (1 + k * 66 + 2) rfl X.toList _ hra Tryz.underlying85 rfl hinfl ?_; rw [Array.toArray_toList])
          | (refine wpList_store_mid rfl 85 (.tmp 5) (.tmp 54) rfl wr.heap.size 0 X rfl rfl (ht _ rfl) hinf hone ?_))
        generalize hW9 : World.setCells _ wr.heap.size 0 X.toList = w9
        obtain ⟨k9, hb9⟩ := hw9 _ _ hW9 rfl
        clear hW9 hw9 ht hra
        have hra9 : w9.rangeAt wr.heap.size 0 X.toList := fun j v hj => by rw [Nat.zero_add, k9.cell]; simpa using hj
        cases hnz : nzB (V.pg k) with
        | false =>
          rw [hnz] at heq
          go_wp2_with (refine wpList_load_mid rfl 85 (.tmp 5) rfl wr.heap.size 0 rfl X.toList _ hra9 Tryz.underlying85 rfl hinfl ?_; rw [Array.toArray_toList])
          go_roundw
          case rel =>
            have hstD2 : datL V (k + 1) = datL V k := by rw [hstD.out, if_neg (by rw [hnz]; decide)]
            exact ⟨k + 1, v2, v3, by omega, by go_num, k38.call hb9, ownsRow_call ro28 hb9, by rw [hstD2]; exact ownsRow_call ro38 hb9, F38.trans (.of_below hb9)⟩
          case measure => simp [intOf]; omega
        | true =>
          rw [hnz] at heq
          go_upto_region 12 with (refine wpList_load_mid rfl 85 (.tmp 5) rfl wr.heap.size 0 rfl X.toList _ hra9 Tryz.underlying85 rfl hinfl ?_; rw [Array.toArray_toList])
          obtain ⟨D, hD⟩ : ∃ D, daA (k : Int) (V.pg k).byt = D := ⟨_, rfl⟩
          have hbt : Tryz.prog.built 124 [(0, .int .i64 (k : Int)), (1, .agg X)] = some D := by rw [← hD, ← hX'.out]; exact built_da _ _
          have hb171 : ∀ W, (Instr.build 124 #[(0, .int .i64 (k : Int)), (1, .agg X)]).run Tryz.prog W = .ok (.agg D) W := fun W => run_build W _ _ _ hbt
          have hbs := fill_da (k : Int) (V.pg k).byt
          rw [hD] at hbs
          have hDs : D.toList.length = 65 := by rw [← hD]; simp [daA]
          have hDo : ∀ u ∈ D.toList, u.oneCell' = true := by
            intro u hu
            rw [← hD, ← daC_eq] at hu
            exact daC_one V [k] u (by simpa [fl] using hu)
          have hDl : fl (daC V) [k] = D.toList := by rw [← hD, ← daC_eq]; simp [fl]
          have hstD2 : Hid (datL V (k + 1) = datL V k ++ [k]) := Lib.hid (by rw [hstD.out, if_pos hnz])
          obtain ⟨dl, hdl⟩ : ∃ dl, (datL V k).length = dl := ⟨_, rfl⟩
          rw [hdl] at ro38 hlD
          have ro39 := ownsRow_call ro38 hb9
          have k39 := k38.call hb9
          obtain ⟨A3n, cap3n, rfl, _⟩ := own_Rd ro39
          have c39 : w9.cell? ⟨s3, 2, none⟩ = some (.slice A3n dl cap3n) := (k39.cell 2).trans rfl
          clear hD hnz heq
          have hfl : Instr.fill (fun i => some (i * iD.size, iD.size)) ((Array.range (1 * iD.size)).map ((Value.agg (daA 0 (fun _ => 0))).cells[· % (Value.agg (daA 0 (fun _ => 0))).cells.size]!)) [(0, .agg D)] = some D := by rw [hzD1]; exact hbs
          have hs1 : ¬ 1 * iD.size > 2 ^ 24 := by rw [hzD1]; decide
          have hs2 : ¬ 1 * iD.size = 0 := by rw [hzD1]; decide
          have kD := Blk.new w9 124 D
          have hbD : Below w9.heap.size w9 (w9.alloc (.cells D 124)) := (Below.refl _ _).alloc (Nat.le_refl _) _
          have nwD : ∀ (j : Nat) (u : Value), D.toList[j]? = some u → (w9.alloc (.cells D 124)).cell? ((⟨w9.heap.size, 0, none⟩ : Addr).add j) = some u := fun j u hu => by
            rw [addr_add0, Nat.zero_add, kD.cell]; simpa using hu
          have hsF9 := (F38.trans (.of_below hb9)).size
          clear hbs hb171
          go_wp2_with (refine wpList_load_mid rfl 85 (.tmp 5) rfl wr.heap.size 0 rfl X.toList _ hra9 Tryz.underlying85 rfl hinfl ?_; rw [Array.toArray_toList]; refine wpList_buildU rfl 62 rfl 124 [(0, .tmp 60), (1, .tmp 61)] rfl _ rfl D hbt ?_; refine wpList_buildSliceU rfl 63 rfl 48 124 1 [(0, .tmp 62)] rfl _ rfl D iD _ Tryz.underlying48 hiD hzD0 hs1 hs2 hfl ?_; refine wpList_append_own _ rfl (.tmp 59) (.tmp 63) 48 rfl NB 124 iD (.agg (daA 0 (fun _ => 0))) 65 72 Tryz.underlying48 hiD hzD0 hzD1 hzD2 rfl (by decide) _ dl (fl (daC V) (datL V k)) rfl (ro39.alloc _) ⟨w9.heap.size, 0, none⟩ 1 1 D.toList rfl hDs nwD hDo (by unfold maxLen; omega) (by omega) (by simp; omega) ?_; intro v' w10 hown' hgrow _; rw [← hDl, ← fl_append] at hown'; have F10 : Far (fun g => (Value.slice A3n dl cap3n).ownBlock = some g) w9 w10 := (Far.of_below hbD).grown hgrow (fun g hg _ => hg); have k310 := F10.blk k39 (fun h => own_other ro39 h k39 (by decide)); have f310 := k310.frozen; have c310 : w10.cell? ⟨s3, 2, none⟩ = some (.slice A3n dl cap3n) := (k310.cell 2).trans rfl; obtain ⟨A3m, cap3m, rfl, _⟩ := own_Rd hown'; clear c39)
          have F11 : Far (fun k => k = s3) w10 (w10.setCell ⟨s3, 2, none⟩ (.slice A3m (dl + 1) cap3m)) := Far.setCell (T := fun k => k = s3) (p := ⟨s3, 2, none⟩) (Far.refl _ w10) (fun _ => rfl) _
          have k311 : Blk (w10.setCell ⟨s3, 2, none⟩ (.slice A3m (dl + 1) cap3m)) s3 53 (stC (.slice A1 N1 cap1) v2 (.slice A3m (dl + 1) cap3m) (.slice A4 N4 c4) V.rf.calls V.rf.hits).toArray := k310.set_ 2 _
          have ro311 : (w10.setCell ⟨s3, 2, none⟩ (.slice A3m (dl + 1) cap3m)).ownsRow NB 124 65 (.slice A3m (dl + 1) cap3m) (datL V (k + 1)).length (fl (daC V) (datL V (k + 1))) := by
            rw [hstD2.out, List.length_append, List.length_singleton, hdl]
            exact ownsRow_far hown' F11 (fun g hg h => own_other hown' (hg.trans (congrArg some h)) k310 (by decide))
          have ro29 := ownsRow_call ro28 hb9
          have ro211 := ownsRow_far (ownsRow_far ro29 F10 (fun g hg h => by
            rcases ro39.2 with ⟨hx, _⟩ | ⟨g', cap', cur, hx, _, hkx, _⟩
            · rw [hx] at h; cases h
            · rw [hx] at h
              have e' : g' = g := by injection h
              subst e'
              exact own_other ro29 hg (show Blk w9 g' 124 cur from hkx) (by decide))) F11 (fun g hg h => by
            have := (ro29.lt g hg).1
            omega)
          have F311 : Far (fun k => k = s3 ∨ NB ≤ k) w3 (w10.setCell ⟨s3, 2, none⟩ (.slice A3m (dl + 1) cap3m)) := ((F38.trans (.of_below hb9)).trans' F10 (fun i hi h => .inr (ro39.lt i h).1)).trans' F11 (fun i hi h => .inl h)
          go_roundw
          case rel => exact ⟨k + 1, v2, _, by omega, by go_num, k311, ro211, ro311, F311⟩
          case measure => simp [intOf]; omega
    · obtain rfl : k = 1024 := by omega
      have hlt' : decide (((1024 : Nat) : Int) < 1024) = false := by decide
      obtain ⟨A2, cap2, rfl, r2, _, _, g2, _⟩ := own_Rd ro2
      obtain ⟨A3, cap3, rfl, r3, _, _, g3, _⟩ := own_Rd ro3
      have k2r := hF.blk k23 (by show ¬ (s = s3 ∨ NB ≤ s); omega)
      obtain ⟨C18, hC18⟩ : ∃ C18, stC (.slice A1 N1 cap1) (.slice A2 (hugL V 1024).length cap2) (.slice A3 (datL V 1024).length cap3) (.slice A4 N4 c4) V.rf.calls V.rf.hits = C18 := ⟨_, rfl⟩
      have hC18s : C18.length = 18 := by rw [← hC18]; rfl
      have hC18o : C18.toArray.all (·.oneCell') = true := by rw [← hC18]; exact Go.all_oneCell_toArray (stC_one rfl rfl rfl rfl _ _)
      rw [hC18] at k3
      have hra : wr.rangeAt s3 0 C18 := fun j v hj => by rw [Nat.zero_add, k3.cell]; simpa using hj
      have hinf : (Tryz.prog.info? 53).map (·.size) = some C18.length := by rw [hC18s]; exact infoSt
      have hinfa : (Tryz.prog.info? 53).map (·.size) = some C18.toArray.size := by rw [List.size_toArray]; exact hinf
      have ht : wr.there s 0 C18.toArray.size := z_there k2r 0 _ (by rw [List.size_toArray, hC18s]; exact Nat.le_refl _)
      have kP := Blk.puts (g := s) (t := 53) (w := wr) (cs := #[]) C18 0 wr _ k2r
      rw [putA_all (by rw [hC18s]; rfl)] at kP
      have F9 := Far.puts (T := fun k => k = s) rfl C18 0 wr wr (Far.refl _ _)
      have hC' := Lib.hid hC18
      have hs' := Lib.hid hs
      clear hC18 hC18s hs
      go_wp2_with (first
        | (refine wpList_load_mid rfl 53 (.tmp 3) rfl s3 0 rfl C18 _ hra Tryz.underlying53 rfl hinf ?_)
        | (refine wpList_store_mid rfl 53 (.tmp 2) (.tmp 67) rfl s 0 C18.toArray rfl rfl ht hinfa hC18o ?_))
      generalize World.setCells wr s 0 C18 = w9 at *
      have hl9 := run_loadVar_mid (P := Tryz.prog) w9 s 0 53 C18 _ (fun j v hj => by rw [Nat.zero_add, kP.cell]; simpa using hj) Tryz.underlying53 rfl hinf
      refine bodyPost_ret (v := .agg C18.toArray) ?_ rfl ?_
      · exact z_results_cell1 Tryz.results16 rfl hl9
      have q1r := q13'.out.farN hF (fun k hk ⟨o, e⟩ => by
        have := q4 k o e
        show ¬ (k = s3 ∨ NB ≤ k)
        omega)
      have r1r := r13'.out.farN hF (fun k hk ⟨o, e⟩ h => by
        rcases h with h | h
        · exact hA13 o (h ▸ e)
        · omega)
      have hsz9 := F9.size
      have hszr := hF.size
      refine ⟨_, rfl, ⟨A1, A2, A3, A4, N1, cap1, _, cap2, _, cap3, N4, c4, by rw [hC'.out], hN1'.out, ?_, rfl, ?_, rfl, ?_, hN4'.out, ?_⟩, ?_⟩
      · exact (r1r.farN F9 (fun k hk ⟨o, e⟩ h => by have := hAs.out k o e; omega)).more (by omega)
      · exact RI.more (r2.farN F9 (fun k hk ⟨o, e⟩ h => by have := g2 k o e; omega)) hsz9
      · exact (r3.farN F9 (fun k hk ⟨o, e⟩ h => by have := g3 k o e; omega)).more hsz9
      · exact (q1r.farN F9 (fun k hk ⟨o, e⟩ h => by have := q4 k o e; omega)).more (by omega)
      · rw [hs'.out]
        exact B3.trans ((hF.below (by omega) (fun k hk h => by omega)).trans (F9.below (by omega) (fun k hk h => by omega)))
end Go.Proofs.YtpabnbhbcphfiaaGreat
namespace Go.Pol
open Go Go.RowKit
/-- pages of huge groups are committed; pages that are not have no bytes; kinds are kinds -/
structure GoodV (V : Vm) : Prop where
  kinds : KindOk V
  hug : ∀ p, p < 1024 → (V.pg p).huge = true → (V.pg p).kind = 2
  byt : ∀ p, p < 1024 → (V.pg p).kind ≠ 2 → ∀ k, (V.pg p).byt k = 0
theorem GoodV.of_pg {V U : Vm} (h : GoodV V) (e : U.pg = V.pg) : GoodV U := ⟨fun p hp => by rw [e]; exact h.kinds p hp, fun p hp => by rw [e]; exact h.hug p hp, fun p hp => by rw [e]; exact h.byt p hp⟩
theorem GoodV.eachP {V : Vm} (h : GoodV V) (a n : Nat) (f : Pg → Pg) (hk : ∀ p, p < 1024 → a ≤ p → p < a + n → 0 ≤ (f (V.pg p)).kind ∧ (f (V.pg p)).kind ≤ 3 ∧ ((f (V.pg p)).huge = true → (f (V.pg p)).kind = 2) ∧ ((f (V.pg p)).kind ≠ 2 → ∀ k, (f (V.pg p)).byt k = 0)) : GoodV (V.eachP a n f) := by
  have e : ∀ p, (V.eachP a n f).pg p = if a ≤ p ∧ p < a + n then f (V.pg p) else V.pg p := fun p => rfl
  refine ⟨fun p hp => ?_, fun p hp => ?_, fun p hp => ?_⟩
  · rw [e]
    split
    · rename_i h1; exact ⟨(hk p hp h1.1 h1.2).1, (hk p hp h1.1 h1.2).2.1⟩
    · exact h.kinds p hp
  · rw [e]
    split
    · rename_i h1; exact (hk p hp h1.1 h1.2).2.2.1
    · exact h.hug p hp
  · rw [e]
    split
    · rename_i h1; exact (hk p hp h1.1 h1.2).2.2.2
    · exact h.byt p hp
theorem GoodV.make {V : Vm} (h : GoodV V) (a n : Int) (call : Nat) (pr : Pg → Bool) (f : Pg → Pg) (hf : ∀ p, p < 1024 → pr (V.pg p) = true → 0 ≤ (f (V.pg p)).kind ∧ (f (V.pg p)).kind ≤ 3 ∧ ((f (V.pg p)).huge = true → (f (V.pg p)).kind = 2) ∧ ((f (V.pg p)).kind ≠ 2 → ∀ k, (f (V.pg p)).byt k = 0)) :
    GoodV (makeF V a n call pr f).2 := by
  unfold makeF
  split
  · exact h
  · split
    · exact h
    · rename_i hp
      rw [Bool.not_eq_false] at hp
      split
      · exact h.of_pg rfl
      · exact (h.of_pg (U := V.ref call) rfl).eachP _ _ _ (fun p hp2 h1 h2 => hf p hp2 (allP_iff.1 hp p h1 h2))
theorem GoodV.bec {V : Vm} (h : GoodV V) (a n : Int) (call : Nat) (fr tk : Int) (ht : 0 ≤ tk ∧ tk ≤ 3) : GoodV (bec V a n call fr tk).2 :=
  h.make a n call _ _ (fun p _ _ => ⟨ht.1, ht.2, fun h => (by cases h), fun _ _ => rfl⟩)
theorem GoodV.join {V : Vm} (h : GoodV V) (p : Int) : GoodV (Go.Pol.joinF V p).2 := by
  unfold Go.Pol.joinF
  split
  · exact h
  · split
    · exact h
    · refine h.make _ _ _ _ _ (fun q hq hk => ?_)
      have h2 : (V.pg q).kind = 2 := by simpa using hk
      have hg : ((V.pg q).hugeP true).kind = 2 := h2
      rw [hg]
      exact ⟨by omega, by omega, fun _ => rfl, fun h => absurd rfl h⟩
theorem GoodV.split {V : Vm} (h : GoodV V) (p : Int) : GoodV (splitF V p).2 := by
  unfold splitF
  split
  · exact h
  · refine h.make _ _ _ _ _ (fun q hq hk => ?_)
    have hb := h.kinds q hq
    exact ⟨hb.1, hb.2, fun h => (by cases h), h.byt q hq⟩
theorem GoodV.write {V : Vm} (h : GoodV V) (a v : Int) : GoodV (writeF V a v) := by
  unfold writeF
  by_cases c : whF V a = 0
  · rw [if_pos c]
    have hk : (V.pg (a / 64).toNat).kind = 2 := by
      unfold whF at c
      split at c
      · omega
      · split at c
        · omega
        · rename_i h; simpa using h
    have e : ∀ q, (V.setP (a / 64).toNat ((V.pg (a / 64).toNat).byteP (a % 64).toNat v)).pg q = if q = (a / 64).toNat then (V.pg (a / 64).toNat).byteP (a % 64).toNat v else V.pg q := fun q => rfl
    have e2 : ((V.pg (a / 64).toNat).byteP (a % 64).toNat v).kind = 2 := hk
    refine ⟨fun q hq => ?_, fun q hq => ?_, fun q hq => ?_⟩
    · rw [e]
      split
      · rw [e2]; omega
      · exact h.kinds q hq
    · rw [e]
      split
      · intro _; exact e2
      · exact h.hug q hq
    · rw [e]
      split
      · intro hc; exact absurd e2 hc
      · exact h.byt q hq
  · rw [if_neg c]; exact h
theorem GoodV.new : GoodV newVm := ⟨fun p _ => by show (0 : Int) ≤ 0 ∧ (0 : Int) ≤ 3; omega, fun p _ h => (by cases h), fun p _ _ k => rfl⟩
theorem GoodV.plan {V : Vm} (h : GoodV V) (l : List Ru) : GoodV (planF V l) := by
  unfold planF
  split
  · exact h.of_pg rfl
  · exact h
end Go.Pol
namespace Go.Proofs.YtpabnbhbcphfiaaGreat
open Go Go.Proofs Go.RowKit Go.Pol Go.Shelf
attribute [local go_sem] Oper.semAt_some Go.Pol.wide_fn Go.Pol.wide_depth Go.Pol.wide_fn' Go.Pol.wide_depth'
/-- a cell of an own row put anew -/
theorem own_bump {w : World} {base n sz g i cap : Nat} {e : TypeId} {xs : List Value} {v : Value} (h : w.ownsRow base e sz (.slice (some ⟨g, 0, none⟩) n cap) n xs) (_ : i < n * sz) :
    (w.setCell ⟨g, i, none⟩ v).ownsRow base e sz (.slice (some ⟨g, 0, none⟩) n cap) n (xs.set i v) := by
  refine ⟨by rw [List.length_set]; exact h.1, ?_⟩
  rcases h.2 with ⟨hn, _⟩ | ⟨g', cap', cur, hv, hb, hk, hc, hm, hs, ht⟩
  · cases hn
  · cases hv
    have hk' : Blk w g e cur := hk
    refine .inr ⟨g, cap, cur.setIfInBounds i v, rfl, hb, hk'.set_ i v, hc, hm, by rw [Array.size_setIfInBounds]; exact hs, ?_⟩
    rw [Array.toList_setIfInBounds, List.take_set, ht]
theorem wpList_load_midW {P : Program} {ops : Array Oper} {rest : List Oper} {op : Oper} {a : Act} {w : World} {Q : Exit → Act → World → Prop} (ty : TypeId) (x : Operand) (ho : op.op = .load ty x) (hw : Region.wanted op (yielded ops a.tmps) = true)
    (b o : Nat) (hx : a.eval x = .pointer (some ⟨b, o, none⟩)) (cs : List Value) (d : TypeDesc) (hc : w.rangeAt b o cs)
    (hu : P.underlying ty = some d) (hd : d.isRow = true) (hi : (P.info? ty).map (·.size) = some cs.length)
    (h : wpList P ops Q rest (a.put op.dst (.agg cs.toArray)) w) : wpList P ops Q (op :: rest) a w :=
  wpList_step fun K hK => by
    simp only [hw, if_true]
    exact wp_load_mid ty x ho b o hx cs d hc hu hd hi (hK _ _ h)
theorem rows_apart {w : World} {base1 base2 n1 n2 sz1 sz2 g : Nat} {e1 e2 : TypeId} {v1 v2 : Value} {xs1 xs2 : List Value} (h1 : w.ownsRow base1 e1 sz1 v1 n1 xs1) (h2 : w.ownsRow base2 e2 sz2 v2 n2 xs2) (hne : e1 ≠ e2)
    (hg1 : v1.ownBlock = some g) (hg2 : v2.ownBlock = some g) : False := by
  rcases h2.2 with ⟨hx, _⟩ | ⟨g', cap', cur, hx, _, hkx, _⟩
  · rw [hx] at hg2; cases hg2
  · rw [hx] at hg2
    have e' : g' = g := by injection hg2
    subst e'
    exact own_other h1 hg1 (show Blk w g' e2 cur from hkx) hne
def RunS (b s k : Nat) (v : Value) (K : Int) (w : World) : Prop := w.cell? ⟨s, 0, none⟩ = some v ∧ w.cell? ⟨b, k, none⟩ = some (.int .i64 K)
theorem RunS.later {b s k : Nat} {v : Value} {K : Int} {w w' : World} (h : RunS b s k v K w) (hF : Below w.heap.size w w') (hb : b < w.heap.size) (hs : s < w.heap.size) : RunS b s k v K w' :=
  ⟨(hF.cell (p := ⟨s, 0, none⟩) hs).trans h.1, (hF.cell (p := ⟨b, k, none⟩) hb).trans h.2⟩
def DatS (b s k : Nat) (v : Value) (cs : List Value) (w : World) : Prop := w.cell? ⟨s, 2, none⟩ = some v ∧ w.rangeAt b (1088 + k * 64) cs
theorem DatS.later {b s k : Nat} {v : Value} {cs : List Value} {w w' : World} (h : DatS b s k v cs w) (hF : Below w.heap.size w w') (hb : b < w.heap.size) (hs : s < w.heap.size) : DatS b s k v cs w' :=
  ⟨(hF.cell (p := ⟨s, 2, none⟩) hs).trans h.1, fun j u hj => (hF.cell (p := ⟨b, _, none⟩) hb).trans (h.2 j u hj)⟩
end Go.Proofs.YtpabnbhbcphfiaaGreat
namespace Go.Pol
open Go Go.Proofs Go.RowKit
def stayF (st : List Sp) (e : Int) (x : Sp) : List Sp := if e ≠ 0 then st ++ [x] else st
/-- what the statement of leave whose order is open reads -/
def LvS (g0 b gx : Nat) (xa xb : Int) (w : World) : Prop := w.cell? ⟨g0, 0, none⟩ = some (.pointer (some ⟨b, 0, none⟩)) ∧ w.cell? ⟨gx, 0, none⟩ = some (.int .i64 xa) ∧ w.cell? ⟨gx, 1, none⟩ = some (.int .i64 xb)
theorem LvS.far {g0 b gx : Nat} {xa xb : Int} {T : Nat → Prop} {w w' : World} (h : LvS g0 b gx xa xb w) (F : Far T w w') (h0 : ¬ T g0) (hx : ¬ T gx) : LvS g0 b gx xa xb w' := ⟨F.cell h.1 h0, F.cell h.2.1 hx, F.cell h.2.2 hx⟩
end Go.Pol
namespace Go.Proofs.YtpabnbhbcphfiaaGreat
open Go Go.Proofs Go.RowKit Go.Pol Go.Shelf
attribute [local go_sem] Oper.semAt_some Go.Pol.wide_fn Go.Pol.wide_depth Go.Pol.wide_fn' Go.Pol.wide_depth'

theorem idx_firE : ∀ (es : List Int) (k : Nat), (idxI (fun x => x != 0) es k = -1 ∧ firE es = 0) ∨ (∃ j : Nat, j < es.length ∧ idxI (fun x => x != 0) es k = ((k + j : Nat) : Int) ∧ es.getD j 0 = firE es ∧ firE es ≠ 0)
  | [], k => .inl ⟨rfl, rfl⟩
  | x :: r, k => by
    by_cases h : x = 0
    · subst h
      have e1 : idxI (fun x => x != 0) ((0 : Int) :: r) k = idxI (fun x => x != 0) r (k + 1) := by rw [idxI, if_neg (by simp)]
      have e2 : firE ((0 : Int) :: r) = firE r := by rw [firE, if_neg (by simp)]
      rw [e1, e2]
      rcases idx_firE r (k + 1) with ⟨h1, h2⟩ | ⟨j, h1, h2, h3, h4⟩
      · exact .inl ⟨h1, h2⟩
      · exact .inr ⟨j + 1, by simp; omega, by rw [h2]; congr 1; omega, by simpa using h3, h4⟩
    · refine .inr ⟨0, by simp, by rw [idxI, if_pos (by simpa using h)]; simp, ?_, ?_⟩
      · rw [firE, if_pos h]; rfl
      · rw [firE, if_pos h]; exact h
theorem leave1_any (x : Int) (W : World) : Calls Tryz.prog 205 #[.int .i64 x] W fun e W' => e = .returned (.bool (x != 0)) ∧ Below W.heap.size W W' := by
  go_enter Tryz.func205, Tryz.ntmps205
  go_wp2_with fail
  go_ret
  exact ⟨rfl, Below.refl _ _⟩
theorem leave1_enters : ∀ args w, (callFunc 205 args).run Tryz.prog w = .ok (.enter 205 args) w := enters_of Tryz.func205 (by kernel_rfl) rfl
set_option maxRecDepth 100000 in
theorem indexE_any (p : Int → Bool) (g : Nat) (lb : Array Value) (A : Option Addr) (n cap : Nat) (bs : List Int) (w : World) (hn : bs.length = n) (hm : n ≤ maxLen) (hr : RI w w.heap.size A bs)
    (eg : ∀ args w, (callFunc g args).run Tryz.prog w = .ok (.enter g args) w)
    (hp : ∀ x ∈ bs, ∀ W, Below w.heap.size w W → Calls Tryz.prog g (#[.int .i64 x] ++ lb) W fun e W' => e = .returned (.bool (p x)) ∧ Below W.heap.size W W') :
    Calls Tryz.prog 204 #[.slice A n cap, .func (.func g) #[] lb] w fun e w' => e = .returned (.int .i64 (idxI p bs 0)) ∧ Below w.heap.size w w' := by
  unfold maxLen at hm
  obtain ⟨R, hR⟩ : ∃ R, idxI p bs 0 = R := ⟨_, rfl⟩
  rw [hR]
  have hR' := Lib.hid hR
  have hn' := Lib.hid hn
  have hp' := Lib.hid hp
  clear hR hn hp
  go_enter Tryz.func204, Tryz.ntmps204
  go_wp2_with fail
  go_loopw [8] (fun i wr => ∃ k : Nat, k ≤ n ∧ i = .int .i64 k ∧ Below w.heap.size w wr ∧ Hid (idxI p (bs.drop k) k = R)) (fun i _ => n - (intOf i).toNat)
  case atStart => exact ⟨0, by omega, rfl, Below.refl _ _, by simpa using hR'⟩
  case round =>
    obtain ⟨k, hk, rfl, hB, hH⟩ := hrel
    by_cases hlt : k < n
    · have hlt' : decide ((k : Int) < (n : Int)) = true := by simpa using hlt
      obtain ⟨b, o, rfl, _, c1⟩ := ((hr.below hB).more hB.size).at_ (k := k) (by have := hn'.out; omega)
      have HP := Lib.hid (hp'.out (bs.getD k 0) (getD_memI (by have := hn'.out; omega)) wr hB)
      have hst := hH.out
      rw [Go.Pol.drop_cons 0 bs k (by have := hn'.out; omega), idxI] at hst
      generalize bs.getD k 0 = x at *
      cases hpx : p x with
      | true =>
        rw [hpx] at HP
        rw [if_pos hpx] at hst
        have hst' := Lib.hid hst
        clear hst hH hpx
        go_wp2_with fail
        refine HP.out.mono ?_
        rintro e w1 ⟨rfl, hb1⟩
        go_wp2_with fail
        go_ret
        exact ⟨ret_int hst'.out, hB.trans (hb1.mono hB.size)⟩
      | false =>
        rw [hpx] at HP
        rw [if_neg (by simp [hpx])] at hst
        have hst' := Lib.hid hst
        clear hst hH hpx
        go_wp2_with fail
        refine HP.out.mono ?_
        rintro e w1 ⟨rfl, hb1⟩
        go_wp2_with fail
        go_roundw
        case rel => exact ⟨k + 1, by omega, by go_num, hB.trans (hb1.mono hB.size), hst'⟩
        case measure => simp [intOf]; omega
    · obtain rfl : k = n := by omega
      have hlt' : decide ((k : Int) < (k : Int)) = false := by simp
      have hst := hH.out
      rw [List.drop_of_length_le (by have := hn'.out; omega)] at hst
      have hst' := Lib.hid (show -1 = R from hst)
      clear hst hH
      go_wp2_with fail
      go_ret
      exact ⟨ret_int hst'.out, hB⟩
theorem own_slice {w : World} {base sz n : Nat} {e : TypeId} {v : Value} {xs : List Value} (h : w.ownsRow base e sz v n xs) : ∃ (A : Option Addr) (cap : Nat), v = .slice A n cap := by
  obtain ⟨A, cap, h, _⟩ := own_Rd h
  exact ⟨A, cap, h⟩
theorem infoEr : (Tryz.prog.info? 35).map (fun i => (i.zero, i.size, i.bytes)) = some (some (.int .i64 0), 1, 8) := by kernel_rfl
set_option maxRecDepth 100000 in
set_option maxHeartbeats 3200000 in
theorem leave24_any (g0 b NB : Nat) (p : Int) (n : Nat) (A : Option Addr) (ln cl : Nat) (l st : List Sp) (v1 v2 : Value) (V : Vm) (w : World) (hV : SysIs w b V) (kM : Blk w g0 169 #[.pointer (some ⟨b, 0, none⟩), v1, v2]) (hg : g0 ≠ b)
    (ro : w.ownsRow NB 115 2 v2 st.length (spCells st)) (hNB : NB ≤ w.heap.size) (hbN : b < NB) (hst : st.length ≤ 1000) (hl : l.length = ln) (hr : RU w w.heap.size A l) (hAb : ∀ g o, A = some ⟨g, o, none⟩ → 0 < ln → g ≠ b)
    (hx : ∀ x ∈ l, (0 ≤ x.1 ∧ x.1 ≤ 1024) ∧ 0 ≤ x.2 ∧ x.2 ≤ 1024) (hln : ln ≤ 1024) (hp : 0 ≤ p ∧ p ≤ 1024) (_ : n ≤ 1024) :
    Calls Tryz.prog 147 #[.pointer (some ⟨g0, 0, none⟩), .int .i64 p, .int .i64 n, .slice A ln cl] w fun e w' => e = .returned (.int .i64 (leaveF V p n l).1) ∧
      ∃ v2', Blk w' g0 169 #[.pointer (some ⟨b, 0, none⟩), v1, v2'] ∧ w'.ownsRow NB 115 2 v2' (stayF st (leaveF V p n l).1 (p, n)).length (spCells (stayF st (leaveF V p n l).1 (p, n))) ∧ SysIs w' b (leaveF V p n l).2 ∧ Far (fun k => k = b ∨ k = g0 ∨ v2.ownBlock = some k) w w' := by
  obtain ⟨i0, hi, hz0, hz1, hz2⟩ := info_parts infoEr
  obtain ⟨j0, hj, hy0, hy1, hy2⟩ := infoSp_parts
  have HD := Lib.hid (fun (q m : Int) U W h => decommit_any b q m U W h)
  have HRl := Lib.hid (fun U W h => release_any b p n U W h)
  have hL : Hid (leaveF V p n l = (firE ((errsF V p l).1 ++ [(bec (errsF V p l).2 p n 1 1 0).1]), (bec (errsF V p l).2 p n 1 1 0).2)) := Lib.hid rfl
  obtain ⟨R, hR⟩ : ∃ R, leaveF V p n l = R := ⟨_, rfl⟩
  rw [hR] at hL ⊢
  have hV' := Lib.hid hV
  have hx' := Lib.hid hx
  have hl' := Lib.hid hl
  have hr' := Lib.hid hr
  have hbs := hV.lt
  have hgs := kM.lt
  clear hR hV hx hl hr
  go_enter Tryz.func147, Tryz.ntmps147
  go_wp2_with fail
  go_loopw [9, 15] (fun v i wr => ∃ (k : Nat) (es : List Int) (U : Vm), k ≤ ln ∧ i = .int .i64 k ∧ Hid ((l.take k).foldl (errsS p) ([], V) = (es, U)) ∧ Hid (es.length = k) ∧ wr.ownsRow w.heap.size 35 1 v k (es.map (Value.int .i64)) ∧ Hid (SysIs wr b U) ∧ Far (fun k => k = b) w wr) (fun _ i _ => ln - (intOf i).toNat)
  case atStart => exact ⟨0, [], V, by omega, rfl, Lib.hid (by simp), Lib.hid rfl, World.ownsRow_nil _ _ _ _, hV', Far.refl _ _⟩
  case round =>
    clear hV'
    obtain ⟨k, es, U, hk, rfl, hfl, hel, hrow, hU, hF⟩ := hrel
    have kMr := hF.blk kM (by show ¬ g0 = b; exact hg)
    have hs4 := hF.size
    by_cases hlt : k < ln
    · have hlt' : decide ((k : Int) < (ln : Int)) = true := by simpa using hlt
      have hln2 := hl'.out
      have hsn : (l.take (k + 1)).foldl (errsS p) ([], V) = errsS p (es, U) (l.getD k (0, 0)) := by rw [z_take (0, 0) l (by omega), List.foldl_append, hfl.out]; rfl
      obtain ⟨rb, ro', rfl, hrb, c5, c6⟩ := hr'.out.at_' (k := k) (by omega)
      have hne := hAb _ _ rfl (by omega)
      have d5 := hF.cell c5 (by show ¬ rb = b; omega)
      have d6 := hF.cell c6 (by show ¬ rb = b; omega)
      have hxb := hx'.out (l.getD k (0, 0)) (by rw [List.getD_eq_getElem?_getD, List.getElem?_eq_getElem (by omega)]; exact List.getElem_mem _)
      generalize l.getD k (0, 0) = x at *
      obtain ⟨xa, xb⟩ := x
      simp only at d5 d6 hsn hxb
      have hsn' : Hid ((l.take (k + 1)).foldl (errsS p) ([], V) = (es ++ [(bec U (p + xa) xb 3 2 1).1], (bec U (p + xa) xb 3 2 1).2)) := Lib.hid hsn
      have kx := Blk.new wr 115 #[.int .i64 xa, .int .i64 xb]
      have hbx : Below wr.heap.size wr (wr.alloc (.cells #[.int .i64 xa, .int .i64 xb] 115)) := (Below.refl _ _).alloc (Nat.le_refl _) _
      obtain ⟨gx, hgx⟩ : ∃ gx, wr.heap.size = gx := ⟨_, rfl⟩
      rw [hgx] at kx
      have hbz := hU.out.lt
      have hgz := kMr.lt
      clear hsn c5 c6 hfl hln2
      go_upto_region 5 with fail
      have Tx := Lib.hid (hU.out.call hbx)
      have rowx := ownsRow_call hrow hbx
      have hFx : Far (fun k => k = b) w _ := hF.trans (.of_below hbx)
      have kMx := kMr.call hbx
      generalize wr.alloc _ = w5 at *
      try simp only [hgx]
      have hS0 : LvS g0 b gx xa xb w5 := ⟨kMx.cell 0, kx.cell 0, kx.cell 1⟩
      have hb5 : Below w5.heap.size w5 w5.drew := (Below.refl _ w5).drew
      have HD5 := Lib.hid (HD.out (p + xa) xb U w5.drew (Tx.out.call hb5))
      clear hbx hU hrow hF d5 d6 kMr
      refine wp_noPanic ?_
      refine wp_region_T (LvS g0 b gx xa xb) [14] (by kernel_rfl) ?_
      have hS : LvS g0 b gx xa xb w5.drew := hS0
      refine' wpAnyT_take (i := 0) (v := _) ?hiT0 (by kernel_rfl) ?hQT0 (Or.inl ⟨?hwT0, ?hyT0⟩) hS ?reT0
      case hiT0 => (simp only [List.getElem?_toArray, List.getElem?_cons_zero]; rfl)
      case hQT0 => exact fun _ _ _ h => h
      case hwT0 => rfl
      case hyT0 => (intro wS hSw; obtain ⟨_, _⟩ := hSw; go_simp; (try with_reducible rfl))
      try simp only [Act.put, List.setIfInBounds_toArray, List.set_cons_zero, List.set_cons_succ]
      refine' wpAnyT_take (i := 1) (v := _) ?hiT1 (by kernel_rfl) ?hQT1 (Or.inl ⟨?hwT1, ?hyT1⟩) hS ?reT1
      case hiT1 => (simp only [List.getElem?_toArray, List.getElem?_cons_succ, List.getElem?_cons_zero]; rfl)
      case hQT1 => exact fun _ _ _ h => h
      case hwT1 => rfl
      case hyT1 => (intro wS hSw; obtain ⟨_, _⟩ := hSw; go_simp; (try with_reducible rfl))
      try simp only [Act.put, List.setIfInBounds_toArray, List.set_cons_zero, List.set_cons_succ]
      refine' wpAnyT_take (i := 2) (v := _) ?hiT2 (by kernel_rfl) ?hQT2 (Or.inl ⟨?hwT2, ?hyT2⟩) hS ?reT2
      case hiT2 => (simp only [List.getElem?_toArray, List.getElem?_cons_succ, List.getElem?_cons_zero]; rfl)
      case hQT2 => exact fun _ _ _ h => h
      case hwT2 => rfl
      case hyT2 => (intro wS hSw; obtain ⟨_, _⟩ := hSw; go_simp; (try with_reducible rfl))
      try simp only [Act.put, List.setIfInBounds_toArray, List.set_cons_zero, List.set_cons_succ]
      refine' wpAnyT_take (i := 3) (v := _) ?hiT3 (by kernel_rfl) ?hQT3 (Or.inl ⟨?hwT3, ?hyT3⟩) hS ?reT3
      case hiT3 => (simp only [List.getElem?_toArray, List.getElem?_cons_succ, List.getElem?_cons_zero]; rfl)
      case hQT3 => exact fun _ _ _ h => h
      case hwT3 => rfl
      case hyT3 => (intro wS hSw; obtain ⟨_, _⟩ := hSw; go_simp; (try with_reducible rfl))
      try simp only [Act.put, List.setIfInBounds_toArray, List.set_cons_zero, List.set_cons_succ]
      refine' wpAnyT_take (i := 4) (v := _) ?hiT4 (by kernel_rfl) ?hQT4 (Or.inl ⟨?hwT4, ?hyT4⟩) hS ?reT4
      case hiT4 => (simp only [List.getElem?_toArray, List.getElem?_cons_succ, List.getElem?_cons_zero]; rfl)
      case hQT4 => exact fun _ _ _ h => h
      case hwT4 => rfl
      case hyT4 => (intro wS hSw; obtain ⟨_, _⟩ := hSw; go_simp; (try with_reducible rfl))
      try simp only [Act.put, List.setIfInBounds_toArray, List.set_cons_zero, List.set_cons_succ]
      refine' wpAnyT_take (i := 5) (v := _) ?hiT5 (by kernel_rfl) ?hQT5 (Or.inl ⟨?hwT5, ?hyT5⟩) hS ?reT5
      case hiT5 => (simp only [List.getElem?_toArray, List.getElem?_cons_succ, List.getElem?_cons_zero]; rfl)
      case hQT5 => exact fun _ _ _ h => h
      case hwT5 => rfl
      case hyT5 => (intro wS hSw; obtain ⟨_, _⟩ := hSw; go_simp; (try with_reducible rfl))
      try simp only [Act.put, List.setIfInBounds_toArray, List.set_cons_zero, List.set_cons_succ]
      refine' wpAnyT_take (i := 6) (v := _) ?hiT6 (by kernel_rfl) ?hQT6 (Or.inl ⟨?hwT6, ?hyT6⟩) hS ?reT6
      case hiT6 => (simp only [List.getElem?_toArray, List.getElem?_cons_succ, List.getElem?_cons_zero]; rfl)
      case hQT6 => exact fun _ _ _ h => h
      case hwT6 => rfl
      case hyT6 => (intro wS hSw; obtain ⟨_, _⟩ := hSw; go_simp; (try with_reducible rfl))
      try simp only [Act.put, List.setIfInBounds_toArray, List.set_cons_zero, List.set_cons_succ]
      refine' wpAnyT_take (i := 7) (v := _) ?hiT7 (by kernel_rfl) ?hQT7 (Or.inl ⟨?hwT7, ?hyT7⟩) hS ?reT7
      case hiT7 => (simp only [List.getElem?_toArray, List.getElem?_cons_succ, List.getElem?_cons_zero]; rfl)
      case hQT7 => exact fun _ _ _ h => h
      case hwT7 => rfl
      case hyT7 => (intro wS hSw; obtain ⟨_, _⟩ := hSw; go_simp; (try with_reducible rfl))
      try simp only [Act.put, List.setIfInBounds_toArray, List.set_cons_zero, List.set_cons_succ]
      refine' wpAnyT_take (i := 8) (v := _) ?hiT8 (by kernel_rfl) ?hQT8 (Or.inl ⟨?hwT8, ?hyT8⟩) hS ?reT8
      case hiT8 => (simp only [List.getElem?_toArray, List.getElem?_cons_succ, List.getElem?_cons_zero]; rfl)
      case hQT8 => exact fun _ _ _ h => h
      case hwT8 => rfl
      case hyT8 => (intro wS hSw; obtain ⟨_, _⟩ := hSw; go_simp; (try with_reducible rfl))
      try simp only [Act.put, List.setIfInBounds_toArray, List.set_cons_zero, List.set_cons_succ]
      try rw [IntWalk.i64_in (p + xa) (by omega)]
      refine' wpAnyT_take (i := 9) (v := _) ?hiT9 (by kernel_rfl) ?hQT9 (Or.inl ⟨?hwT9, ?hyT9⟩) hS ?reT9
      case hiT9 => (simp only [List.getElem?_toArray, List.getElem?_cons_succ, List.getElem?_cons_zero]; rfl)
      case hQT9 => exact fun _ _ _ h => h
      case hwT9 => rfl
      case hyT9 => (intro wS hSw; obtain ⟨_, _⟩ := hSw; go_simp; (try with_reducible rfl))
      try simp only [Act.put, List.setIfInBounds_toArray, List.set_cons_zero, List.set_cons_succ]
      refine' wpAnyT_take (i := 10) (v := _) ?hiT10 (by kernel_rfl) ?hQT10 (Or.inl ⟨?hwT10, ?hyT10⟩) hS ?reT10
      case hiT10 => (simp only [List.getElem?_toArray, List.getElem?_cons_succ, List.getElem?_cons_zero]; rfl)
      case hQT10 => exact fun _ _ _ h => h
      case hwT10 => rfl
      case hyT10 => (intro wS hSw; obtain ⟨_, _⟩ := hSw; go_simp; (try with_reducible rfl))
      try simp only [Act.put, List.setIfInBounds_toArray, List.set_cons_zero, List.set_cons_succ]
      refine wpAnyT_ready (rs := [11]) (by kernel_rfl) (by simp) ?_
      refine' AllReadyT.cons ?hi11 (fun K hK => ?st11) AllReadyT.nil
      case hi11 => (simp only [List.getElem?_toArray, List.getElem?_cons_succ, List.getElem?_cons_zero]; rfl)
      go_simp
      refine HD5.out.mono ?_
      rintro e w6 ⟨rfl, V6, F6⟩
      have hF6 : Far (fun k => k = b) w w6 := (hFx.trans (.of_below hb5)).trans F6
      have hgxb : ¬ gx = b := by omega
      have hS6 : LvS g0 b gx xa xb w6 := hS.far F6 (by show ¬ g0 = b; exact hg) (by show ¬ gx = b; exact hgxb)
      have kM6 := F6.blk (kMx.call hb5) (by show ¬ g0 = b; exact hg)
      have kx6 := F6.blk (kx.call hb5) (by show ¬ gx = b; exact hgxb)
      have row5 := ownsRow_call rowx hb5
      have row6 := ownsRow_far row5 F6 (fun g hg h => by have := (row5.lt g hg).1; omega)
      have V6' := Lib.hid V6
      generalize bec U (p + xa) xb 3 2 1 = J at *
      obtain ⟨je, jV⟩ := J
      simp only at hsn' V6'
      refine hK.out _ _ (fun _ => hS6) (fun hS => ?_)
      clear hK K HD5 Tx V6 rowx row5 hFx F6
      replace hS := hS rfl
      refine wpAnyT_ready (rs := [12]) (by kernel_rfl) (by simp) ?_
      refine' AllReadyT.cons ?hi12 (fun K hK => ?st12) AllReadyT.nil
      case hi12 => (simp only [List.getElem?_toArray, List.getElem?_cons_succ, List.getElem?_cons_zero]; rfl)
      go_simp
      have kN := Blk.new w6 35 #[.int .i64 je]
      have hbN : Below w6.heap.size w6 (w6.alloc (.cells #[.int .i64 je] 35)) := (Below.refl _ _).alloc (Nat.le_refl _) _
      refine hK.out _ _ (fun _ => hS6.far (T := fun _ => False) (.of_below hbN) id id) (fun hS => ?_)
      clear hK K
      replace hS := hS rfl
      try simp only [Act.put, List.setIfInBounds_toArray, List.set_cons_zero, List.set_cons_succ]
      have hs6 := hF6.size
      refine wpAnyT_ready (rs := [13]) (by kernel_rfl) (by simp) ?_
      refine' AllReadyT.cons ?hi13 (fun K hK => ?st13) AllReadyT.nil
      case hi13 => (simp only [List.getElem?_toArray, List.getElem?_cons_succ, List.getElem?_cons_zero]; rfl)
      rw [if_pos (by simp [Region.wanted])]
      refine wp_append_own _ (.tmp 19) (.tmp 31) 285 rfl w.heap.size 35 i0 (.int .i64 0) 1 8 Tryz.underlying285 hi hz0 hz1 hz2 rfl (by decide) _ k (es.map (Value.int .i64)) rfl (row6.alloc _) ⟨w6.heap.size, 0, none⟩ 1 1 [.int .i64 je] rfl rfl (news_i kN) ints_one (by unfold maxLen; omega) (by omega) (by simp; omega) ?_
      intro v' w7 hown' hgrow _
      rw [show es.map (Value.int .i64) ++ [Value.int .i64 je] = (es ++ [je]).map (Value.int .i64) by simp] at hown'
      have F8 := (Far.of_below hbN).grown hgrow (T := fun k => Value.ownBlock _ = some k) (fun g hg _ => hg)
      have hS7 := hS6.far F8 (fun h => own_other row6 h kM6 (by decide)) (fun h => own_other row6 h kx6 (by decide))
      refine hK.out _ _ (fun _ => hS7) (fun hS => ?_)
      clear hK K
      replace hS := hS rfl
      try simp only [Act.put, List.setIfInBounds_toArray, List.set_cons_zero, List.set_cons_succ]
      refine wpAnyT_ready (rs := [14]) (by kernel_rfl) (by simp) ?_
      refine' AllReadyT.cons ?hi14 (fun K hK => ?st14) AllReadyT.nil
      case hi14 => (simp only [List.getElem?_toArray, List.getElem?_cons_succ, List.getElem?_cons_zero]; rfl)
      go_simp
      refine hK.out _ _ (fun h => absurd h (by decide)) (fun _ => ?_)
      clear hK K
      refine wpAnyT_done (by kernel_rfl) ?_ _
      refine noPanic_normal ?_
      go_wp2_with fail
      go_roundw
      case rel =>
        exact ⟨k + 1, es ++ [je], jV, by omega, by go_num, hsn', Lib.hid (by rw [List.length_append, hel.out]; rfl), hown', Lib.hid (V6'.out.far F8 (fun h => by have := (row6.lt b h).1; omega) (fun _ _ _ _ _ _ g _ _ _ hc hg => hc.elim fun cr hcr => own_other row6 hg hcr (by decide))), hF6.trans' F8 (fun i hi h => by have := (row6.lt i h).1; omega)⟩
      case measure => simp [intOf]; omega
    · obtain rfl : k = ln := by omega
      have hlt' : decide ((k : Int) < (k : Int)) = false := by simp
      have hln2 := hl'.out
      have hEr : Hid (errsF V p l = (es, U)) := Lib.hid (by have := hfl.out; rwa [List.take_of_length_le (by omega)] at this)
      obtain ⟨wA, rfl⟩ : ∃ wA, wA = wr := ⟨_, rfl⟩
      have HR1 := Lib.hid (HRl.out U wA hU.out)
      have cM := kMr.cell
      clear hfl hr' hx' hln2
      go_wp2_with fail
      refine HR1.out.mono ?_
      rintro e w6 ⟨rfl, V6, F6⟩
      have hF6 : Far (fun k => k = b) w w6 := hF.trans F6
      have kM6 := F6.blk kMr (by show ¬ g0 = b; exact hg)
      have row6 := ownsRow_far hrow F6 (fun g hg h => by have := (hrow.lt g hg).1; omega)
      have V6' := Lib.hid V6
      have hL2 : Hid (R = (firE (es ++ [(bec U p n 1 1 0).1]), (bec U p n 1 1 0).2)) := Lib.hid (by rw [hL.out, hEr.out])
      generalize bec U p n 1 1 0 = J at *
      obtain ⟨je, jV⟩ := J
      simp only at hL2 V6'
      have kN := Blk.new w6 35 #[.int .i64 je]
      have hbN : Below w6.heap.size w6 (w6.alloc (.cells #[.int .i64 je] 35)) := (Below.refl _ _).alloc (Nat.le_refl _) _
      have hs6 := hF6.size
      clear HR1 HRl V6 F6 hrow hF hU cM kMr hL hEr
      go_upto_region 8 with (refine wpList_append_own _ rfl (.tmp 34) (.tmp 42) 285 rfl w.heap.size 35 i0 (.int .i64 0) 1 8 Tryz.underlying285 hi hz0 hz1 hz2 rfl (by decide) _ k (es.map (Value.int .i64)) rfl (row6.alloc _) ⟨w6.heap.size, 0, none⟩ 1 1 [.int .i64 je] rfl rfl (news_i kN) ints_one (by unfold maxLen; omega) (by omega) (by simp; omega) ?_; intro v' w7 hown' hgrow _; rw [show es.map (Value.int .i64) ++ [Value.int .i64 je] = (es ++ [je]).map (Value.int .i64) by simp] at hown'; have F8 := (Far.of_below hbN).grown hgrow (T := fun k => Value.ownBlock _ = some k) (fun g hg _ => hg); obtain ⟨A9, c9, rfl, hru9, _, _, hfr9, _⟩ := own_Rd hown')
      have V7 := Lib.hid (V6'.out.far F8 (fun h => by have := (row6.lt b h).1; omega) (fun _ _ _ _ _ _ g _ _ _ hc hg => hc.elim fun cr hcr => own_other row6 hg hcr (by decide)))
      have hF7 : Far (fun k => k = b) w w7 := hF6.trans' F8 (fun i hi h => by have := (row6.lt i h).1; omega)
      have kM7 := F8.blk kM6 (fun h => own_other row6 h kM6 (by decide))
      have hel' : (es ++ [je]).length = k + 1 := by rw [List.length_append, hel.out]; rfl
      generalize es ++ [je] = fs at *
      have HI := indexE_any (fun x => x != 0) 205 #[] A9 (k + 1) c9 fs w7 hel' (by unfold maxLen; omega) hru9 leave1_enters (fun x _ W _ => leave1_any x W)
      have hfi := idx_firE fs 0
      have ro7 := ownsRow_far ro hF7 (fun g hg h => by have := (ro.lt g hg).1; omega)
      have hgv : ∀ g, v2.ownBlock = some g → NB ≤ g ∧ g < w.heap.size := fun g hg => ro.lt g hg
      generalize idxI (fun x => x != 0) fs 0 = ix at *
      have HI' := Lib.hid HI
      clear HI row6 hown' hgrow F8 hbN kN kM6 V6' hF6 hs6
      rcases hfi with ⟨rfl, hf0⟩ | ⟨j, hj1, hj2, hj3, hj4⟩
      · rw [hf0] at hL2
        go_wp2_with fail
        refine HI'.out.mono ?_
        rintro e w8 ⟨rfl, hb8⟩
        go_wp2_with fail
        go_ret
        rw [hL2.out]
        exact ⟨rfl, v2, kM7.call hb8, by simp only [stayF]; exact ownsRow_call ro7 hb8, V7.out.call hb8, (hF7.trans (.of_below hb8)).mono (fun k _ h => .inl h)⟩
      · rw [Nat.zero_add] at hj2
        subst hj2
        have hj0 : decide ((j : Int) < 0) = false := by rw [decide_eq_false_iff_not]; omega
        have hjk : (j : Int) < ((k + 1 : Nat) : Int) := by omega
        obtain ⟨rb, ro', rfl, hrb, c9'⟩ := RI.at_ (xs := fs) hru9 (k := j) (by omega)
        have hrbw := hfr9 rb ro' rfl
        rw [hj3] at c9'
        obtain ⟨er, her⟩ : ∃ er, firE fs = er := ⟨_, rfl⟩
        rw [her] at c9' hL2 hj4
        obtain ⟨A2, cap2, rfl, _⟩ := own_RU ro7 rfl
        clear her hj3 hru9
        go_wp2_with fail
        refine HI'.out.mono ?_
        rintro e w8 ⟨rfl, hb8⟩
        have kM8 := kM7.call hb8
        have cM8 := kM8.cell
        have V8 := Lib.hid (V7.out.call hb8)
        have ro8 := ownsRow_call ro7 hb8
        have c98 := (hb8.cell (p := ⟨rb, ro' + j, none⟩) hrb).trans c9'
        have hs7 := hF7.size
        have hs8 := hb8.size
        have kN := Blk.new w8 115 #[.int .i64 p, .int .i64 (n : Int)]
        have hbN : Below w8.heap.size w8 (w8.alloc (.cells #[.int .i64 p, .int .i64 (n : Int)] 115)) := (Below.refl _ _).alloc (Nat.le_refl _) _
        obtain ⟨sl, hsl⟩ : ∃ sl, st.length = sl := ⟨_, rfl⟩
        have F78 : Far (fun k => k = b) w w8 := hF7.trans (.of_below hb8)
        rw [hsl] at ro8 hgv hst kM8 cM8
        have T6 : ¬ (Value.slice A2 sl cap2).ownBlock = some rb := (fun h => by have := hgv _ h; omega)
        clear HI' kM7 c9' V7 ro7 hF7 ro
        go_wp2_with (refine wpList_append_own _ rfl (.tmp 52) (.tmp 56) 22 rfl NB 115 j0 (.agg #[.int .i64 0, .int .i64 0]) 2 16 Tryz.underlying22 hj hy0 hy1 hy2 rfl (by decide) _ sl (spCells st) rfl (ro8.alloc _) ⟨w8.heap.size, 0, none⟩ 1 1 [.int .i64 p, .int .i64 (n : Int)] rfl rfl (news_two kN) news_one2 (by unfold maxLen; omega) (by omega) (by simp; omega) ?_; intro v' w9 hown' hgrow _; have F9 : Far (fun g => (Value.slice A2 sl cap2).ownBlock = some g) w8 w9 := (Far.of_below hbN).grown hgrow (fun g hg _ => hg); have kM9 := F9.blk kM8 (fun h => own_other ro8 h kM8 (by decide)); have fM9 := kM9.frozen; have cM9 := kM9.cell; have c99 := F9.cell c98 T6; obtain ⟨A2n, cap2n, rfl⟩ := own_slice hown'; clear cM8)
        go_ret
        have FS : Far (fun i => i = g0) w9 (w9.setCell ⟨g0, 2, none⟩ (.slice A2n (sl + 1) cap2n)) := Far.setCell (T := fun i => i = g0) (p := ⟨g0, 2, none⟩) (Far.refl _ w9) (fun _ => rfl) _
        have V9 := V8.out.far F9 (fun h => by have := (ro8.lt b h).1; omega) (fun _ _ _ _ _ _ g _ _ _ hc hg => hc.elim fun cr hcr => own_other ro8 hg hcr (by decide))
        rw [hL2.out]
        refine ⟨rfl, _, kM9.set_ 2 (.slice A2n (sl + 1) cap2n), ?_, V9.far FS (fun h => hg h.symm) (fun _ _ _ _ _ _ g _ _ _ hc hg => hc.elim fun cr hcr => Blk.ne_ hcr kM9 (by decide) hg), ?_⟩
        · rw [show stayF st er (p, (n : Int)) = st ++ [(p, (n : Int))] by rw [stayF, if_pos hj4], List.length_append, List.length_singleton, hsl, spCells_snoc]
          exact ownsRow_far hown' FS (fun g hg h => own_other hown' (hg.trans (congrArg some h)) kM9 (by decide))
        · rw [hsl]
          exact ((F78.mono (T' := fun k => k = b ∨ k = g0 ∨ (Value.slice A2 sl cap2).ownBlock = some k) (fun k _ h => .inl h)).trans' F9 (fun i _ h => .inr (.inr h))).trans' FS (fun i _ h => .inr (.inl h))
end Go.Proofs.YtpabnbhbcphfiaaGreat
namespace Go.Pol
open Go Go.Proofs Go.RowKit
section
variable {P : Program} {ops : Array Oper} {Q : Exit → Act → World → Prop} {md : Region.Mode} {S : World → Prop} {tl : List Nat}
/-- operations that need nothing may be taken ahead: the condition on the world is asked from here on -/
theorem wpAnyT_weakS : ∀ (fuel : Nat) (listed : Array Bool) (a : Act) (w : World), wpAnyT P md ops Q S tl fuel listed a w → wpAnyT P md ops Q (fun _ => True) [] fuel listed a w
  | 0, _, _, _, h => h
  | fuel + 1, _, _, _, h => ⟨h.1, fun i hi => wpOp_mono (fun a' w' h' => ⟨fun _ => trivial, wpAnyT_weakS fuel _ a' w' h'.2⟩) (h.2 i hi)⟩
end
/-- the cells of two spans of a row -/
def SwT (g p q : Nat) (x y : Sp) (W : World) : Prop := (W.cell? ⟨g, p * 2, none⟩ = some (.int .i64 x.1) ∧ W.cell? ⟨g, p * 2 + 1, none⟩ = some (.int .i64 x.2)) ∧ W.cell? ⟨g, q * 2, none⟩ = some (.int .i64 y.1) ∧ W.cell? ⟨g, q * 2 + 1, none⟩ = some (.int .i64 y.2)
end Go.Pol
namespace Go.Proofs.YtpabnbhbcphfiaaGreat
open Go Go.Proofs Go.RowKit Go.Pol Go.Shelf
attribute [local go_sem] Oper.semAt_some Go.Pol.wide_fn Go.Pol.wide_depth Go.Pol.wide_fn' Go.Pol.wide_depth'

theorem own_frozen {w : World} {base g n sz cap : Nat} {e : TypeId} {xs : List Value} (h : w.ownsRow base e sz (.slice (some ⟨g, 0, none⟩) n cap) n xs) : ∃ cur, Blk w g e cur := by
  rcases h.2 with ⟨hn, _⟩ | ⟨g', cap', cur, hv, _, hk, _⟩
  · cases hn
  · cases hv; exact ⟨cur, hk⟩
theorem own_span {w : World} {base g n cap p : Nat} {e : TypeId} {l : List Sp} (h : w.ownsRow base e 2 (.slice (some ⟨g, 0, none⟩) n cap) n (spCells l)) (hl : l.length = n) (hp : p < n) :
    w.cell? ⟨g, p * 2, none⟩ = some (.int .i64 (l.getD p (0, 0)).1) ∧ w.cell? ⟨g, p * 2 + 1, none⟩ = some (.int .i64 (l.getD p (0, 0)).2) := by
  have h2 := spCells_at l p (by omega)
  rw [h.cellAt _ (by omega), h.cellAt _ (by omega)]
  exact h2
theorem own_setSpan {w : World} {base g n cap p : Nat} {e : TypeId} {l : List Sp} (h : w.ownsRow base e 2 (.slice (some ⟨g, 0, none⟩) n cap) n (spCells l)) (hp : p < n) (y : Sp) :
    ((w.setCell ⟨g, p * 2, none⟩ (.int .i64 y.1)).setCell ⟨g, p * 2 + 1, none⟩ (.int .i64 y.2)).ownsRow base e 2 (.slice (some ⟨g, 0, none⟩) n cap) n (spCells (l.set p y)) := by
  rw [← spCells_setE]
  exact own_bump (own_bump h (by omega)) (by omega)
set_option maxRecDepth 100000 in
set_option maxHeartbeats 1600000 in
theorem rev_any (g n cap base : Nat) (l : List Sp) (w : World) (hl : l.length = n) (hn : n ≤ 1024) (ro : w.ownsRow base 115 2 (.slice (some ⟨g, 0, none⟩) n cap) n (spCells l)) :
    Calls Tryz.prog 146 #[.slice (some ⟨g, 0, none⟩) n cap] w fun e w' => e = .returned (.tuple #[]) ∧ w'.ownsRow base 115 2 (.slice (some ⟨g, 0, none⟩) n cap) n (spCells l.reverse) ∧ Far (fun k => k = g) w w' := by
  have hl' := Lib.hid hl
  clear hl
  go_enter Tryz.func146, Tryz.ntmps146
  go_wp2_with fail
  go_loopw [2, 3] (fun i j wr => ∃ (k : Nat) (jv : Int), 2 * k ≤ n ∧ i = .int .i64 k ∧ j = .int .i64 jv ∧ jv = (n : Int) - 1 - k ∧ wr.ownsRow base 115 2 (.slice (some ⟨g, 0, none⟩) n cap) n (spCells (revK k l)) ∧ Far (fun k => k = g) w wr) (fun i _ _ => n - (intOf i).toNat)
  case atStart => exact ⟨0, _, by omega, rfl, rfl, by omega, ro, Far.refl _ _⟩
  case round =>
    clear ro
    obtain ⟨k, jv, hk, rfl, rfl, hjv, ro, hF⟩ := hrel
    by_cases hlt : (k : Int) < jv
    · have hlt' : decide ((k : Int) < jv) = true := by simpa using hlt
      obtain ⟨q, rfl⟩ := Int.eq_ofNat_of_zero_le (show 0 ≤ jv by omega)
      have hq : q = l.length - 1 - k := by have := hl'.out; omega
      have hlk := revK_len l k
      rw [hl'.out] at hlk
      have hnext : Hid (revK (k + 1) l = ((revK k l).set k ((revK k l).getD q (0, 0))).set q ((revK k l).getD k (0, 0))) := Lib.hid (by rw [revK, hq])
      have hS0 : SwT g k q ((revK k l).getD k (0, 0)) ((revK k l).getD q (0, 0)) wr := ⟨own_span ro hlk (by omega), own_span ro hlk (by omega)⟩
      generalize revK k l = lk at *
      have hset := own_setSpan (w := wr.drew) (p := k) (show wr.drew.ownsRow base _ 2 _ n (spCells lk) from ownsRow_call ro ((Below.refl _ wr).drew)) (by omega) (lk.getD q (0, 0))
      have hset2 := own_setSpan (p := q) hset (by omega) (lk.getD k (0, 0))
      rw [← hnext.out] at hset2
      generalize lk.getD k (0, 0) = x at *
      generalize hY : lk.getD q (0, 0) = y at *
      obtain ⟨cur, hcur⟩ := own_frozen ro
      have hkn : (k : Int) < (n : Int) := by omega
      have hkq : k < q := by omega
      have hqn : (q : Int) < (n : Int) := by omega
      have hjv' := Lib.hid hjv
      have hk' := Lib.hid hk
      clear hjv hlt
      go_upto_region 3 with fail
      refine wp_noPanic ?_
      refine wp_region_T (fun _ => True) [] (by kernel_rfl) ?_
      have hS : SwT g k q x y wr.drew := hS0
      have kd := hcur.drew
      have hFd := hF.drew
      generalize wr.drew = w1 at *
      obtain ⟨xa, xb⟩ := x
      obtain ⟨ya, yb⟩ := y
      clear hS0 hcur hF ro hnext hq
      refine' wpAnyT_take (i := 0) (v := _) ?hiT0 (by kernel_rfl) ?hQT0 (Or.inl ⟨?hwT0, ?hyT0⟩) trivial ?reT0
      case hiT0 => (simp only [List.getElem?_toArray, List.getElem?_cons_zero]; rfl)
      case hQT0 => exact fun _ _ _ h => h
      case hwT0 => rfl
      case hyT0 => (intro wS hSw; go_simp; (try with_reducible rfl))
      try simp only [Act.put, List.setIfInBounds_toArray, List.set_cons_zero, List.set_cons_succ]
      refine' wpAnyT_take (i := 1) (v := _) ?hiT1 (by kernel_rfl) ?hQT1 (Or.inl ⟨?hwT1, ?hyT1⟩) trivial ?reT1
      case hiT1 => (simp only [List.getElem?_toArray, List.getElem?_cons_succ, List.getElem?_cons_zero]; rfl)
      case hQT1 => exact fun _ _ _ h => h
      case hwT1 => rfl
      case hyT1 => (intro wS hSw; go_simp; (try with_reducible rfl))
      try simp only [Act.put, List.setIfInBounds_toArray, List.set_cons_zero, List.set_cons_succ]
      refine' wpAnyT_take (i := 2) (v := _) ?hiT2 (by kernel_rfl) ?hQT2 (Or.inl ⟨?hwT2, ?hyT2⟩) trivial ?reT2
      case hiT2 => (simp only [List.getElem?_toArray, List.getElem?_cons_succ, List.getElem?_cons_zero]; rfl)
      case hQT2 => exact fun _ _ _ h => h
      case hwT2 => rfl
      case hyT2 => (intro wS hSw; go_simp; (try with_reducible rfl))
      try simp only [Act.put, List.setIfInBounds_toArray, List.set_cons_zero, List.set_cons_succ]
      refine' wpAnyT_take (i := 3) (v := _) ?hiT3 (by kernel_rfl) ?hQT3 (Or.inl ⟨?hwT3, ?hyT3⟩) trivial ?reT3
      case hiT3 => (simp only [List.getElem?_toArray, List.getElem?_cons_succ, List.getElem?_cons_zero]; rfl)
      case hQT3 => exact fun _ _ _ h => h
      case hwT3 => rfl
      case hyT3 => (intro wS hSw; go_simp; (try with_reducible rfl))
      try simp only [Act.put, List.setIfInBounds_toArray, List.set_cons_zero, List.set_cons_succ]
      refine wpAnyT_weakS (S := SwT g k q (xa, xb) (ya, yb)) (tl := [13, 14, 15]) _ _ _ _ ?_
      refine' wpAnyT_take (i := 4) (v := _) ?hiT4 (by kernel_rfl) ?hQT4 (Or.inl ⟨?hwT4, ?hyT4⟩) hS ?reT4
      case hiT4 => (simp only [List.getElem?_toArray, List.getElem?_cons_succ, List.getElem?_cons_zero]; rfl)
      case hQT4 => exact fun _ _ _ h => h
      case hwT4 => rfl
      case hyT4 => (intro wS hSw; obtain ⟨_, _⟩ := hSw; go_simp; (try with_reducible rfl))
      try simp only [Act.put, List.setIfInBounds_toArray, List.set_cons_zero, List.set_cons_succ]
      refine' wpAnyT_take (i := 5) (v := _) ?hiT5 (by kernel_rfl) ?hQT5 (Or.inl ⟨?hwT5, ?hyT5⟩) hS ?reT5
      case hiT5 => (simp only [List.getElem?_toArray, List.getElem?_cons_succ, List.getElem?_cons_zero]; rfl)
      case hQT5 => exact fun _ _ _ h => h
      case hwT5 => rfl
      case hyT5 => (intro wS hSw; obtain ⟨_, _⟩ := hSw; go_simp; (try with_reducible rfl))
      try simp only [Act.put, List.setIfInBounds_toArray, List.set_cons_zero, List.set_cons_succ]
      refine' wpAnyT_take (i := 6) (v := _) ?hiT6 (by kernel_rfl) ?hQT6 (Or.inl ⟨?hwT6, ?hyT6⟩) hS ?reT6
      case hiT6 => (simp only [List.getElem?_toArray, List.getElem?_cons_succ, List.getElem?_cons_zero]; rfl)
      case hQT6 => exact fun _ _ _ h => h
      case hwT6 => rfl
      case hyT6 => (intro wS hSw; obtain ⟨_, _⟩ := hSw; go_simp; (try with_reducible rfl))
      try simp only [Act.put, List.setIfInBounds_toArray, List.set_cons_zero, List.set_cons_succ]
      refine' wpAnyT_take (i := 7) (v := _) ?hiT7 (by kernel_rfl) ?hQT7 (Or.inl ⟨?hwT7, ?hyT7⟩) hS ?reT7
      case hiT7 => (simp only [List.getElem?_toArray, List.getElem?_cons_succ, List.getElem?_cons_zero]; rfl)
      case hQT7 => exact fun _ _ _ h => h
      case hwT7 => rfl
      case hyT7 => (intro wS hSw; obtain ⟨_, _⟩ := hSw; go_simp; (try with_reducible rfl))
      try simp only [Act.put, List.setIfInBounds_toArray, List.set_cons_zero, List.set_cons_succ]
      refine' wpAnyT_take (i := 8) (v := _) ?hiT8 (by kernel_rfl) ?hQT8 (Or.inl ⟨?hwT8, ?hyT8⟩) hS ?reT8
      case hiT8 => (simp only [List.getElem?_toArray, List.getElem?_cons_succ, List.getElem?_cons_zero]; rfl)
      case hQT8 => exact fun _ _ _ h => h
      case hwT8 => rfl
      case hyT8 => (intro wS hSw; obtain ⟨_, _⟩ := hSw; go_simp; (try with_reducible rfl))
      try simp only [Act.put, List.setIfInBounds_toArray, List.set_cons_zero, List.set_cons_succ]
      refine' wpAnyT_take (i := 9) (v := _) ?hiT9 (by kernel_rfl) ?hQT9 (Or.inl ⟨?hwT9, ?hyT9⟩) hS ?reT9
      case hiT9 => (simp only [List.getElem?_toArray, List.getElem?_cons_succ, List.getElem?_cons_zero]; rfl)
      case hQT9 => exact fun _ _ _ h => h
      case hwT9 => rfl
      case hyT9 => (intro wS hSw; obtain ⟨_, _⟩ := hSw; go_simp; (try with_reducible rfl))
      try simp only [Act.put, List.setIfInBounds_toArray, List.set_cons_zero, List.set_cons_succ]
      refine' wpAnyT_take (i := 10) (v := _) ?hiT10 (by kernel_rfl) ?hQT10 (Or.inl ⟨?hwT10, ?hyT10⟩) hS ?reT10
      case hiT10 => (simp only [List.getElem?_toArray, List.getElem?_cons_succ, List.getElem?_cons_zero]; rfl)
      case hQT10 => exact fun _ _ _ h => h
      case hwT10 => rfl
      case hyT10 => (intro wS hSw; obtain ⟨_, _⟩ := hSw; go_simp; (try with_reducible rfl))
      try simp only [Act.put, List.setIfInBounds_toArray, List.set_cons_zero, List.set_cons_succ]
      refine' wpAnyT_take (i := 11) (v := _) ?hiT11 (by kernel_rfl) ?hQT11 (Or.inl ⟨?hwT11, ?hyT11⟩) hS ?reT11
      case hiT11 => (simp only [List.getElem?_toArray, List.getElem?_cons_succ, List.getElem?_cons_zero]; rfl)
      case hQT11 => exact fun _ _ _ h => h
      case hwT11 => rfl
      case hyT11 => (intro wS hSw; obtain ⟨_, _⟩ := hSw; go_simp; (try with_reducible rfl))
      try simp only [Act.put, List.setIfInBounds_toArray, List.set_cons_zero, List.set_cons_succ]
      refine' wpAnyT_take (i := 12) (v := _) ?hiT12 (by kernel_rfl) ?hQT12 (Or.inl ⟨?hwT12, ?hyT12⟩) hS ?reT12
      case hiT12 => (simp only [List.getElem?_toArray, List.getElem?_cons_succ, List.getElem?_cons_zero]; rfl)
      case hQT12 => exact fun _ _ _ h => h
      case hwT12 => rfl
      case hyT12 => (intro wS hSw; obtain ⟨_, _⟩ := hSw; go_simp; (try with_reducible rfl))
      try simp only [Act.put, List.setIfInBounds_toArray, List.set_cons_zero, List.set_cons_succ]
      have fzd := kd.frozen
      refine wpAnyT_ready (rs := [13]) (by kernel_rfl) (by simp) ?_
      refine' AllReadyT.cons ?hi13 (fun K hK => ?st13) AllReadyT.nil
      case hi13 => (simp only [List.getElem?_toArray, List.getElem?_cons_succ, List.getElem?_cons_zero]; rfl)
      obtain ⟨⟨a0, a1⟩, b0, b1⟩ := hS
      go_simp
      refine hK.out _ _ (fun h => by cases h) (fun _ => ?_)
      clear hK K a0 a1 b0 b1 fzd
      have F2 : Far (fun k => k = g) w1 ((w1.setCell ⟨g, k * 2, none⟩ (.int .i64 ya)).setCell ⟨g, k * 2 + 1, none⟩ (.int .i64 yb)) := Far.setCell (T := fun k => k = g) (p := ⟨g, k * 2 + 1, none⟩) (Far.setCell (T := fun k => k = g) (p := ⟨g, k * 2, none⟩) (Far.refl _ _) (fun _ => rfl) _) (fun _ => rfl) _
      have k2 := (kd.set_ (k * 2) (.int .i64 ya)).set_ (k * 2 + 1) (.int .i64 yb)
      simp only at hset hset2
      generalize (w1.setCell ⟨g, k * 2, none⟩ (.int .i64 ya)).setCell ⟨g, k * 2 + 1, none⟩ (.int .i64 yb) = w2 at *
      try simp only [Act.put, List.setIfInBounds_toArray, List.set_cons_zero, List.set_cons_succ]
      refine wpAnyT_ready (rs := [14]) (by kernel_rfl) (by simp) ?_
      refine' AllReadyT.cons ?hi14 (fun K hK => ?st14) AllReadyT.nil
      case hi14 => (simp only [List.getElem?_toArray, List.getElem?_cons_succ, List.getElem?_cons_zero]; rfl)
      go_simp
      refine hK.out _ _ (fun h => by cases h) (fun _ => ?_)
      clear hK K
      try simp only [Act.put, List.setIfInBounds_toArray, List.set_cons_zero, List.set_cons_succ]
      have fz2 := k2.frozen
      obtain ⟨c0, c1⟩ := own_span hset (p := q) (by rw [List.length_set]; exact hlk) (by omega)
      refine wpAnyT_ready (rs := [15]) (by kernel_rfl) (by simp) ?_
      refine' AllReadyT.cons ?hi15 (fun K hK => ?st15) AllReadyT.nil
      case hi15 => (simp only [List.getElem?_toArray, List.getElem?_cons_succ, List.getElem?_cons_zero]; rfl)
      go_simp
      refine hK.out _ _ (fun h => by cases h) (fun _ => ?_)
      clear hK K c0 c1 fz2
      have F3 : Far (fun k => k = g) w2 ((w2.setCell ⟨g, q * 2, none⟩ (.int .i64 xa)).setCell ⟨g, q * 2 + 1, none⟩ (.int .i64 xb)) := Far.setCell (T := fun k => k = g) (p := ⟨g, q * 2 + 1, none⟩) (Far.setCell (T := fun k => k = g) (p := ⟨g, q * 2, none⟩) (Far.refl _ _) (fun _ => rfl) _) (fun _ => rfl) _
      generalize (w2.setCell ⟨g, q * 2, none⟩ (.int .i64 xa)).setCell ⟨g, q * 2 + 1, none⟩ (.int .i64 xb) = w3 at *
      refine wpAnyT_done (by kernel_rfl) ?_ _
      have F13 := hFd.trans (F2.trans F3)
      clear F2 F3 hFd k2 kd hset
      refine noPanic_normal ?_
      go_wp2_with fail
      go_roundw
      case rel => exact ⟨k + 1, _, by have := hjv'.out; omega, by go_num, rfl, by have := hjv'.out; omega, hset2, F13⟩
      case measure => simp [intOf]; omega
    · have hlt' : decide ((k : Int) < jv) = false := by simpa using hlt
      have hrv := revK_rev l k (by have := hl'.out; omega) (by have := hl'.out; omega)
      rw [hrv] at ro
      go_wp2_with fail
      go_end0
      exact ⟨rfl, ro, hF⟩
theorem revNil_any (A : Option Addr) (cap : Nat) (w : World) : Calls Tryz.prog 146 #[.slice A 0 cap] w fun e w' => e = .returned (.tuple #[]) ∧ w' = w := by
  go_enter Tryz.func146, Tryz.ntmps146
  go_wp2_with fail
  go_loopw [2, 3] (fun i j wr => i = .int .i64 0 ∧ j = .int .i64 (-1) ∧ wr = w) (fun _ _ _ => 0)
  case atStart => exact ⟨rfl, rfl, rfl⟩
  case round =>
    obtain ⟨rfl, rfl, hw⟩ := hrel
    have hw' := hw.symm
    clear hw
    subst hw'
    go_wp2_with fail
    go_end0
    exact ⟨rfl, rfl⟩
theorem revAny_any (v : Value) (n base : Nat) (l : List Sp) (w : World) (hl : l.length = n) (hn : n ≤ 1024) (ro : w.ownsRow base 115 2 v n (spCells l)) :
    Calls Tryz.prog 146 #[v] w fun e w' => e = .returned (.tuple #[]) ∧ w'.ownsRow base 115 2 v n (spCells l.reverse) ∧ Far (fun k => v.ownBlock = some k) w w' := by
  cases n with
  | zero =>
    obtain ⟨A, cap, rfl⟩ := own_slice ro
    obtain rfl : l = [] := List.eq_nil_of_length_eq_zero hl
    refine (revNil_any A cap w).mono ?_
    rintro e w' ⟨rfl, rfl⟩
    exact ⟨rfl, ro, Far.refl _ _⟩
  | succ m =>
    obtain ⟨g, cap, rfl⟩ := ownsRow_succ ro
    refine (rev_any g (m + 1) cap base l w hl hn ro).mono ?_
    rintro e w' ⟨rfl, h1, h2⟩
    exact ⟨rfl, h1, h2.mono (fun k _ h => by rw [h]; rfl)⟩
theorem RU.takenS {w : World} {B : Nat} {A : Option Addr} {us : List Sp} (h : RU w B A us) (m : Nat) : RU w B A (us.take m) := fun k hk => by
  have hk2 : k < m ∧ k < us.length := by rw [List.length_take] at hk; omega
  have e : (us.take m).getD k (0, 0) = us.getD k (0, 0) := by simp [List.getD_eq_getElem?_getD, hk2.1]
  rw [e]
  exact h k hk2.2
end Go.Proofs.YtpabnbhbcphfiaaGreat
namespace Go.Pol
open Go Go.RowKit
/-- the blocks after a move, and the spans that stay -/
def movBs (bs : List B3) (k : Nat) (q : Int) (r : Int × Bool × Bool × Vm) : List B3 := if r.2.1 = true then bs.set k (q, (bs.getD k b0).2) else bs
def movSt (st : List Sp) (p q n : Int) (r : Int × Bool × Bool × Vm) : List Sp := if r.2.2.1 = true then st ++ [(if r.2.1 = true then p else q, n)] else st
/-- a page that a block that is moved may not have -/
def badB (V : Vm) (p : Int) : Bool := (kindF V p == 0 || kindF V p == 3) || hugeF V p
def badM (V : Vm) (bs : List B3) (m : Int × Int) : Bool := (List.range (pw (bs.getD m.1.toNat b0).2.1).toNat).any fun i => badB V ((bs.getD m.1.toNat b0).1 + (i : Int))
def downB (V : Vm) (bs : List B3) (ms : List (Int × Int)) : Bool := ms.any (badM V bs)
/-- moves made one after the other: the blocks, what stays, the first error, the system -/
def moveM (V : Vm) (bs : List B3) (m : Int × Int) : Int × Bool × Bool × Vm := moveF V (bs.getD m.1.toNat b0).1 m.2 (pw (bs.getD m.1.toNat b0).2.1)
def doL : Vm → List B3 → List Sp → List (Int × Int) → List B3 × List Sp × Int × Vm
  | V, bs, st, [] => (bs, st, 0, V)
  | V, bs, st, m :: r => if (moveM V bs m).1 ≠ 0 then (movBs bs m.1.toNat m.2 (moveM V bs m), movSt st (bs.getD m.1.toNat b0).1 m.2 (pw (bs.getD m.1.toNat b0).2.1) (moveM V bs m), (moveM V bs m).1, (moveM V bs m).2.2.2)
    else doL (moveM V bs m).2.2.2 (movBs bs m.1.toNat m.2 (moveM V bs m)) (movSt st (bs.getD m.1.toNat b0).1 m.2 (pw (bs.getD m.1.toNat b0).2.1) (moveM V bs m)) r
def doF (V : Vm) (pages : Int) (bs : List B3) (ms : List (Int × Int)) : List B3 × List Sp × Int × Vm :=
  if (afterB pages bs ms).2 ≠ 0 then ([], [], (afterB pages bs ms).2, V) else if downB V bs ms = true then ([], [], 9, V) else doL V bs [] ms
/-- a move that meets no error has moved its block -/
theorem moveF_ok {V : Vm} {p q n : Int} (h : (moveF V p q n).1 = 0) : (moveF V p q n).2.1 = true := by
  unfold moveF at h ⊢
  split at h
  · rename_i h1; exact absurd h h1
  · rename_i h1
    rw [if_neg h1]
    simp only at h ⊢
    split at h
    · rename_i h2; exact absurd h h2
    · rename_i h2
      rw [if_neg h2]
theorem moveM_ok {V : Vm} {bs : List B3} {m : Int × Int} (h : (moveM V bs m).1 = 0) : movBs bs m.1.toNat m.2 (moveM V bs m) = movB bs m := by
  unfold movBs movB
  rw [if_pos (show (moveM V bs m).2.1 = true from moveF_ok h)]
theorem chk_ins {pages : Int} {bs : List B3} (h : chkB pages bs = 0) : pages ≤ 1024 ∧ bs.length ≤ 64 ∧ ∀ b ∈ bs, insB pages b.1 b.2.1 = true := by
  unfold chkB at h
  split at h
  · cases h
  · rename_i h1
    split at h
    · cases h
    · split at h
      · cases h
      · rename_i h2 h3
        rw [Bool.not_eq_false] at h1
        obtain ⟨o, ho, hp⟩ := spaceB_iff.1 h1
        refine ⟨by rw [hp]; exact pw_le (by omega), by omega, fun b hb => ?_⟩
        rw [Bool.not_eq_true, List.any_eq_false] at h3
        have := h3 b hb
        simpa using this
theorem ins_bounds {pages page o : Int} (hp : pages ≤ 1024) (h : insB pages page o = true) : (0 ≤ o ∧ o ≤ 10) ∧ 0 ≤ page ∧ page ≤ 1024 := by
  obtain ⟨h1, h2, _, h4⟩ := insB_iff.1 h
  have := pw_pos o
  exact ⟨h1, h2, by omega⟩
theorem poss_ins {pages : Int} {bs : List B3} {m : Int × Int} (h : possB pages bs m = 0) : (0 ≤ m.1 ∧ m.1 < bs.length) ∧ insB pages m.2 (bs.getD m.1.toNat b0).2.1 = true := by
  unfold possB at h
  split at h
  · cases h
  · rename_i h1
    split at h
    · cases h
    · split at h
      · cases h
      · rename_i h3
        rw [Bool.not_eq_false] at h3
        exact ⟨by omega, h3⟩
theorem after_cons {pages : Int} {bs : List B3} {m : Int × Int} {r : List (Int × Int)} (h : (afterL pages bs (m :: r)).2 = 0) : possB pages bs m = 0 ∧ (afterL pages (movB bs m) r).2 = 0 := by
  rw [afterL] at h
  split at h
  · rename_i h1; exact ⟨h1, h⟩
  · rename_i h1; exact absurd h h1
theorem after_all {pages : Int} : ∀ (ms : List (Int × Int)) (bs : List B3), (afterL pages bs ms).2 = 0 → ∀ m ∈ ms, 0 ≤ m.1 ∧ m.1 < bs.length
  | [], _, _, m, hm => by cases hm
  | x :: r, bs, h, m, hm => by
    obtain ⟨h1, h2⟩ := after_cons h
    rw [List.mem_cons] at hm
    rcases hm with rfl | hm
    · exact (poss_ins h1).1
    · have := after_all r _ h2 m hm
      unfold movB at this
      rwa [List.length_set] at this
theorem ins_mov {pages : Int} {bs : List B3} {m : Int × Int} (h : possB pages bs m = 0) (hall : ∀ b ∈ bs, insB pages b.1 b.2.1 = true) : ∀ b ∈ movB bs m, insB pages b.1 b.2.1 = true := by
  intro b hb
  unfold movB at hb
  rcases List.mem_or_eq_of_mem_set hb with hb | rfl
  · exact hall b hb
  · exact (poss_ins h).2
theorem after_of {pages : Int} {bs : List B3} {ms : List (Int × Int)} (h : (afterB pages bs ms).2 = 0) : chkB pages bs = 0 ∧ ms.length ≤ 256 ∧ (afterL pages bs ms).2 = 0 := by
  unfold afterB at h
  split at h
  · rename_i h1
    split at h
    · cases h
    · exact ⟨h1, by omega, h⟩
  · rename_i h1; exact absurd h h1
theorem downB_cons (V : Vm) (bs : List B3) (m : Int × Int) (r : List (Int × Int)) : downB V bs (m :: r) = (badM V bs m || downB V bs r) := by
  unfold downB
  rw [List.any_cons]
theorem doL_cons (V : Vm) (bs : List B3) (st : List Sp) (m : Int × Int) (r : List (Int × Int)) : doL V bs st (m :: r) = if (moveM V bs m).1 ≠ 0 then (movBs bs m.1.toNat m.2 (moveM V bs m), movSt st (bs.getD m.1.toNat b0).1 m.2 (pw (bs.getD m.1.toNat b0).2.1) (moveM V bs m), (moveM V bs m).1, (moveM V bs m).2.2.2)
    else doL (moveM V bs m).2.2.2 (movBs bs m.1.toNat m.2 (moveM V bs m)) (movSt st (bs.getD m.1.toNat b0).1 m.2 (pw (bs.getD m.1.toNat b0).2.1) (moveM V bs m)) r := rfl
end Go.Pol
