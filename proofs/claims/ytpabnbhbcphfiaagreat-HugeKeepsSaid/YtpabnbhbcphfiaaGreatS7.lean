/- Merged texts. Walks of layer 6: Save's first statement, whose order of evaluation is open. Words for the comparison of arrays of integers, and of the bytes of a page. Walks of layer 6: Save. Walks of the reference of layer 6: two equal saved states are the same. Walks of law 13's own functions: what is kept of a system's bytes; are two such lists equal. What huge's Back does, said in plain words. Walks of layer 13 over a system: huge's Join. Plain law for Split of layer 13: which groups it says. Plain law for Split of layer 13: the program's groups are the reference's. Walks of layer 13 over a system: huge's Back. -/
import Derived.DeepKeys
import Derived.Great.BuildSlice
import Derived.Test.YtpabnbhbcphfiaaGreatS6
namespace Go.Pol
open Go Go.RowKit
/-- the cells of a saved state -/
def stC (v1 v2 v3 v4 : Value) (cs hs : Nat → Int) : List Value := v1 :: v2 :: v3 :: rfC v4 cs hs
theorem stC_one {v1 v2 v3 v4 : Value} (h1 : v1.oneCell' = true) (h2 : v2.oneCell' = true) (h3 : v3.oneCell' = true) (h4 : v4.oneCell' = true) (cs hs : Nat → Int) : ∀ x ∈ stC v1 v2 v3 v4 cs hs, x.oneCell' = true := by
  intro x hx
  simp only [stC, List.mem_cons] at hx
  rcases hx with rfl | rfl | rfl | hx
  · exact h1
  · exact h2
  · exact h3
  · exact rfC_one h4 cs hs x hx
end Go.Pol
namespace Go.Proofs.YtpabnbhbcphfiaaGreat
open Go Go.Proofs Go.RowKit Go.Pol Go.Shelf
attribute [local go_sem] Oper.semAt_some Go.Pol.wide_fn Go.Pol.wide_depth Go.Pol.wide_fn' Go.Pol.wide_depth'

theorem wp_storeU {P : Program} {op : Oper} {a : Act} {w : World} {K : Act → World → Prop} {Q : Exit → Act → World → Prop} (ty : TypeId) (x y : Operand) (ho : op.op = .store ty x y) (hd : op.dst = none)
    (b o : Nat) (cells : Array Value) (hx : a.eval x = .pointer (some ⟨b, o, none⟩)) (hy : a.eval y = .agg cells)
    (ht : w.there b o cells.size) (hi : (P.info? ty).map (·.size) = some cells.size) (h1 : cells.all (·.oneCell') = true)
    (h : K a (w.setCells b o cells.toList)) : op.wp P a w K Q :=
  wp_store_mid ty x y ho b o cells hx hy ht hi h1 (by rw [hd]; exact h)
theorem infoSt : (Tryz.prog.info? 53).map (·.size) = some 18 := by kernel_rfl
def lpput (a : Act) (v10 v11 v12 v13 v14 v15 v16 v17 v3 : Value) : Act := ((((((((a.put (some 10) v10).put (some 11) v11).put (some 12) v12).put (some 13) v13).put (some 14) v14).put (some 15) v15).put (some 16) v16).put (some 17) v17).put (some 3) v3
theorem lp_self (a : Act) (hsz : 68 ≤ a.tmps.size) : lpput a (a.eval (.tmp 10)) (a.eval (.tmp 11)) (a.eval (.tmp 12)) (a.eval (.tmp 13)) (a.eval (.tmp 14)) (a.eval (.tmp 15)) (a.eval (.tmp 16)) (a.eval (.tmp 17)) (a.eval (.tmp 3)) = a := by
  have h : ∀ t : Nat, t < 68 → a.put (some t) (a.eval (.tmp t)) = a := fun t ht => by
    have : a.tmps.setIfInBounds t (a.eval (.tmp t)) = a.tmps := by
      apply Array.ext_getElem?
      intro i
      rw [Array.getElem?_setIfInBounds]
      split
      · rename_i e; subst e
        have : t < a.tmps.size := by omega
        simp [Act.eval, this]
      · rfl
    simp only [Act.put, this]
  unfold lpput
  rw [h 10 (by omega), h 11 (by omega), h 12 (by omega), h 13 (by omega), h 14 (by omega), h 15 (by omega), h 16 (by omega), h 17 (by omega), h 3 (by omega)]
section
variable (a : Act) (v10 v11 v12 v13 v14 v15 v16 v17 v3 x : Value)
theorem lp_10 : (lpput a v10 v11 v12 v13 v14 v15 v16 v17 v3).put (some 10) x = lpput a x v11 v12 v13 v14 v15 v16 v17 v3 := by
  unfold lpput
  rw [swapU _ 3 10 _ _ (by omega), swapU _ 17 10 _ _ (by omega), swapU _ 16 10 _ _ (by omega), swapU _ 15 10 _ _ (by omega), swapU _ 14 10 _ _ (by omega), swapU _ 13 10 _ _ (by omega), swapU _ 12 10 _ _ (by omega), swapU _ 11 10 _ _ (by omega), putU]
theorem lp_11 : (lpput a v10 v11 v12 v13 v14 v15 v16 v17 v3).put (some 11) x = lpput a v10 x v12 v13 v14 v15 v16 v17 v3 := by
  unfold lpput
  rw [swapU _ 3 11 _ _ (by omega), swapU _ 17 11 _ _ (by omega), swapU _ 16 11 _ _ (by omega), swapU _ 15 11 _ _ (by omega), swapU _ 14 11 _ _ (by omega), swapU _ 13 11 _ _ (by omega), swapU _ 12 11 _ _ (by omega), putU]
theorem lp_12 : (lpput a v10 v11 v12 v13 v14 v15 v16 v17 v3).put (some 12) x = lpput a v10 v11 x v13 v14 v15 v16 v17 v3 := by
  unfold lpput
  rw [swapU _ 3 12 _ _ (by omega), swapU _ 17 12 _ _ (by omega), swapU _ 16 12 _ _ (by omega), swapU _ 15 12 _ _ (by omega), swapU _ 14 12 _ _ (by omega), swapU _ 13 12 _ _ (by omega), putU]
theorem lp_13 : (lpput a v10 v11 v12 v13 v14 v15 v16 v17 v3).put (some 13) x = lpput a v10 v11 v12 x v14 v15 v16 v17 v3 := by
  unfold lpput
  rw [swapU _ 3 13 _ _ (by omega), swapU _ 17 13 _ _ (by omega), swapU _ 16 13 _ _ (by omega), swapU _ 15 13 _ _ (by omega), swapU _ 14 13 _ _ (by omega), putU]
theorem lp_14 : (lpput a v10 v11 v12 v13 v14 v15 v16 v17 v3).put (some 14) x = lpput a v10 v11 v12 v13 x v15 v16 v17 v3 := by
  unfold lpput
  rw [swapU _ 3 14 _ _ (by omega), swapU _ 17 14 _ _ (by omega), swapU _ 16 14 _ _ (by omega), swapU _ 15 14 _ _ (by omega), putU]
theorem lp_15 : (lpput a v10 v11 v12 v13 v14 v15 v16 v17 v3).put (some 15) x = lpput a v10 v11 v12 v13 v14 x v16 v17 v3 := by
  unfold lpput
  rw [swapU _ 3 15 _ _ (by omega), swapU _ 17 15 _ _ (by omega), swapU _ 16 15 _ _ (by omega), putU]
theorem lp_16 : (lpput a v10 v11 v12 v13 v14 v15 v16 v17 v3).put (some 16) x = lpput a v10 v11 v12 v13 v14 v15 x v17 v3 := by
  unfold lpput
  rw [swapU _ 3 16 _ _ (by omega), swapU _ 17 16 _ _ (by omega), putU]
theorem lp_17 : (lpput a v10 v11 v12 v13 v14 v15 v16 v17 v3).put (some 17) x = lpput a v10 v11 v12 v13 v14 v15 v16 x v3 := by
  unfold lpput
  rw [swapU _ 3 17 _ _ (by omega), putU]
theorem lp_3 : (lpput a v10 v11 v12 v13 v14 v15 v16 v17 v3).put (some 3) x = lpput a v10 v11 v12 v13 v14 v15 v16 v17 x := by
  unfold lpput
  rw [putU]
end
section
variable (a : Act) (hsz : 68 ≤ a.tmps.size) (v10 v11 v12 v13 v14 v15 v16 v17 v3 : Value)
include hsz
theorem lpev_10 : (lpput a v10 v11 v12 v13 v14 v15 v16 v17 v3).eval (.tmp 10) = v10 := by
  unfold lpput
  rw [evalU_ne _ 3 10 _ (by omega), evalU_ne _ 17 10 _ (by omega), evalU_ne _ 16 10 _ (by omega), evalU_ne _ 15 10 _ (by omega), evalU_ne _ 14 10 _ (by omega), evalU_ne _ 13 10 _ (by omega), evalU_ne _ 12 10 _ (by omega), evalU_ne _ 11 10 _ (by omega), evalU_same _ _ _ (by omega)]
theorem lpev_11 : (lpput a v10 v11 v12 v13 v14 v15 v16 v17 v3).eval (.tmp 11) = v11 := by
  unfold lpput
  rw [evalU_ne _ 3 11 _ (by omega), evalU_ne _ 17 11 _ (by omega), evalU_ne _ 16 11 _ (by omega), evalU_ne _ 15 11 _ (by omega), evalU_ne _ 14 11 _ (by omega), evalU_ne _ 13 11 _ (by omega), evalU_ne _ 12 11 _ (by omega), evalU_same _ _ _ (by rw [sizeU]; omega)]
theorem lpev_12 : (lpput a v10 v11 v12 v13 v14 v15 v16 v17 v3).eval (.tmp 12) = v12 := by
  unfold lpput
  rw [evalU_ne _ 3 12 _ (by omega), evalU_ne _ 17 12 _ (by omega), evalU_ne _ 16 12 _ (by omega), evalU_ne _ 15 12 _ (by omega), evalU_ne _ 14 12 _ (by omega), evalU_ne _ 13 12 _ (by omega), evalU_same _ _ _ (by rw [sizeU, sizeU]; omega)]
theorem lpev_13 : (lpput a v10 v11 v12 v13 v14 v15 v16 v17 v3).eval (.tmp 13) = v13 := by
  unfold lpput
  rw [evalU_ne _ 3 13 _ (by omega), evalU_ne _ 17 13 _ (by omega), evalU_ne _ 16 13 _ (by omega), evalU_ne _ 15 13 _ (by omega), evalU_ne _ 14 13 _ (by omega), evalU_same _ _ _ (by rw [sizeU, sizeU, sizeU]; omega)]
theorem lpev_14 : (lpput a v10 v11 v12 v13 v14 v15 v16 v17 v3).eval (.tmp 14) = v14 := by
  unfold lpput
  rw [evalU_ne _ 3 14 _ (by omega), evalU_ne _ 17 14 _ (by omega), evalU_ne _ 16 14 _ (by omega), evalU_ne _ 15 14 _ (by omega), evalU_same _ _ _ (by rw [sizeU, sizeU, sizeU, sizeU]; omega)]
theorem lpev_15 : (lpput a v10 v11 v12 v13 v14 v15 v16 v17 v3).eval (.tmp 15) = v15 := by
  unfold lpput
  rw [evalU_ne _ 3 15 _ (by omega), evalU_ne _ 17 15 _ (by omega), evalU_ne _ 16 15 _ (by omega), evalU_same _ _ _ (by rw [sizeU, sizeU, sizeU, sizeU, sizeU]; omega)]
theorem lpev_16 : (lpput a v10 v11 v12 v13 v14 v15 v16 v17 v3).eval (.tmp 16) = v16 := by
  unfold lpput
  rw [evalU_ne _ 3 16 _ (by omega), evalU_ne _ 17 16 _ (by omega), evalU_same _ _ _ (by rw [sizeU, sizeU, sizeU, sizeU, sizeU, sizeU]; omega)]
theorem lpev_17 : (lpput a v10 v11 v12 v13 v14 v15 v16 v17 v3).eval (.tmp 17) = v17 := by
  unfold lpput
  rw [evalU_ne _ 3 17 _ (by omega), evalU_same _ _ _ (by rw [sizeU, sizeU, sizeU, sizeU, sizeU, sizeU, sizeU]; omega)]
theorem lpev_3 : (lpput a v10 v11 v12 v13 v14 v15 v16 v17 v3).eval (.tmp 3) = v3 := by
  unfold lpput
  rw [evalU_same _ _ _ (by rw [sizeU, sizeU, sizeU, sizeU, sizeU, sizeU, sizeU, sizeU]; omega)]
omit hsz in
theorem lpev_0 : (lpput a v10 v11 v12 v13 v14 v15 v16 v17 v3).eval (.tmp 0) = a.eval (.tmp 0) := by
  unfold lpput
  rw [evalU_ne _ 3 0 _ (by omega), evalU_ne _ 17 0 _ (by omega), evalU_ne _ 16 0 _ (by omega), evalU_ne _ 15 0 _ (by omega), evalU_ne _ 14 0 _ (by omega), evalU_ne _ 13 0 _ (by omega), evalU_ne _ 12 0 _ (by omega), evalU_ne _ 11 0 _ (by omega), evalU_ne _ 10 0 _ (by omega)]
end

noncomputable def saveOps : Array Oper := (Tryz.f16.body.bind (regOpsU 3)).getD #[]
/-- the value of the closure that goes through the runs -/
def clR (B1 : Nat) : Value := .func (.func 133) #[] #[.pointer (some ⟨B1, 0, none⟩)]
def SaveInv (a0 : Act) (w0 : World) (b : Nat) (V : Vm) (rv : Value) (D : Nat → Bool) (a : Act) (w : World) : Prop :=
  ∃ (v10 v11 v12 v13 v14 v15 v16 v17 v3 : Value) (B1 s3 : Nat), a = lpput a0 v10 v11 v12 v13 v14 v15 v16 v17 v3 ∧ Below w0.heap.size w0 w ∧ (D 0 = true → v10 = .pointer (some ⟨b, 0, none⟩)) ∧
    (D 1 = true → v11 = clR B1 ∧ w0.heap.size ≤ B1 ∧ Blk w B1 34 #[.pointer (some ⟨b, 0, none⟩)]) ∧
    (D 2 = true → w.ownsRow w0.heap.size 122 3 v12 (vrunsL V 1024).length (fl rnC (vrunsL V 1024))) ∧
    (D 3 = true → v13 = .pointer (some ⟨b, 0, none⟩)) ∧ (D 4 = true → v14 = .pointer (some ⟨b, 0, none⟩)) ∧ (D 5 = true → v15 = .pointer (some ⟨b, 67585, none⟩)) ∧ (D 6 = true → v16 = rfV rv V.rf.calls V.rf.hits) ∧
    (D 7 = true → v17 = .agg (stC v12 (.slice none 0 0) (.slice none 0 0) rv V.rf.calls V.rf.hits).toArray) ∧
    (D 8 = true → v3 = .pointer (some ⟨s3, 0, none⟩) ∧ w0.heap.size ≤ s3 ∧ Blk w s3 53 (if D 9 = true then (stC v12 (.slice none 0 0) (.slice none 0 0) rv V.rf.calls V.rf.hits).toArray else (stC (.slice none 0 0) (.slice none 0 0) (.slice none 0 0) (.slice none 0 0) (fun _ => 0) (fun _ => 0)).toArray)) ∧
    (D 9 = true → D 8 = true ∧ D 7 = true) ∧ (D 7 = true → D 2 = true ∧ D 6 = true)
attribute [local irreducible] Oper.wp in
set_option maxHeartbeats 3200000 in
theorem save_first {Q : Exit → Act → World → Prop} (a0 : Act) (w0 : World) (b : Nat) (cs : Array Value) (V : Vm) (A : Option Addr) (n cap : Nat) (hsz : 68 ≤ a0.tmps.size) (hp0 : a0.eval (.tmp 0) = .pointer (some ⟨b, 0, none⟩))
    (kS : Blk w0 b 133 cs) (hc : SysC cs (.slice A n cap) V)
    (hQ : ∀ (B1 s3 : Nat) (v12 : Value) (w' : World), w0.heap.size ≤ s3 → Blk w' s3 53 (stC v12 (.slice none 0 0) (.slice none 0 0) (.slice A n cap) V.rf.calls V.rf.hits).toArray → w'.ownsRow w0.heap.size 122 3 v12 (vrunsL V 1024).length (fl rnC (vrunsL V 1024)) → Below w0.heap.size w0 w' →
      Q .normal (lpput a0 (.pointer (some ⟨b, 0, none⟩)) (clR B1) v12 (.pointer (some ⟨b, 0, none⟩)) (.pointer (some ⟨b, 0, none⟩)) (.pointer (some ⟨b, 67585, none⟩)) (rfV (.slice A n cap) V.rf.calls V.rf.hits) (.agg (stC v12 (.slice none 0 0) (.slice none 0 0) (.slice A n cap) V.rf.calls V.rf.hits).toArray) (.pointer (some ⟨s3, 0, none⟩))) w') :
    (Code.region 3 saveOps true).wp Tryz.prog Q a0 w0 := by
  conv => arg 2; arg 2; whnf
  have hbl := kS.lt
  refine region_inv (SaveInv a0 w0 b V (.slice A n cap)) (by kernel_rfl) (by simp [edgesDown, Region.binds]) ?ext ?start ?steps ?fin
  case ext =>
    intro D D' a w h hI
    have e : ∀ i, i < 10 → D i = D' i := h
    have : SaveInv a0 w0 b V (.slice A n cap) D a w = SaveInv a0 w0 b V (.slice A n cap) D' a w := by
      unfold SaveInv
      simp only [e 0 (by omega), e 1 (by omega), e 2 (by omega), e 3 (by omega), e 4 (by omega), e 5 (by omega), e 6 (by omega), e 7 (by omega), e 8 (by omega), e 9 (by omega)]
    exact this ▸ hI
  case start =>
    intro D h
    have n : ∀ i, i < 10 → ¬ (D i = true) := fun i hi => by rw [h i hi]; decide
    exact ⟨_, _, _, _, _, _, _, _, _, 0, 0, (lp_self a0 hsz).symm, (Below.refl _ w0).drew, fun h => absurd h (n 0 (by omega)), fun h => absurd h (n 1 (by omega)), fun h => absurd h (n 2 (by omega)), fun h => absurd h (n 3 (by omega)), fun h => absurd h (n 4 (by omega)), fun h => absurd h (n 5 (by omega)), fun h => absurd h (n 6 (by omega)), fun h => absurd h (n 7 (by omega)), fun h => absurd h (n 8 (by omega)), fun h => absurd h (n 9 (by omega)), fun h => absurd h (n 7 (by omega))⟩
  case fin =>
    rintro a w ⟨v10, v11, v12, v13, v14, v15, v16, v17, v3, B1, s3, rfl, hb, h0, h1, h2, h3, h4, h5, h6, h7, h8, _, _⟩
    obtain rfl := h0 rfl
    obtain ⟨rfl, _, _⟩ := h1 rfl
    obtain rfl := h3 rfl
    obtain rfl := h4 rfl
    obtain rfl := h5 rfl
    obtain rfl := h6 rfl
    obtain rfl := h7 rfl
    obtain ⟨rfl, g8, k8⟩ := h8 rfl
    simp only [if_true] at k8
    exact hQ B1 s3 v12 w g8 k8 (h2 rfl) hb
  case steps =>
    refine ⟨?_, ?_, ?_, ?_, ?_, ?_, ?_, ?_, ?_, ?_, trivial⟩
    all_goals (rintro D a w ⟨v10, v11, v12, v13, v14, v15, v16, v17, v3, B1, s3, rfl, hb, h0, h1, h2, h3, h4, h5, h6, h7, h8, h98, h76⟩ hk he)
    all_goals (refine step_plainU rfl ?_)
    · refine wp_valU (v := .pointer (some ⟨b, 0, none⟩)) (w' := w) (by simp only [execOp, lpev_0, hp0]; simp [go_sem]) ?_
      show SaveInv a0 w0 b V (.slice A n cap) _ ((lpput a0 v10 v11 v12 v13 v14 v15 v16 v17 v3).put (some 10) _) _; rw [lp_10]
      refine ⟨_, _, _, _, _, _, _, _, _, B1, s3, rfl, hb, ?_⟩
      simp only [Nat.reduceBEq, Bool.true_or, Bool.false_or, forall_const]
      exact ⟨trivial, h1, h2, h3, h4, h5, h6, h7, h8, h98, h76⟩
    · have e := h0 (he ⟨0, .data⟩ (by simp) rfl)
      have ev' : (lpput a0 v10 v11 v12 v13 v14 v15 v16 v17 v3).tmps[10]?.getD undef = .pointer (some ⟨b, 0, none⟩) := by
        have := (lpev_10 a0 hsz v10 v11 v12 v13 v14 v15 v16 v17 v3).trans e
        simpa [Act.eval] using this
      refine wp_enterV (f := 69) (args := #[.pointer (some ⟨b, 0, none⟩)]) (w1 := w) (C := fun v w' => v = clR w.heap.size ∧ w' = w.alloc (.cells #[.pointer (some ⟨b, 0, none⟩)] 34)) (by simp only [execOp]; simp [go_sem, ev']) ((vruns_any b w).mono fun e w' ⟨h1, h2⟩ => ⟨_, h1, rfl, h2⟩) ?_
      rintro v w' ⟨rfl, rfl⟩
      show SaveInv a0 w0 b V (.slice A n cap) _ ((lpput a0 v10 v11 v12 v13 v14 v15 v16 v17 v3).put (some 11) _) _; rw [lp_11]
      refine ⟨_, _, _, _, _, _, _, _, _, w.heap.size, s3, rfl, hb.alloc hb.size _, ?_⟩
      simp only [Nat.reduceBEq, Nat.reduceAdd, Bool.true_or, Bool.false_or, forall_const]
      have hbA := (Below.refl w.heap.size w).alloc (Nat.le_refl _) (.cells #[.pointer (some ⟨b, 0, none⟩)] 34)
      exact ⟨h0, ⟨trivial, hb.size, Blk.new _ _ _⟩, fun d => ownsRow_call (h2 d) hbA, h3, h4, h5, h6, h7, fun d => ⟨(h8 d).1, (h8 d).2.1, (h8 d).2.2.call hbA⟩, h98, h76⟩
    · obtain ⟨rfl, g1, k1⟩ := h1 (he ⟨1, .data⟩ (by simp) rfl)
      have ev' : (lpput a0 v10 (clR B1) v12 v13 v14 v15 v16 v17 v3).tmps[11]?.getD undef = clR B1 := by
        have := lpev_11 a0 hsz v10 (clR B1) v12 v13 v14 v15 v16 v17 v3
        simpa [Act.eval] using this
      have hd7 : D 7 = false := by cases h : D 7 with | false => rfl | true => rw [(h76 h).1] at hk; cases hk
      have hd9 : D 9 = false := by
        cases h : D 9 with
        | false => rfl
        | true => rw [(h98 h).2] at hd7; cases hd7
      refine wp_enterV (f := 68) (args := #[clR B1]) (w1 := w) (C := fun v w' => w'.ownsRow w.heap.size 122 3 v (vrunsL V 1024).length (fl rnC (vrunsL V 1024)) ∧ Below w.heap.size w w') (by simp only [execOp]; simp [go_sem, ev']) ((collectR_any _ _ (fun k => k = b ∨ k = B1) (vrunsL V 1024) w (Nat.le_trans (vrunsL_len V 1024) (by omega)) (vruns1_seq b B1 V cs _ _ w (.inl rfl) (.inr rfl) k1 (kS.call hb) hc) vruns1_enters (fun k hk => hk.elim (fun h => by rw [h]; exact Nat.lt_of_lt_of_le hbl hb.size) (fun h => by rw [h]; exact k1.lt))).mono fun e w' ⟨v, h1, h2, h3⟩ => ⟨v, h1, h2, h3⟩) ?_
      rintro v w' ⟨hrow, hbA⟩
      show SaveInv a0 w0 b V (.slice A n cap) _ ((lpput a0 v10 (clR B1) v12 v13 v14 v15 v16 v17 v3).put (some 12) _) _; rw [lp_12]
      refine ⟨_, _, _, _, _, _, _, _, _, B1, s3, rfl, hb.trans (hbA.mono hb.size), ?_⟩
      simp only [Nat.reduceBEq, Nat.reduceAdd, Bool.true_or, Bool.false_or, forall_const]
      simp only [hd7, hd9] at h7 h8 ⊢
      exact ⟨h0, fun _ => ⟨trivial, g1, k1.call hbA⟩, ownsRow_base hrow hb.size, h3, h4, h5, h6, fun d => (by cases d), fun d => ⟨(h8 d).1, (h8 d).2.1, (h8 d).2.2.call hbA⟩, fun d => (by cases d), fun d => (by cases d)⟩
    · refine wp_valU (v := .pointer (some ⟨b, 0, none⟩)) (w' := w) (by simp only [execOp, lpev_0, hp0]; simp [go_sem]) ?_
      show SaveInv a0 w0 b V (.slice A n cap) _ ((lpput a0 v10 v11 v12 v13 v14 v15 v16 v17 v3).put (some 13) _) _; rw [lp_13]
      refine ⟨_, _, _, _, _, _, _, _, _, B1, s3, rfl, hb, ?_⟩
      simp only [Nat.reduceBEq, Nat.reduceAdd, Bool.true_or, Bool.false_or, forall_const]
      exact ⟨h0, h1, h2, trivial, h4, h5, h6, h7, h8, h98, h76⟩
    · have e := h3 (he ⟨3, .data⟩ (by simp) rfl)
      refine wp_valU (v := .pointer (some ⟨b, 0, none⟩)) (w' := w) (by simp only [execOp, lpev_13 _ hsz, e]; simp [go_sem]) ?_
      show SaveInv a0 w0 b V (.slice A n cap) _ ((lpput a0 v10 v11 v12 v13 v14 v15 v16 v17 v3).put (some 14) _) _; rw [lp_14]
      refine ⟨_, _, _, _, _, _, _, _, _, B1, s3, rfl, hb, ?_⟩
      simp only [Nat.reduceBEq, Nat.reduceAdd, Bool.true_or, Bool.false_or, forall_const]
      exact ⟨h0, h1, h2, h3, trivial, h5, h6, h7, h8, h98, h76⟩
    · have e := h4 (he ⟨4, .data⟩ (by simp) rfl)
      refine wp_valU (v := .pointer (some ⟨b, 67585, none⟩)) (w' := w) (by simp only [execOp, lpev_14 _ hsz, e]; simp [go_sem]) ?_
      show SaveInv a0 w0 b V (.slice A n cap) _ ((lpput a0 v10 v11 v12 v13 v14 v15 v16 v17 v3).put (some 15) _) _; rw [lp_15]
      refine ⟨_, _, _, _, _, _, _, _, _, B1, s3, rfl, hb, ?_⟩
      simp only [Nat.reduceBEq, Nat.reduceAdd, Bool.true_or, Bool.false_or, forall_const]
      exact ⟨h0, h1, h2, h3, h4, trivial, h6, h7, h8, h98, h76⟩
    · have e := h5 (he ⟨5, .data⟩ (by simp) rfl)
      have kb := kS.call hb
      have hrng : w.rangeAt b 67585 (rfC (.slice A n cap) V.rf.calls V.rf.hits) := fun j v hj => by
        have hj15 : j < 15 := (List.getElem?_eq_some_iff.1 hj).1
        rw [kb.cell, hc.rf j hj15]; exact hj
      have hd7 : D 7 = false := by cases h : D 7 with | false => rfl | true => rw [(h76 h).2] at hk; cases hk
      refine wp_load_mid 51 (.tmp 15) rfl b 67585 ((lpev_15 _ hsz ..).trans e) (rfC (.slice A n cap) V.rf.calls V.rf.hits) _ hrng Tryz.underlying51 rfl infoRf ?_
      show SaveInv a0 w0 b V (.slice A n cap) _ ((lpput a0 v10 v11 v12 v13 v14 v15 v16 v17 v3).put (some 16) _) _; rw [lp_16]
      refine ⟨_, _, _, _, _, _, _, _, _, B1, s3, rfl, hb, ?_⟩
      simp only [Nat.reduceBEq, Nat.reduceAdd, Bool.true_or, Bool.false_or, forall_const]
      simp only [hd7] at h7 ⊢
      exact ⟨h0, h1, h2, h3, h4, h5, rfl, fun d => (by cases d), h8, fun d => (by rw [(h98 d).2] at hd7; cases hd7), fun d => (by cases d)⟩
    · have d2 := he ⟨2, .data⟩ (by simp) rfl
      have d6 := he ⟨6, .data⟩ (by simp) rfl
      obtain rfl := h6 d6
      obtain ⟨A', cap', rfl, _⟩ := own_Rd (h2 d2)
      have ev12 : (lpput a0 v10 v11 (.slice A' (vrunsL V 1024).length cap') v13 v14 v15 (rfV (.slice A n cap) V.rf.calls V.rf.hits) v17 v3).tmps[12]?.getD undef = .slice A' (vrunsL V 1024).length cap' := by
        have := lpev_12 a0 hsz v10 v11 (.slice A' (vrunsL V 1024).length cap') v13 v14 v15 (rfV (.slice A n cap) V.rf.calls V.rf.hits) v17 v3
        simpa [Act.eval] using this
      have ev16 : (lpput a0 v10 v11 (.slice A' (vrunsL V 1024).length cap') v13 v14 v15 (rfV (.slice A n cap) V.rf.calls V.rf.hits) v17 v3).tmps[16]?.getD undef = rfV (.slice A n cap) V.rf.calls V.rf.hits := by
        have := lpev_16 a0 hsz v10 v11 (.slice A' (vrunsL V 1024).length cap') v13 v14 v15 (rfV (.slice A n cap) V.rf.calls V.rf.hits) v17 v3
        simpa [Act.eval] using this
      refine wp_valU (v := .agg (stC (.slice A' (vrunsL V 1024).length cap') (.slice none 0 0) (.slice none 0 0) (.slice A n cap) V.rf.calls V.rf.hits).toArray) (w' := w) (by
        generalize lpput a0 v10 v11 (.slice A' (vrunsL V 1024).length cap') v13 v14 v15 (rfV (.slice A n cap) V.rf.calls V.rf.hits) v17 v3 = aa at *
        generalize (vrunsL V 1024).length = N at *
        unfold rfV rfC at ev16
        unfold stC rfC
        simp only [execOp]
        simp [go_sem, ev12, ev16]) ?_
      show SaveInv a0 w0 b V (.slice A n cap) _ ((lpput a0 v10 v11 (.slice A' (vrunsL V 1024).length cap') v13 v14 v15 (rfV (.slice A n cap) V.rf.calls V.rf.hits) v17 v3).put (some 17) _) _; rw [lp_17]
      refine ⟨_, _, _, _, _, _, _, _, _, B1, s3, rfl, hb, ?_⟩
      simp only [Nat.reduceBEq, Nat.reduceAdd, Bool.true_or, Bool.false_or, forall_const]
      exact ⟨h0, h1, h2, h3, h4, h5, fun _ => trivial, trivial, h8, fun d => ⟨(h98 d).1, trivial⟩, d2, d6⟩
    · have hd9 : D 9 = false := by cases h : D 9 with | false => rfl | true => rw [(h98 h).1] at hk; cases hk
      have hbA := (Below.refl w.heap.size w).alloc (Nat.le_refl _) (.cells (stC (.slice none 0 0) (.slice none 0 0) (.slice none 0 0) (.slice none 0 0) (fun _ => 0) (fun _ => 0)).toArray 53)
      refine wp_valU (v := .pointer (some ⟨w.heap.size, 0, none⟩)) (w' := w.alloc (.cells (stC (.slice none 0 0) (.slice none 0 0) (.slice none 0 0) (.slice none 0 0) (fun _ => 0) (fun _ => 0)).toArray 53)) (by unfold stC rfC; simp [execOp, go_sem]) ?_
      show SaveInv a0 w0 b V (.slice A n cap) _ ((lpput a0 v10 v11 v12 v13 v14 v15 v16 v17 v3).put (some 3) _) _; rw [lp_3]
      refine ⟨_, _, _, _, _, _, _, _, _, B1, w.heap.size, rfl, hb.alloc hb.size _, ?_⟩
      simp only [Nat.reduceBEq, Nat.reduceAdd, Bool.true_or, Bool.false_or, forall_const]
      simp only [hd9]
      exact ⟨h0, fun d => ⟨(h1 d).1, (h1 d).2.1, (h1 d).2.2.call hbA⟩, fun d => ownsRow_call (h2 d) hbA, h3, h4, h5, h6, h7, ⟨trivial, hb.size, Blk.new _ _ _⟩, fun d => (by cases d), h76⟩
    · have d8 := he ⟨8, .data⟩ (by simp) rfl
      have d7 := he ⟨7, .data⟩ (by simp) rfl
      obtain ⟨d2, d6⟩ := h76 d7
      obtain ⟨rfl, g8, k8⟩ := h8 d8
      obtain rfl := h7 d7
      have hrow := h2 d2
      obtain ⟨A', cap', rfl, _⟩ := own_Rd hrow
      have k8' : Blk w s3 53 (stC (.slice none 0 0) (.slice none 0 0) (.slice none 0 0) (.slice none 0 0) (fun _ => 0) (fun _ => 0)).toArray := by rw [hk] at k8; exact k8
      have hF := Far.puts (T := fun k => k = s3) rfl (stC (.slice A' (vrunsL V 1024).length cap') (.slice none 0 0) (.slice none 0 0) (.slice A n cap) V.rf.calls V.rf.hits) 0 w w (Far.refl _ _)
      have kP := Blk.puts (g := s3) (t := 53) (w := w) (cs := #[]) (stC (.slice A' (vrunsL V 1024).length cap') (.slice none 0 0) (.slice none 0 0) (.slice A n cap) V.rf.calls V.rf.hits) 0 w _ k8'
      rw [putA_all (by rfl)] at kP
      have hs18 : (stC (.slice A' (vrunsL V 1024).length cap') (.slice none 0 0) (.slice none 0 0) (.slice A n cap) V.rf.calls V.rf.hits).toArray.size = 18 := by rw [List.size_toArray]; rfl
      have ht : w.there s3 0 (stC (.slice A' (vrunsL V 1024).length cap') (.slice none 0 0) (.slice none 0 0) (.slice A n cap) V.rf.calls V.rf.hits).toArray.size := by rw [hs18]; exact z_there k8' 0 18 (by rw [List.size_toArray]; exact Nat.le_refl _)
      have hinf : (Tryz.prog.info? 53).map (·.size) = some (stC (.slice A' (vrunsL V 1024).length cap') (.slice none 0 0) (.slice none 0 0) (.slice A n cap) V.rf.calls V.rf.hits).toArray.size := by rw [hs18]; exact infoSt
      refine wp_storeU 53 (.tmp 3) (.tmp 17) rfl rfl s3 0 (stC (.slice A' (vrunsL V 1024).length cap') (.slice none 0 0) (.slice none 0 0) (.slice A n cap) V.rf.calls V.rf.hits).toArray (lpev_3 _ hsz ..) (lpev_17 _ hsz ..) ht hinf (Go.all_oneCell_toArray (stC_one rfl rfl rfl rfl _ _)) ?_
      refine ⟨_, _, _, _, _, _, _, _, _, B1, s3, rfl, hb.trans (hF.below hb.size (fun k hk e => by omega)), ?_⟩
      simp only [Nat.reduceBEq, Nat.reduceAdd, Bool.true_or, Bool.false_or, forall_const, if_true]
      exact ⟨h0, fun d => ⟨(h1 d).1, (h1 d).2.1, hF.blk (h1 d).2.2 (Blk.ne_ (h1 d).2.2 k8' (by decide))⟩, fun _ => ownsRow_far hrow hF (fun g hg h => own_other hrow (hg.trans (congrArg some h)) k8' (by decide)), h3, h4, h5, h6, fun _ => trivial, fun _ => ⟨trivial, g8, kP⟩, ⟨d8, d7⟩, h76⟩
end Go.Proofs.YtpabnbhbcphfiaaGreat
namespace Go.Proofs.YtpabnbhbcphfiaaGreat
open Go Go.Proofs Go.RowKit Go.Pol Go.Shelf
attribute [local go_sem] Oper.semAt_some Go.Pol.wide_fn Go.Pol.wide_depth Go.Pol.wide_fn' Go.Pol.wide_depth'

def arrI (k : IntKind) (n : Nat) (f : Nat → Int) : Array Value := ((List.range n).map fun i => .int k (f i)).toArray
theorem arrI_at {k : IntKind} {n : Nat} {f : Nat → Int} {i : Nat} (h : i < n) : (arrI k n f)[i]? = some (.int k (f i)) := by
  unfold arrI
  rw [List.getElem?_toArray, List.getElem?_map, List.getElem?_range h]; rfl
theorem eqItems_u8 (f g : Nat → Int) (w : World) : ∀ is : List Nat, (∀ i ∈ is, i < 64) → (Op.eqItems 9999 5 1 (arrI .u8 64 f) (arrI .u8 64 g) is).run Tryz.prog w = .ok (is.all fun i => f i == g i) w
  | [], _ => by simp [Op.eqItems]
  | i :: is, h => by
    have ih := eqItems_u8 f g w is (fun j hj => h j (by simp [hj]))
    have h1 := arrI_at (k := .u8) (f := f) (h i (by simp))
    have h2 := arrI_at (k := .u8) (f := g) (h i (by simp))
    have a3 := Tryz.isAgg5
    have he := run_equalIn_int (P := Tryz.prog) w 9998 5 .u8 _ (f i) (g i) Tryz.underlying5
    generalize arrI .u8 64 f = X at *
    generalize arrI .u8 64 g = Y at *
    have p1 : (part 5 X (i * 1)).run Tryz.prog w = .ok (.int .u8 (f i)) w := by simp [part, a3, h1]
    have p2 : (part 5 Y (i * 1)).run Tryz.prog w = .ok (.int .u8 (g i)) w := by simp [part, a3, h2]
    simp only [Op.eqItems, Sem.run_bind, p1, p2, he, Result.andThen_ok, List.all_cons]
    cases f i == g i with
    | false => simp
    | true => simp only [Bool.not_true, Bool.false_eq_true, if_false, Bool.true_and]; exact ih
theorem eq64_any (f g : Nat → Int) (w : World) : (Op.equalIn 10000 85 (.agg (arrI .u8 64 f)) (.agg (arrI .u8 64 g))).run Tryz.prog w = .ok ((List.range 64).all fun i => f i == g i) w := by
  obtain ⟨i0, hi⟩ := info_of_underlying (P := Tryz.prog) Tryz.underlying5
  rw [run_equalIn_array w 9999 _ _ Tryz.underlying85 hi]
  have hc : Tryz.prog.cellsOf 5 = 1 := by kernel_rfl
  rw [hc]
  exact eqItems_u8 f g w _ (fun i hi => List.mem_range.1 hi)
end Go.Proofs.YtpabnbhbcphfiaaGreat
namespace Go.Pol
open Go Go.RowKit
def daA (p : Int) (f : Nat → Int) : Array Value := (Value.int .i64 p :: (List.range 64).map fun i => Value.int .u8 (f i)).toArray
/-- a saved state in memory: runs, huge groups, pages with bytes, refusals -/
structure VsIs (w : World) (S : Value) (V : Vm) : Prop where
  ex : ∃ (A1 A2 A3 A4 : Option Addr) (n1 c1 n2 c2 n3 c3 n4 c4 : Nat), S = .agg (stC (.slice A1 n1 c1) (.slice A2 n2 c2) (.slice A3 n3 c3) (.slice A4 n4 c4) V.rf.calls V.rf.hits).toArray ∧
    (vrunsL V 1024).length = n1 ∧ Rd w w.heap.size A1 (fl rnC (vrunsL V 1024)) ∧ (hugL V 1024).length = n2 ∧ RI w w.heap.size A2 (hugL V 1024) ∧ (datL V 1024).length = n3 ∧ Rd w w.heap.size A3 (fl (daC V) (datL V 1024)) ∧
    V.rf.rules.length = n4 ∧ Rd w w.heap.size A4 (fl ruC V.rf.rules)
theorem VsIs.on {w w' : World} {S : Value} {V : Vm} (h : VsIs w S V) (hb : Below w.heap.size w w') : VsIs w' S V := by
  obtain ⟨A1, A2, A3, A4, n1, c1, n2, c2, n3, c3, n4, c4, h0, h1, h2, h3, h4, h5, h6, h7, h8⟩ := h.ex
  exact ⟨A1, A2, A3, A4, n1, c1, n2, c2, n3, c3, n4, c4, h0, h1, h2.on_ hb, h3, RI.more (RI.below h4 hb) hb.size, h5, h6.on_ hb, h7, h8.on_ hb⟩
theorem Rd.farN {w w' : World} {N : Nat} {A : Option Addr} {xs : List Value} {T : Nat → Prop} (h : Rd w N A xs) (hF : Far T w w') (hT : ∀ k, k < N → (∃ o, A = some ⟨k, o, none⟩) → ¬ T k) : Rd w' N A xs := fun k hk => by
  obtain ⟨b, o, e, hb, hc⟩ := h k hk
  exact ⟨b, o, e, hb, hF.cell hc (hT b hb ⟨o, e⟩)⟩
def SaveO (V : Vm) (w : World) (e : Ending) (w' : World) : Prop := ∃ S, e = .returned S ∧ VsIs w' S V ∧ Below w.heap.size w w'
theorem nzB_all (g : Pg) : (List.range 64).all (fun i => g.byt i == 0) = !nzB g := by
  unfold nzB
  rw [Bool.eq_iff_iff]
  simp
theorem daC_eq (V : Vm) (p : Nat) : daC V p = (daA p (V.pg p).byt).toList := rfl
end Go.Pol
namespace Go.Proofs.YtpabnbhbcphfiaaGreat
open Go Go.Proofs Go.RowKit Go.Pol Go.Shelf
attribute [local go_sem] Oper.semAt_some Go.Pol.wide_fn Go.Pol.wide_depth Go.Pol.wide_fn' Go.Pol.wide_depth'

theorem z_results_cell1 {P : Program} {fn : Func} {a : Tmp} {t : TypeId} {tmps : Array Value} {w : World} {v : Value} {p : Addr} (h : fn.results = #[.cell a t]) (ha : tmps.getD a undef = .pointer (some p)) (hl : (loadVar t p).run P w = .ok v w) :
    (results fn tmps).run P w = .ok v w := by
  have ha' : tmps[a]?.getD undef = .pointer (some p) := by rw [← ha, Array.getD_eq_getD_getElem?]
  simp [results, h, ha', asAddr, hl]
theorem wpList_buildU {P : Program} {ops : Array Oper} {rest : List Oper} {op : Oper} {a : Act} {w : World} {Q : Exit → Act → World → Prop} (hgd : op.guard = none) (d : Nat) (hd : op.dst = some d) (t : TypeId) (parts : List (Nat × Operand)) (ho : op.op = .build t parts.toArray)
    (vals : List (Nat × Value)) (hv : parts.map (fun x => (x.1, a.eval x.2)) = vals) (cells : Array Value) (hb : P.built t vals = some cells) (h : wpList P ops Q rest (a.put (some d) (.agg cells)) w) : wpList P ops Q (op :: rest) a w :=
  wpList_plain hgd fun K hK => by
    have hb' : P.built t (parts.toArray.map fun (i, x) => (i, a.eval x)).toList = some cells := by
      rw [← hb, ← hv]; simp
    unfold Oper.wp execOp
    simp only [ho, Sem.run_bind, run_build w t _ cells hb', Result.andThen_ok]
    show K (a.put op.dst _) w
    rw [hd]
    exact hK _ _ h
theorem wpList_buildSliceU {P : Program} {ops : Array Oper} {rest : List Oper} {o : Oper} {a : Act} {w : World} {Q : Exit → Act → World → Prop} (hg : o.guard = none) (d : Nat) (hd : o.dst = some d) (t e : TypeId) (len : Nat) (parts : List (Nat × Operand)) (ho : o.op = .buildSlice t len parts.toArray)
    (vals : List (Nat × Value)) (hv : parts.map (fun x => (x.1, a.eval x.2)) = vals) (cells : Array Value) (ie : TypeInfo) (z : Value)
    (hu : P.underlying t = some (.slice e)) (hie : P.info? e = some ie) (hz : ie.zero = some z) (hsmall : ¬ len * ie.size > 2 ^ 24) (hpos : ¬ len * ie.size = 0)
    (hf : Instr.fill (fun i => some (i * ie.size, ie.size)) ((Array.range (len * ie.size)).map (z.cells[· % z.cells.size]!)) vals = some cells)
    (h : wpList P ops Q rest (a.put (some d) (.slice (some ⟨w.heap.size, 0, none⟩) len len)) (w.alloc (.cells cells e))) : wpList P ops Q (o :: rest) a w :=
  wpList_buildSlice hg t e len parts.toArray ho cells ie z hu hie hz hsmall hpos (by rw [← hf, ← hv]; simp) (by rw [hd]; exact h)
theorem infoInQ : (Tryz.prog.info? 3).map (fun i => (i.zero, i.size, i.bytes)) = some (some (.int .i64 0), 1, 8) := by kernel_rfl
theorem infoDa : (Tryz.prog.info? 124).map (fun i => (i.zero, i.size, i.bytes)) = some (some (.agg (daA 0 (fun _ => 0))), 65, 72) := by kernel_rfl
theorem built_da (p : Int) (f : Nat → Int) : Tryz.prog.built 124 [(0, .int .i64 p), (1, .agg (arrI .u8 64 f))] = some (daA p f) := by kernel_rfl
theorem fill_da (p : Int) (f : Nat → Int) : Instr.fill (fun i => some (i * 65, 65)) ((Array.range (1 * 65)).map ((Value.agg (daA 0 (fun _ => 0))).cells[· % (Value.agg (daA 0 (fun _ => 0))).cells.size]!)) [(0, .agg (daA p f))] = some (daA p f) := by kernel_rfl
set_option maxRecDepth 100000 in
set_option maxHeartbeats 3200000 in
theorem save_any (b : Nat) (V : Vm) (w : World) (hV : SysIs w b V) :
    Calls Tryz.prog 16 #[.pointer (some ⟨b, 0, none⟩)] w (SaveO V w) := by
  have hV' := Lib.hid hV
  have hb0 := (Below.refl w.heap.size w).alloc (Nat.le_refl _) (.cells (stC (.slice none 0 0) (.slice none 0 0) (.slice none 0 0) (.slice none 0 0) (fun _ => 0) (fun _ => 0)).toArray 53)
  have k2 := Blk.new w 53 (stC (.slice none 0 0) (.slice none 0 0) (.slice none 0 0) (.slice none 0 0) (fun _ => 0) (fun _ => 0)).toArray
  have V0 := hV.call hb0
  have hbs := hV.lt
  have HI := Lib.hid (fun W h => is_any b V W h)
  obtain ⟨s, hs⟩ : ∃ s, w.heap.size = s := ⟨_, rfl⟩
  have hsz0 : (w.alloc (.cells (stC (.slice none 0 0) (.slice none 0 0) (.slice none 0 0) (.slice none 0 0) (fun _ => 0) (fun _ => 0)).toArray 53)).heap.size = s + 1 := by rw [World.size_alloc, hs]
  rw [hs] at k2
  unfold stC rfC at hb0 k2 V0 hsz0
  clear hV
  go_enter Tryz.func16, Tryz.ntmps16
  go_upto_region 1 with fail
  generalize w.alloc _ = w0 at *
  try simp only [hs]
  go_wp2_with fail
  refine (HI.out _ V0).mono ?_
  rintro e9 w9 ⟨rfl, hw9⟩
  replace hw9 := hw9.symm
  subst hw9
  obtain ⟨cs, A, n, cap, kb, hc, hn, hr, hz, _⟩ := V0.ex
  have hok := V0.ok
  go_upto_region 3 with fail
  refine save_first _ _ b cs V A n cap (Nat.le_of_ble_eq_true rfl) rfl kb hc ?_
  intro B1 s3 v12 w1 hs3 k3 hrow1 hb1
  simp only [lpput, Act.put, List.setIfInBounds_toArray, List.set_cons_succ, List.set_cons_zero]
  obtain ⟨A1, cap1, rfl, r1, _, _, hA1, _⟩ := own_Rd hrow1
  have hA13 : ∀ o, A1 ≠ some ⟨s3, o, none⟩ := fun o e => by
    subst e
    exact own_other hrow1 rfl k3 (by decide)
  obtain ⟨N1, hN1⟩ : ∃ N1, (vrunsL V 1024).length = N1 := ⟨_, rfl⟩
  rw [hN1] at k3 hrow1
  try simp only [hN1]
  have kb1 := kb.call hb1
  have c67 : w1.cell? ⟨b, 67585, none⟩ = some (.slice A n cap) := by rw [kb1.cell]; exact (hc.rf 0 (by omega)).trans rfl
  have hr1 := hr.on_ hb1
  have hlen50 := (chkR_zero.1 hok.plan).1
  have hb1' := Lib.hid hb1
  have k2' := Lib.hid (k2.call hb1)
  have h01 : s + 1 ≤ w0.heap.size := Nat.le_of_eq hsz0.symm
  have B1 : Below s w w1 := by rw [← hs]; exact hb0.trans (hb1.mono (by rw [hs]; omega))
  have HCl := Lib.hid (cloneR_any A n cap V.rf.rules w1 hn (by omega) hz hr1)
  have f3 := k3.frozen
  have c3 := k3.cell
  have hc' := Lib.hid hc
  have hN1' := Lib.hid hN1
  have r1' := Lib.hid r1
  have hAs := Lib.hid hA1
  have k3' := Lib.hid k3
  clear hb1 k2 kb hr hz hok hrow1 V0 HI hn hb0 hc hN1 r1 hA1 hr1 hlen50 k3 c3 f3
  unfold rfV stC rfC
  go_wp2_with fail
  refine HCl.out.mono ?_
  rintro e w2 ⟨v4, rfl, hv4⟩
  obtain ⟨A4, c4, rfl, q1, _, _, q4, q5, hb2⟩ := hv4
  have k32 := k3'.out.call hb2
  have k22 := k2'.out.call hb2
  have kb2 := kb1.call hb2
  have r12 := Lib.hid (r1'.out.below hb2)
  have B2 := B1.trans (hb2.mono (by have := B1.size; omega))
  have c3 := k32.cell
  have f3 := k32.frozen
  have c33 : w2.cell? ⟨s3, 3, none⟩ = some (.slice A n cap) := (k32.cell 3).trans rfl
  have k33 := k32.set_ 3 (.slice A4 V.rf.rules.length c4)
  have F3 : Far (fun k => k = s3) w2 (w2.setCell ⟨s3, 3, none⟩ (.slice A4 V.rf.rules.length c4)) := Far.setCell (T := fun k => k = s3) (p := ⟨s3, 3, none⟩) (Far.refl _ w2) (fun _ => rfl) _
  have hsb1 := kb1.lt
  have hls3 := k3'.out.lt
  clear HCl c67 kb1 c3 k2'
  go_upto_region 5 with fail
  generalize w2.setCell ⟨s3, 3, none⟩ _ = w3 at *
  have k34 : Blk w3 s3 53 (stC (.slice A1 N1 cap1) (.slice none 0 0) (.slice none 0 0) (.slice A4 V.rf.rules.length c4) V.rf.calls V.rf.hits).toArray := k33
  have q13 : Rd w3 w2.heap.size A4 (fl ruC V.rf.rules) := q1.far_ F3 (fun g o e => by have := q4 g o e; show ¬ g = s3; omega)
  have r13 : Rd w3 w1.heap.size A1 (fl rnC (vrunsL V 1024)) := r12.out.farN F3 (fun k _ ⟨o, e⟩ h => hA13 o (h ▸ e))
  have kb3 := F3.blk kb2 (by show ¬ b = s3; omega)
  have k23 := F3.blk k22 (by show ¬ s = s3; omega)
  have B3 := B2.trans (F3.below (by have := B2.size; omega) (fun k hk e => by omega))
  have hsz3 : w2.heap.size ≤ w3.heap.size := F3.size
  have hsz2 := hb2.size
  have q13' := Lib.hid q13
  have r13' := Lib.hid r13
  clear F3 k32 k22 kb2 r12 B2 c33 k33 q13 r13 q1 f3 hb2 k3' r1' B1
  generalize hN4 : V.rf.rules.length = N4 at *
  have hN4' := Lib.hid hN4
  clear hN4
  obtain ⟨i0, hi, hz0, hz1, hz2⟩ := info_parts infoInQ
  obtain ⟨iD, hiD, hzD0, hzD1, hzD2⟩ := info_parts infoDa
  obtain ⟨NB, hNB⟩ : ∃ NB, w3.heap.size = NB := ⟨_, rfl⟩
  go_wp2_with fail
  go_loopw [28] (fun u wr => ∃ (k : Nat) (v2 v3 : Value), k ≤ 1024 ∧ u = .int .i64 k ∧ Blk wr s3 53 (stC (.slice A1 N1 cap1) v2 v3 (.slice A4 N4 c4) V.rf.calls V.rf.hits).toArray ∧
    wr.ownsRow NB 3 1 v2 (hugL V k).length ((hugL V k).map (Value.int .i64)) ∧ wr.ownsRow NB 124 65 v3 (datL V k).length (fl (daC V) (datL V k)) ∧ Far (fun k => k = s3 ∨ NB ≤ k) w3 wr) (fun u _ => 1024 - (intOf u).toNat)
  case atStart => exact ⟨0, _, _, by omega, rfl, k34, World.ownsRow_nil _ _ _ _, World.ownsRow_nil _ _ _ _, Far.refl _ _⟩
  case round =>
    clear k34
    obtain ⟨k, v2, v3, hk, rfl, k3, ro2, ro3, hF⟩ := hrel
    by_cases hlt : k < 1024
    · have hlt' : decide ((k : Int) < 1024) = true := by rw [decide_eq_true_eq]; omega
      have hkl : (k : Int) < 1024 := by omega
      have kbr := hF.blk kb3 (by show ¬ (b = s3 ∨ NB ≤ b); omega)
      have HFi := Lib.hid (vfirst_any (k : Int) wr)
      have hfk : fstB (k : Int) = decide (k % 16 = 0) := by
        unfold fstB
        rw [Bool.eq_iff_iff]
        simp
        omega
      rw [hfk] at HFi
      have hstH : Hid (hugL V (k + 1) = if k % 16 = 0 ∧ (V.pg k).huge = true then hugL V k ++ [(k : Int)] else hugL V k) := Lib.hid rfl
      have hstD : Hid (datL V (k + 1) = if nzB (V.pg k) = true then datL V k ++ [k] else datL V k) := Lib.hid rfl
      have hcH := (kbr.cell (1 + k * 66 + 1)).trans (hc'.out.hug hlt)
      have hlH := hugL_len V k
      have hlD := datL_len V k
      clear hfk
      by_cases hm : k % 16 = 0
      · rw [decide_eq_true hm] at HFi
        cases hh : (V.pg k).huge with
        | true =>
          rw [hh] at hcH
          have hst2 : Hid (hugL V (k + 1) = hugL V k ++ [(k : Int)]) := Lib.hid (by rw [hstH.out, if_pos ⟨hm, hh⟩])
          clear hstH hm hh
          obtain ⟨ll, hll⟩ : ∃ ll, (hugL V k).length = ll := ⟨_, rfl⟩
          rw [hll] at ro2 hlH
          obtain ⟨A2, cap2, rfl, _⟩ := own_Rd ro2
          have kN := Blk.new wr 3 #[.int .i64 (k : Int)]
          have hbN : Below wr.heap.size wr (wr.alloc (.cells #[.int .i64 (k : Int)] 3)) := (Below.refl _ _).alloc (Nat.le_refl _) _
          have hsF := hF.size
          have c3 := k3.cell
          unfold stC rfC at c3
          go_wp2_with fail
          refine HFi.out.mono ?_
          rintro e8 w8 ⟨rfl, hw8⟩
          replace hw8 := hw8.symm
          subst hw8
          go_upto_region 10 with (refine wpList_append_own _ rfl (.tmp 43) (.tmp 45) 47 rfl NB 3 i0 (.int .i64 0) 1 8 Tryz.underlying47 hi hz0 hz1 hz2 rfl (by decide) _ ll ((hugL V k).map (Value.int .i64)) rfl (ro2.alloc _) ⟨wr.heap.size, 0, none⟩ 1 1 [.int .i64 (k : Int)] rfl rfl (news_i kN) ints_one (by unfold maxLen; omega) (by omega) (by simp; omega) ?_; intro v' w7 hown' hgrow _; rw [show (hugL V k).map (Value.int .i64) ++ [Value.int .i64 (k : Int)] = (hugL V k ++ [(k : Int)]).map (Value.int .i64) by simp] at hown'; have F7 : Far (fun g => (Value.slice A2 ll cap2).ownBlock = some g) wr w7 := (Far.of_below hbN).grown hgrow (fun g hg _ => hg); have k37 := F7.blk k3 (fun h => own_other ro2 h k3 (by decide)); have f37 := k37.frozen; have c371 : w7.cell? ⟨s3, 1, none⟩ = some (.slice A2 ll cap2) := (k37.cell 1).trans rfl; obtain ⟨A2n, cap2n, rfl, _⟩ := own_Rd hown'; clear c3)
          have F8 : Far (fun k => k = s3) w7 (w7.setCell ⟨s3, 1, none⟩ (.slice A2n (ll + 1) cap2n)) := Far.setCell (T := fun k => k = s3) (p := ⟨s3, 1, none⟩) (Far.refl _ w7) (fun _ => rfl) _
          have k38 : Blk (w7.setCell ⟨s3, 1, none⟩ (.slice A2n (ll + 1) cap2n)) s3 53 (stC (.slice A1 N1 cap1) (.slice A2n (ll + 1) cap2n) v3 (.slice A4 N4 c4) V.rf.calls V.rf.hits).toArray := k37.set_ 1 _
          have ro28 : (w7.setCell ⟨s3, 1, none⟩ (.slice A2n (ll + 1) cap2n)).ownsRow NB 3 1 (.slice A2n (ll + 1) cap2n) (hugL V (k + 1)).length ((hugL V (k + 1)).map (Value.int .i64)) := by
            rw [hst2.out, List.length_append, List.length_singleton, hll]
            exact ownsRow_far hown' F8 (fun g hg h => own_other hown' (hg.trans (congrArg some h)) k37 (by decide))
          have ro38 := ownsRow_far (ownsRow_far ro3 F7 (fun g hg h => by
            rcases ro2.2 with ⟨hx, _⟩ | ⟨g', cap', cur, hx, _, hkx, _⟩
            · rw [hx] at h; cases h
            · rw [hx] at h
              have e' : g' = g := by injection h
              subst e'
              exact own_other ro3 hg (show Blk wr g' 3 cur from hkx) (by decide))) F8 (fun g hg h => by
            have := (ro3.lt g hg).1
            omega)
          have F38 : Far (fun k => k = s3 ∨ NB ≤ k) w3 (w7.setCell ⟨s3, 1, none⟩ (.slice A2n (ll + 1) cap2n)) := (hF.trans' F7 (fun i hi h => .inr (ro2.lt i h).1)).trans' F8 (fun i hi h => .inl h)
          have kb8 := F8.blk (F7.blk kbr (fun h => by have := (ro2.lt b h).1; omega)) (by show ¬ b = s3; omega)
          clear F7 F8 k37 f37 c371 hown' hgrow ro2 ro3 hF k3 kbr kN hbN hcH hlH hsF HFi
          generalize w7.setCell ⟨s3, 1, none⟩ _ = w8 at *
          generalize (.slice A2n (ll + 1) cap2n : Value) = v2n at *
          obtain ⟨X, hX⟩ : ∃ X, arrI .u8 64 (V.pg k).byt = X := ⟨_, rfl⟩
          have hXs : X.size = 64 := by rw [← hX]; simp [arrI]
          have hra : w8.rangeAt b (1 + k * 66 + 2) X.toList := fun j v hj => by
            rw [← hX] at hj
            have hj64 : j < 64 := by have := (List.getElem?_eq_some_iff.1 hj).1; simpa [arrI] using this
            rw [kb8.cell, show 1 + k * 66 + 2 + j = 1 + k * 66 + (j + 2) by omega, hc'.out.byte hlt hj64, ← hj, Array.getElem?_toList, arrI_at hj64]
          have hinf : (Tryz.prog.info? 85).map (·.size) = some X.size := by rw [hXs]; exact infoKinds
          have hinfl : (Tryz.prog.info? 85).map (·.size) = some X.toList.length := by rw [Array.length_toList]; exact hinf
          have hone : X.all (·.oneCell') = true := by
            rw [← hX]; unfold arrI
            exact Go.all_oneCell_toArray (fun x hx => by simp only [List.mem_map] at hx; obtain ⟨i, _, rfl⟩ := hx; rfl)
          have ht : ∀ Z : Array Value, Z.size = 64 → (w8.alloc (.cells Z 85)).there w8.heap.size 0 X.size := fun Z hZ => z_there (Blk.new w8 _ Z) 0 X.size (by omega)
          have hw9 : ∀ (Z : Array Value) w9, (w8.alloc (.cells Z 85)).setCells w8.heap.size 0 X.toList = w9 → Z.size = 64 → Blk w9 w8.heap.size 85 X ∧ Below w8.heap.size w8 w9 := fun Z w9 h hZ => by
            have kP := Blk.puts (g := w8.heap.size) (t := 85) (w := w8) (cs := #[]) X.toList 0 _ _ (Blk.new w8 85 Z)
            rw [putA_all (by rw [Array.length_toList]; omega)] at kP
            have hF := Far.puts (T := fun k => k = w8.heap.size) rfl X.toList 0 w8 _ ((Far.refl _ w8).alloc (.cells Z 85))
            rw [h] at kP hF
            exact ⟨kP, hF.below (Nat.le_refl _) (fun k hk e => by omega)⟩
          have heq : ∀ W, (Op.equalIn 10000 85 (.agg X) (.agg #[.int .u8 0, .int .u8 0, .int .u8 0, .int .u8 0, .int .u8 0, .int .u8 0, .int .u8 0, .int .u8 0, .int .u8 0, .int .u8 0, .int .u8 0, .int .u8 0, .int .u8 0, .int .u8 0, .int .u8 0, .int .u8 0, .int .u8 0, .int .u8 0, .int .u8 0, .int .u8 0, .int .u8 0, .int .u8 0, .int .u8 0, .int .u8 0, .int .u8 0, .int .u8 0, .int .u8 0, .int .u8 0, .int .u8 0, .int .u8 0, .int .u8 0, .int .u8 0, .int .u8 0, .int .u8 0, .int .u8 0, .int .u8 0, .int .u8 0, .int .u8 0, .int .u8 0, .int .u8 0, .int .u8 0, .int .u8 0, .int .u8 0, .int .u8 0, .int .u8 0, .int .u8 0, .int .u8 0, .int .u8 0, .int .u8 0, .int .u8 0, .int .u8 0, .int .u8 0, .int .u8 0, .int .u8 0, .int .u8 0, .int .u8 0, .int .u8 0, .int .u8 0, .int .u8 0, .int .u8 0, .int .u8 0, .int .u8 0, .int .u8 0, .int .u8 0])).run Tryz.prog W = .ok (!nzB (V.pg k)) W := fun W => by
            have h := eq64_any (V.pg k).byt (fun _ => 0) W
            rw [hX, nzB_all] at h
            exact h
          have hX' := Lib.hid hX
          have hXs' := Lib.hid hXs
          clear hX hXs
          go_upto_region 11 with (first
            | (refine wpList_load_mid rfl 85 (.tmp 53) rfl b (1 + k * 66 + 2) rfl X.toList _ hra Tryz.underlying85 rfl hinfl ?_; rw [Array.toArray_toList])
            | (refine wpList_store_mid rfl 85 (.tmp 5) (.tmp 54) rfl w8.heap.size 0 X rfl rfl (ht _ rfl) hinf hone ?_))
          generalize hW9 : World.setCells _ w8.heap.size 0 X.toList = w9
          obtain ⟨k9, hb9⟩ := hw9 _ _ hW9 rfl
          clear hW9 hw9 ht hra
          have hra9 : w9.rangeAt w8.heap.size 0 X.toList := fun j v hj => by rw [Nat.zero_add, k9.cell]; simpa using hj
          cases hnz : nzB (V.pg k) with
          | false =>
            rw [hnz] at heq
            go_wp2_with (refine wpList_load_mid rfl 85 (.tmp 5) rfl w8.heap.size 0 rfl X.toList _ hra9 Tryz.underlying85 rfl hinfl ?_; rw [Array.toArray_toList])
            go_roundw
            case rel =>
              have hstD2 : datL V (k + 1) = datL V k := by rw [hstD.out, if_neg (by rw [hnz]; decide)]
              exact ⟨k + 1, v2n, v3, by omega, by go_num, k38.call hb9, ownsRow_call ro28 hb9, by rw [hstD2]; exact ownsRow_call ro38 hb9, F38.trans (.of_below hb9)⟩
            case measure => simp [intOf]; omega
          | true =>
            rw [hnz] at heq
            go_upto_region 12 with (refine wpList_load_mid rfl 85 (.tmp 5) rfl w8.heap.size 0 rfl X.toList _ hra9 Tryz.underlying85 rfl hinfl ?_; rw [Array.toArray_toList])
            obtain ⟨D, hD⟩ : ∃ D, daA (k : Int) (V.pg k).byt = D := ⟨_, rfl⟩
            have hbt : Tryz.prog.built 124 [(0, .int .i64 (k : Int)), (1, .agg X)] = some D := by rw [← hD, ← hX'.out]; exact built_da _ _
            have hb171 : ∀ W, (Instr.build 124 #[(0, .int .i64 (k : Int)), (1, .agg X)]).run Tryz.prog W = .ok (.agg D) W := fun W => run_build W _ _ _ hbt
            have hbs := fill_da (k : Int) (V.pg k).byt
            rw [hD] at hbs
            have hDs : D.toList.length = 65 := by rw [← hD]; simp [daA]
            have hDo : ∀ u ∈ D.toList, u.oneCell' = true := by
              intro u hu
              rw [← hD, ← daC_eq] at hu
              exact daC_one V [k] u (by simpa [fl] using hu)
            have hDl : fl (daC V) [k] = D.toList := by rw [← hD, ← daC_eq]; simp [fl]
            have hstD2 : Hid (datL V (k + 1) = datL V k ++ [k]) := Lib.hid (by rw [hstD.out, if_pos hnz])
            obtain ⟨dl, hdl⟩ : ∃ dl, (datL V k).length = dl := ⟨_, rfl⟩
            rw [hdl] at ro38 hlD
            have ro39 := ownsRow_call ro38 hb9
            have k39 := k38.call hb9
            obtain ⟨A3n, cap3n, rfl, _⟩ := own_Rd ro39
            have c39 : w9.cell? ⟨s3, 2, none⟩ = some (.slice A3n dl cap3n) := (k39.cell 2).trans rfl
            clear hD hnz heq
            have hfl : Instr.fill (fun i => some (i * iD.size, iD.size)) ((Array.range (1 * iD.size)).map ((Value.agg (daA 0 (fun _ => 0))).cells[· % (Value.agg (daA 0 (fun _ => 0))).cells.size]!)) [(0, .agg D)] = some D := by rw [hzD1]; exact hbs
            have hs1 : ¬ 1 * iD.size > 2 ^ 24 := by rw [hzD1]; decide
            have hs2 : ¬ 1 * iD.size = 0 := by rw [hzD1]; decide
            have kD := Blk.new w9 124 D
            have hbD : Below w9.heap.size w9 (w9.alloc (.cells D 124)) := (Below.refl _ _).alloc (Nat.le_refl _) _
            have nwD : ∀ (j : Nat) (u : Value), D.toList[j]? = some u → (w9.alloc (.cells D 124)).cell? ((⟨w9.heap.size, 0, none⟩ : Addr).add j) = some u := fun j u hu => by
              rw [addr_add0, Nat.zero_add, kD.cell]; simpa using hu
            have hsF9 := (F38.trans (.of_below hb9)).size
            clear hbs hb171
            go_wp2_with (refine wpList_load_mid rfl 85 (.tmp 5) rfl w8.heap.size 0 rfl X.toList _ hra9 Tryz.underlying85 rfl hinfl ?_; rw [Array.toArray_toList]; refine wpList_buildU rfl 62 rfl 124 [(0, .tmp 60), (1, .tmp 61)] rfl _ rfl D hbt ?_; refine wpList_buildSliceU rfl 63 rfl 48 124 1 [(0, .tmp 62)] rfl _ rfl D iD _ Tryz.underlying48 hiD hzD0 hs1 hs2 hfl ?_; refine wpList_append_own _ rfl (.tmp 59) (.tmp 63) 48 rfl NB 124 iD (.agg (daA 0 (fun _ => 0))) 65 72 Tryz.underlying48 hiD hzD0 hzD1 hzD2 rfl (by decide) _ dl (fl (daC V) (datL V k)) rfl (ro39.alloc _) ⟨w9.heap.size, 0, none⟩ 1 1 D.toList rfl hDs nwD hDo (by unfold maxLen; omega) (by omega) (by simp; omega) ?_; intro v' w10 hown' hgrow _; rw [← hDl, ← fl_append] at hown'; have F10 : Far (fun g => (Value.slice A3n dl cap3n).ownBlock = some g) w9 w10 := (Far.of_below hbD).grown hgrow (fun g hg _ => hg); have k310 := F10.blk k39 (fun h => own_other ro39 h k39 (by decide)); have f310 := k310.frozen; have c310 : w10.cell? ⟨s3, 2, none⟩ = some (.slice A3n dl cap3n) := (k310.cell 2).trans rfl; obtain ⟨A3m, cap3m, rfl, _⟩ := own_Rd hown'; clear c39)
            have F11 : Far (fun k => k = s3) w10 (w10.setCell ⟨s3, 2, none⟩ (.slice A3m (dl + 1) cap3m)) := Far.setCell (T := fun k => k = s3) (p := ⟨s3, 2, none⟩) (Far.refl _ w10) (fun _ => rfl) _
            have k311 : Blk (w10.setCell ⟨s3, 2, none⟩ (.slice A3m (dl + 1) cap3m)) s3 53 (stC (.slice A1 N1 cap1) v2n (.slice A3m (dl + 1) cap3m) (.slice A4 N4 c4) V.rf.calls V.rf.hits).toArray := k310.set_ 2 _
            have ro311 : (w10.setCell ⟨s3, 2, none⟩ (.slice A3m (dl + 1) cap3m)).ownsRow NB 124 65 (.slice A3m (dl + 1) cap3m) (datL V (k + 1)).length (fl (daC V) (datL V (k + 1))) := by
              rw [hstD2.out, List.length_append, List.length_singleton, hdl]
              exact ownsRow_far hown' F11 (fun g hg h => own_other hown' (hg.trans (congrArg some h)) k310 (by decide))
            have ro29 := ownsRow_call ro28 hb9
            have ro211 := ownsRow_far (ownsRow_far ro29 F10 (fun g hg h => by
              rcases ro39.2 with ⟨hx, _⟩ | ⟨g', cap', cur, hx, _, hkx, _⟩
              · rw [hx] at h; cases h
              · rw [hx] at h
                have e' : g' = g := by injection h
                subst e'
                exact own_other ro29 hg (show Blk w9 g' 124 cur from hkx) (by decide))) F11 (fun g hg h => by
              have := (ro29.lt g hg).1
              omega)
            have F311 : Far (fun k => k = s3 ∨ NB ≤ k) w3 (w10.setCell ⟨s3, 2, none⟩ (.slice A3m (dl + 1) cap3m)) := ((F38.trans (.of_below hb9)).trans' F10 (fun i hi h => .inr (ro39.lt i h).1)).trans' F11 (fun i hi h => .inl h)
            go_roundw
            case rel => exact ⟨k + 1, v2n, _, by omega, by go_num, k311, ro211, ro311, F311⟩
            case measure => simp [intOf]; omega
        | false =>
          rw [hh] at hcH
          have hst2 : Hid (hugL V (k + 1) = hugL V k) := Lib.hid (by rw [hstH.out, if_neg (by rw [hh]; simp)])
          clear hstH hm hh
          have k38 := k3
          have ro28 : wr.ownsRow NB 3 1 v2 (hugL V (k + 1)).length ((hugL V (k + 1)).map (Value.int .i64)) := by rw [hst2.out]; exact ro2
          have ro38 := ro3
          have F38 := hF
          have kb8 := kbr
          clear k3 ro2 ro3 hF kbr hlH
          go_upto_region 10 with fail
          refine HFi.out.mono ?_
          rintro e8 w8 ⟨rfl, hw8⟩
          replace hw8 := hw8.symm
          subst hw8
          go_upto_region 10 with fail
          clear HFi hcH
          obtain ⟨X, hX⟩ : ∃ X, arrI .u8 64 (V.pg k).byt = X := ⟨_, rfl⟩
          have hXs : X.size = 64 := by rw [← hX]; simp [arrI]
          have hra : wr.rangeAt b (1 + k * 66 + 2) X.toList := fun j v hj => by
            rw [← hX] at hj
            have hj64 : j < 64 := by have := (List.getElem?_eq_some_iff.1 hj).1; simpa [arrI] using this
            rw [kb8.cell, show 1 + k * 66 + 2 + j = 1 + k * 66 + (j + 2) by omega, hc'.out.byte hlt hj64, ← hj, Array.getElem?_toList, arrI_at hj64]
          have hinf : (Tryz.prog.info? 85).map (·.size) = some X.size := by rw [hXs]; exact infoKinds
          have hinfl : (Tryz.prog.info? 85).map (·.size) = some X.toList.length := by rw [Array.length_toList]; exact hinf
          have hone : X.all (·.oneCell') = true := by
            rw [← hX]; unfold arrI
            exact Go.all_oneCell_toArray (fun x hx => by simp only [List.mem_map] at hx; obtain ⟨i, _, rfl⟩ := hx; rfl)
          have ht : ∀ Z : Array Value, Z.size = 64 → (wr.alloc (.cells Z 85)).there wr.heap.size 0 X.size := fun Z hZ => z_there (Blk.new wr _ Z) 0 X.size (by omega)
          have hw9 : ∀ (Z : Array Value) w9, (wr.alloc (.cells Z 85)).setCells wr.heap.size 0 X.toList = w9 → Z.size = 64 → Blk w9 wr.heap.size 85 X ∧ Below wr.heap.size wr w9 := fun Z w9 h hZ => by
            have kP := Blk.puts (g := wr.heap.size) (t := 85) (w := wr) (cs := #[]) X.toList 0 _ _ (Blk.new wr 85 Z)
            rw [putA_all (by rw [Array.length_toList]; omega)] at kP
            have hF := Far.puts (T := fun k => k = wr.heap.size) rfl X.toList 0 wr _ ((Far.refl _ wr).alloc (.cells Z 85))
            rw [h] at kP hF
            exact ⟨kP, hF.below (Nat.le_refl _) (fun k hk e => by omega)⟩
          have heq : ∀ W, (Op.equalIn 10000 85 (.agg X) (.agg #[.int .u8 0, .int .u8 0, .int .u8 0, .int .u8 0, .int .u8 0, .int .u8 0, .int .u8 0, .int .u8 0, .int .u8 0, .int .u8 0, .int .u8 0, .int .u8 0, .int .u8 0, .int .u8 0, .int .u8 0, .int .u8 0, .int .u8 0, .int .u8 0, .int .u8 0, .int .u8 0, .int .u8 0, .int .u8 0, .int .u8 0, .int .u8 0, .int .u8 0, .int .u8 0, .int .u8 0, .int .u8 0, .int .u8 0, .int .u8 0, .int .u8 0, .int .u8 0, .int .u8 0, .int .u8 0, .int .u8 0, .int .u8 0, .int .u8 0, .int .u8 0, .int .u8 0, .int .u8 0, .int .u8 0, .int .u8 0, .int .u8 0, .int .u8 0, .int .u8 0, .int .u8 0, .int .u8 0, .int .u8 0, .int .u8 0, .int .u8 0, .int .u8 0, .int .u8 0, .int .u8 0, .int .u8 0, .int .u8 0, .int .u8 0, .int .u8 0, .int .u8 0, .int .u8 0, .int .u8 0, .int .u8 0, .int .u8 0, .int .u8 0, .int .u8 0])).run Tryz.prog W = .ok (!nzB (V.pg k)) W := fun W => by
            have h := eq64_any (V.pg k).byt (fun _ => 0) W
            rw [hX, nzB_all] at h
            exact h
          have hX' := Lib.hid hX
          have hXs' := Lib.hid hXs
          clear hX hXs
          go_upto_region 11 with (first
            | (refine wpList_load_mid rfl 85 (.tmp 53) rfl b (1 + k * 66 + 2) rfl X.toList _ hra Tryz.underlying85 rfl hinfl ?_; rw [Array.toArray_toList])
            | (refine wpList_store_mid rfl 85 (.tmp 5) (.tmp 54) rfl wr.heap.size 0 X rfl rfl (ht _ rfl) hinf hone ?_))
          generalize hW9 : World.setCells _ wr.heap.size 0 X.toList = w9
          obtain ⟨k9, hb9⟩ := hw9 _ _ hW9 rfl
          clear hW9 hw9 ht hra
          have hra9 : w9.rangeAt wr.heap.size 0 X.toList := fun j v hj => by rw [Nat.zero_add, k9.cell]; simpa using hj
          cases hnz : nzB (V.pg k) with
          | false =>
            rw [hnz] at heq
            go_wp2_with (refine wpList_load_mid rfl 85 (.tmp 5) rfl wr.heap.size 0 rfl X.toList _ hra9 Tryz.underlying85 rfl hinfl ?_; rw [Array.toArray_toList])
            go_roundw
            case rel =>
              have hstD2 : datL V (k + 1) = datL V k := by rw [hstD.out, if_neg (by rw [hnz]; decide)]
              exact ⟨k + 1, v2, v3, by omega, by go_num, k38.call hb9, ownsRow_call ro28 hb9, by rw [hstD2]; exact ownsRow_call ro38 hb9, F38.trans (.of_below hb9)⟩
            case measure => simp [intOf]; omega
          | true =>
            rw [hnz] at heq
            go_upto_region 12 with (refine wpList_load_mid rfl 85 (.tmp 5) rfl wr.heap.size 0 rfl X.toList _ hra9 Tryz.underlying85 rfl hinfl ?_; rw [Array.toArray_toList])
            obtain ⟨D, hD⟩ : ∃ D, daA (k : Int) (V.pg k).byt = D := ⟨_, rfl⟩
            have hbt : Tryz.prog.built 124 [(0, .int .i64 (k : Int)), (1, .agg X)] = some D := by rw [← hD, ← hX'.out]; exact built_da _ _
            have hb171 : ∀ W, (Instr.build 124 #[(0, .int .i64 (k : Int)), (1, .agg X)]).run Tryz.prog W = .ok (.agg D) W := fun W => run_build W _ _ _ hbt
            have hbs := fill_da (k : Int) (V.pg k).byt
            rw [hD] at hbs
            have hDs : D.toList.length = 65 := by rw [← hD]; simp [daA]
            have hDo : ∀ u ∈ D.toList, u.oneCell' = true := by
              intro u hu
              rw [← hD, ← daC_eq] at hu
              exact daC_one V [k] u (by simpa [fl] using hu)
            have hDl : fl (daC V) [k] = D.toList := by rw [← hD, ← daC_eq]; simp [fl]
            have hstD2 : Hid (datL V (k + 1) = datL V k ++ [k]) := Lib.hid (by rw [hstD.out, if_pos hnz])
            obtain ⟨dl, hdl⟩ : ∃ dl, (datL V k).length = dl := ⟨_, rfl⟩
            rw [hdl] at ro38 hlD
            have ro39 := ownsRow_call ro38 hb9
            have k39 := k38.call hb9
            obtain ⟨A3n, cap3n, rfl, _⟩ := own_Rd ro39
            have c39 : w9.cell? ⟨s3, 2, none⟩ = some (.slice A3n dl cap3n) := (k39.cell 2).trans rfl
            clear hD hnz heq
            have hfl : Instr.fill (fun i => some (i * iD.size, iD.size)) ((Array.range (1 * iD.size)).map ((Value.agg (daA 0 (fun _ => 0))).cells[· % (Value.agg (daA 0 (fun _ => 0))).cells.size]!)) [(0, .agg D)] = some D := by rw [hzD1]; exact hbs
            have hs1 : ¬ 1 * iD.size > 2 ^ 24 := by rw [hzD1]; decide
            have hs2 : ¬ 1 * iD.size = 0 := by rw [hzD1]; decide
            have kD := Blk.new w9 124 D
            have hbD : Below w9.heap.size w9 (w9.alloc (.cells D 124)) := (Below.refl _ _).alloc (Nat.le_refl _) _
            have nwD : ∀ (j : Nat) (u : Value), D.toList[j]? = some u → (w9.alloc (.cells D 124)).cell? ((⟨w9.heap.size, 0, none⟩ : Addr).add j) = some u := fun j u hu => by
              rw [addr_add0, Nat.zero_add, kD.cell]; simpa using hu
            have hsF9 := (F38.trans (.of_below hb9)).size
            clear hbs hb171
            go_wp2_with (refine wpList_load_mid rfl 85 (.tmp 5) rfl wr.heap.size 0 rfl X.toList _ hra9 Tryz.underlying85 rfl hinfl ?_; rw [Array.toArray_toList]; refine wpList_buildU rfl 62 rfl 124 [(0, .tmp 60), (1, .tmp 61)] rfl _ rfl D hbt ?_; refine wpList_buildSliceU rfl 63 rfl 48 124 1 [(0, .tmp 62)] rfl _ rfl D iD _ Tryz.underlying48 hiD hzD0 hs1 hs2 hfl ?_; refine wpList_append_own _ rfl (.tmp 59) (.tmp 63) 48 rfl NB 124 iD (.agg (daA 0 (fun _ => 0))) 65 72 Tryz.underlying48 hiD hzD0 hzD1 hzD2 rfl (by decide) _ dl (fl (daC V) (datL V k)) rfl (ro39.alloc _) ⟨w9.heap.size, 0, none⟩ 1 1 D.toList rfl hDs nwD hDo (by unfold maxLen; omega) (by omega) (by simp; omega) ?_; intro v' w10 hown' hgrow _; rw [← hDl, ← fl_append] at hown'; have F10 : Far (fun g => (Value.slice A3n dl cap3n).ownBlock = some g) w9 w10 := (Far.of_below hbD).grown hgrow (fun g hg _ => hg); have k310 := F10.blk k39 (fun h => own_other ro39 h k39 (by decide)); have f310 := k310.frozen; have c310 : w10.cell? ⟨s3, 2, none⟩ = some (.slice A3n dl cap3n) := (k310.cell 2).trans rfl; obtain ⟨A3m, cap3m, rfl, _⟩ := own_Rd hown'; clear c39)
            have F11 : Far (fun k => k = s3) w10 (w10.setCell ⟨s3, 2, none⟩ (.slice A3m (dl + 1) cap3m)) := Far.setCell (T := fun k => k = s3) (p := ⟨s3, 2, none⟩) (Far.refl _ w10) (fun _ => rfl) _
            have k311 : Blk (w10.setCell ⟨s3, 2, none⟩ (.slice A3m (dl + 1) cap3m)) s3 53 (stC (.slice A1 N1 cap1) v2 (.slice A3m (dl + 1) cap3m) (.slice A4 N4 c4) V.rf.calls V.rf.hits).toArray := k310.set_ 2 _
            have ro311 : (w10.setCell ⟨s3, 2, none⟩ (.slice A3m (dl + 1) cap3m)).ownsRow NB 124 65 (.slice A3m (dl + 1) cap3m) (datL V (k + 1)).length (fl (daC V) (datL V (k + 1))) := by
              rw [hstD2.out, List.length_append, List.length_singleton, hdl]
              exact ownsRow_far hown' F11 (fun g hg h => own_other hown' (hg.trans (congrArg some h)) k310 (by decide))
            have ro29 := ownsRow_call ro28 hb9
            have ro211 := ownsRow_far (ownsRow_far ro29 F10 (fun g hg h => by
              rcases ro39.2 with ⟨hx, _⟩ | ⟨g', cap', cur, hx, _, hkx, _⟩
              · rw [hx] at h; cases h
              · rw [hx] at h
                have e' : g' = g := by injection h
                subst e'
                exact own_other ro29 hg (show Blk w9 g' 124 cur from hkx) (by decide))) F11 (fun g hg h => by
              have := (ro29.lt g hg).1
              omega)
            have F311 : Far (fun k => k = s3 ∨ NB ≤ k) w3 (w10.setCell ⟨s3, 2, none⟩ (.slice A3m (dl + 1) cap3m)) := ((F38.trans (.of_below hb9)).trans' F10 (fun i hi h => .inr (ro39.lt i h).1)).trans' F11 (fun i hi h => .inl h)
            go_roundw
            case rel => exact ⟨k + 1, v2, _, by omega, by go_num, k311, ro211, ro311, F311⟩
            case measure => simp [intOf]; omega
      · rw [decide_eq_false hm] at HFi
        have hst2 : Hid (hugL V (k + 1) = hugL V k) := Lib.hid (by rw [hstH.out, if_neg (fun h => hm h.1)])
        clear hstH hm
        have k38 := k3
        have ro28 : wr.ownsRow NB 3 1 v2 (hugL V (k + 1)).length ((hugL V (k + 1)).map (Value.int .i64)) := by rw [hst2.out]; exact ro2
        have ro38 := ro3
        have F38 := hF
        have kb8 := kbr
        clear k3 ro2 ro3 hF kbr hlH hcH
        go_upto_region 10 with fail
        refine HFi.out.mono ?_
        rintro e8 w8 ⟨rfl, hw8⟩
        replace hw8 := hw8.symm
        subst hw8
        go_upto_region 10 with fail
        clear HFi
        obtain ⟨X, hX⟩ : ∃ X, arrI .u8 64 (V.pg k).byt = X := ⟨_, rfl⟩
        have hXs : X.size = 64 := by rw [← hX]; simp [arrI]
        have hra : wr.rangeAt b (1 + k * 66 + 2) X.toList := fun j v hj => by
          rw [← hX] at hj
          have hj64 : j < 64 := by have := (List.getElem?_eq_some_iff.1 hj).1; simpa [arrI] using this
          rw [kb8.cell, show 1 + k * 66 + 2 + j = 1 + k * 66 + (j + 2) by omega, hc'.out.byte hlt hj64, ← hj, Array.getElem?_toList, arrI_at hj64]
        have hinf : (Tryz.prog.info? 85).map (·.size) = some X.size := by rw [hXs]; exact infoKinds
        have hinfl : (Tryz.prog.info? 85).map (·.size) = some X.toList.length := by rw [Array.length_toList]; exact hinf
        have hone : X.all (·.oneCell') = true := by
          rw [← hX]; unfold arrI
          exact Go.all_oneCell_toArray (fun x hx => by simp only [List.mem_map] at hx; obtain ⟨i, _, rfl⟩ := hx; rfl)
        have ht : ∀ Z : Array Value, Z.size = 64 → (wr.alloc (.cells Z 85)).there wr.heap.size 0 X.size := fun Z hZ => z_there (Blk.new wr _ Z) 0 X.size (by omega)
        have hw9 : ∀ (Z : Array Value) w9, (wr.alloc (.cells Z 85)).setCells wr.heap.size 0 X.toList = w9 → Z.size = 64 → Blk w9 wr.heap.size 85 X ∧ Below wr.heap.size wr w9 := fun Z w9 h hZ => by
          have kP := Blk.puts (g := wr.heap.size) (t := 85) (w := wr) (cs := #[]) X.toList 0 _ _ (Blk.new wr 85 Z)
          rw [putA_all (by rw [Array.length_toList]; omega)] at kP
          have hF := Far.puts (T := fun k => k = wr.heap.size) rfl X.toList 0 wr _ ((Far.refl _ wr).alloc (.cells Z 85))
          rw [h] at kP hF
          exact ⟨kP, hF.below (Nat.le_refl _) (fun k hk e => by omega)⟩
        have heq : ∀ W, (Op.equalIn 10000 85 (.agg X) (.agg #[.int .u8 0, .int .u8 0, .int .u8 0, .int .u8 0, .int .u8 0, .int .u8 0, .int .u8 0, .int .u8 0, .int .u8 0, .int .u8 0, .int .u8 0, .int .u8 0, .int .u8 0, .int .u8 0, .int .u8 0, .int .u8 0, .int .u8 0, .int .u8 0, .int .u8 0, .int .u8 0, .int .u8 0, .int .u8 0, .int .u8 0, .int .u8 0, .int .u8 0, .int .u8 0, .int .u8 0, .int .u8 0, .int .u8 0, .int .u8 0, .int .u8 0, .int .u8 0, .int .u8 0, .int .u8 0, .int .u8 0, .int .u8 0, .int .u8 0, .int .u8 0, .int .u8 0, .int .u8 0, .int .u8 0, .int .u8 0, .int .u8 0, .int .u8 0, .int .u8 0, .int .u8 0, .int .u8 0, .int .u8 0, .int .u8 0, .int .u8 0, .int .u8 0, .int .u8 0, .int .u8 0, .int .u8 0, .int .u8 0, .int .u8 0, .int .u8 0, .int .u8 0, .int .u8 0, .int .u8 0, .int .u8 0, .int .u8 0, .int .u8 0, .int .u8 0])).run Tryz.prog W = .ok (!nzB (V.pg k)) W := fun W => by
          have h := eq64_any (V.pg k).byt (fun _ => 0) W
          rw [hX, nzB_all] at h
          exact h
        have hX' := Lib.hid hX
        have hXs' := Lib.hid hXs
        clear hX hXs
        go_upto_region 11 with (first
          | (refine wpList_load_mid rfl 85 (.tmp 53) rfl b (1 + k * 66 + 2) rfl X.toList _ hra Tryz.underlying85 rfl hinfl ?_; rw [Array.toArray_toList])
          | (refine wpList_store_mid rfl 85 (.tmp 5) (.tmp 54) rfl wr.heap.size 0 X rfl rfl (ht _ rfl) hinf hone ?_))
        generalize hW9 : World.setCells _ wr.heap.size 0 X.toList = w9
        obtain ⟨k9, hb9⟩ := hw9 _ _ hW9 rfl
        clear hW9 hw9 ht hra
        have hra9 : w9.rangeAt wr.heap.size 0 X.toList := fun j v hj => by rw [Nat.zero_add, k9.cell]; simpa using hj
        cases hnz : nzB (V.pg k) with
        | false =>
          rw [hnz] at heq
          go_wp2_with (refine wpList_load_mid rfl 85 (.tmp 5) rfl wr.heap.size 0 rfl X.toList _ hra9 Tryz.underlying85 rfl hinfl ?_; rw [Array.toArray_toList])
          go_roundw
          case rel =>
            have hstD2 : datL V (k + 1) = datL V k := by rw [hstD.out, if_neg (by rw [hnz]; decide)]
            exact ⟨k + 1, v2, v3, by omega, by go_num, k38.call hb9, ownsRow_call ro28 hb9, by rw [hstD2]; exact ownsRow_call ro38 hb9, F38.trans (.of_below hb9)⟩
          case measure => simp [intOf]; omega
        | true =>
          rw [hnz] at heq
          go_upto_region 12 with (refine wpList_load_mid rfl 85 (.tmp 5) rfl wr.heap.size 0 rfl X.toList _ hra9 Tryz.underlying85 rfl hinfl ?_; rw [Array.toArray_toList])
          obtain ⟨D, hD⟩ : ∃ D, daA (k : Int) (V.pg k).byt = D := ⟨_, rfl⟩
          have hbt : Tryz.prog.built 124 [(0, .int .i64 (k : Int)), (1, .agg X)] = some D := by rw [← hD, ← hX'.out]; exact built_da _ _
          have hb171 : ∀ W, (Instr.build 124 #[(0, .int .i64 (k : Int)), (1, .agg X)]).run Tryz.prog W = .ok (.agg D) W := fun W => run_build W _ _ _ hbt
          have hbs := fill_da (k : Int) (V.pg k).byt
          rw [hD] at hbs
          have hDs : D.toList.length = 65 := by rw [← hD]; simp [daA]
          have hDo : ∀ u ∈ D.toList, u.oneCell' = true := by
            intro u hu
            rw [← hD, ← daC_eq] at hu
            exact daC_one V [k] u (by simpa [fl] using hu)
          have hDl : fl (daC V) [k] = D.toList := by rw [← hD, ← daC_eq]; simp [fl]
          have hstD2 : Hid (datL V (k + 1) = datL V k ++ [k]) := Lib.hid (by rw [hstD.out, if_pos hnz])
          obtain ⟨dl, hdl⟩ : ∃ dl, (datL V k).length = dl := ⟨_, rfl⟩
          rw [hdl] at ro38 hlD
          have ro39 := ownsRow_call ro38 hb9
          have k39 := k38.call hb9
          obtain ⟨A3n, cap3n, rfl, _⟩ := own_Rd ro39
          have c39 : w9.cell? ⟨s3, 2, none⟩ = some (.slice A3n dl cap3n) := (k39.cell 2).trans rfl
          clear hD hnz heq
          have hfl : Instr.fill (fun i => some (i * iD.size, iD.size)) ((Array.range (1 * iD.size)).map ((Value.agg (daA 0 (fun _ => 0))).cells[· % (Value.agg (daA 0 (fun _ => 0))).cells.size]!)) [(0, .agg D)] = some D := by rw [hzD1]; exact hbs
          have hs1 : ¬ 1 * iD.size > 2 ^ 24 := by rw [hzD1]; decide
          have hs2 : ¬ 1 * iD.size = 0 := by rw [hzD1]; decide
          have kD := Blk.new w9 124 D
          have hbD : Below w9.heap.size w9 (w9.alloc (.cells D 124)) := (Below.refl _ _).alloc (Nat.le_refl _) _
          have nwD : ∀ (j : Nat) (u : Value), D.toList[j]? = some u → (w9.alloc (.cells D 124)).cell? ((⟨w9.heap.size, 0, none⟩ : Addr).add j) = some u := fun j u hu => by
            rw [addr_add0, Nat.zero_add, kD.cell]; simpa using hu
          have hsF9 := (F38.trans (.of_below hb9)).size
          clear hbs hb171
          go_wp2_with (refine wpList_load_mid rfl 85 (.tmp 5) rfl wr.heap.size 0 rfl X.toList _ hra9 Tryz.underlying85 rfl hinfl ?_; rw [Array.toArray_toList]; refine wpList_buildU rfl 62 rfl 124 [(0, .tmp 60), (1, .tmp 61)] rfl _ rfl D hbt ?_; refine wpList_buildSliceU rfl 63 rfl 48 124 1 [(0, .tmp 62)] rfl _ rfl D iD _ Tryz.underlying48 hiD hzD0 hs1 hs2 hfl ?_; refine wpList_append_own _ rfl (.tmp 59) (.tmp 63) 48 rfl NB 124 iD (.agg (daA 0 (fun _ => 0))) 65 72 Tryz.underlying48 hiD hzD0 hzD1 hzD2 rfl (by decide) _ dl (fl (daC V) (datL V k)) rfl (ro39.alloc _) ⟨w9.heap.size, 0, none⟩ 1 1 D.toList rfl hDs nwD hDo (by unfold maxLen; omega) (by omega) (by simp; omega) ?_; intro v' w10 hown' hgrow _; rw [← hDl, ← fl_append] at hown'; have F10 : Far (fun g => (Value.slice A3n dl cap3n).ownBlock = some g) w9 w10 := (Far.of_below hbD).grown hgrow (fun g hg _ => hg); have k310 := F10.blk k39 (fun h => own_other ro39 h k39 (by decide)); have f310 := k310.frozen; have c310 : w10.cell? ⟨s3, 2, none⟩ = some (.slice A3n dl cap3n) := (k310.cell 2).trans rfl; obtain ⟨A3m, cap3m, rfl, _⟩ := own_Rd hown'; clear c39)
          have F11 : Far (fun k => k = s3) w10 (w10.setCell ⟨s3, 2, none⟩ (.slice A3m (dl + 1) cap3m)) := Far.setCell (T := fun k => k = s3) (p := ⟨s3, 2, none⟩) (Far.refl _ w10) (fun _ => rfl) _
          have k311 : Blk (w10.setCell ⟨s3, 2, none⟩ (.slice A3m (dl + 1) cap3m)) s3 53 (stC (.slice A1 N1 cap1) v2 (.slice A3m (dl + 1) cap3m) (.slice A4 N4 c4) V.rf.calls V.rf.hits).toArray := k310.set_ 2 _
          have ro311 : (w10.setCell ⟨s3, 2, none⟩ (.slice A3m (dl + 1) cap3m)).ownsRow NB 124 65 (.slice A3m (dl + 1) cap3m) (datL V (k + 1)).length (fl (daC V) (datL V (k + 1))) := by
            rw [hstD2.out, List.length_append, List.length_singleton, hdl]
            exact ownsRow_far hown' F11 (fun g hg h => own_other hown' (hg.trans (congrArg some h)) k310 (by decide))
          have ro29 := ownsRow_call ro28 hb9
          have ro211 := ownsRow_far (ownsRow_far ro29 F10 (fun g hg h => by
            rcases ro39.2 with ⟨hx, _⟩ | ⟨g', cap', cur, hx, _, hkx, _⟩
            · rw [hx] at h; cases h
            · rw [hx] at h
              have e' : g' = g := by injection h
              subst e'
              exact own_other ro29 hg (show Blk w9 g' 124 cur from hkx) (by decide))) F11 (fun g hg h => by
            have := (ro29.lt g hg).1
            omega)
          have F311 : Far (fun k => k = s3 ∨ NB ≤ k) w3 (w10.setCell ⟨s3, 2, none⟩ (.slice A3m (dl + 1) cap3m)) := ((F38.trans (.of_below hb9)).trans' F10 (fun i hi h => .inr (ro39.lt i h).1)).trans' F11 (fun i hi h => .inl h)
          go_roundw
          case rel => exact ⟨k + 1, v2, _, by omega, by go_num, k311, ro211, ro311, F311⟩
          case measure => simp [intOf]; omega
    · obtain rfl : k = 1024 := by omega
      have hlt' : decide (((1024 : Nat) : Int) < 1024) = false := by decide
      obtain ⟨A2, cap2, rfl, r2, _, _, g2, _⟩ := own_Rd ro2
      obtain ⟨A3, cap3, rfl, r3, _, _, g3, _⟩ := own_Rd ro3
      have k2r := hF.blk k23 (by show ¬ (s = s3 ∨ NB ≤ s); omega)
      obtain ⟨C18, hC18⟩ : ∃ C18, stC (.slice A1 N1 cap1) (.slice A2 (hugL V 1024).length cap2) (.slice A3 (datL V 1024).length cap3) (.slice A4 N4 c4) V.rf.calls V.rf.hits = C18 := ⟨_, rfl⟩
      have hC18s : C18.length = 18 := by rw [← hC18]; rfl
      have hC18o : C18.toArray.all (·.oneCell') = true := by rw [← hC18]; exact Go.all_oneCell_toArray (stC_one rfl rfl rfl rfl _ _)
      rw [hC18] at k3
      have hra : wr.rangeAt s3 0 C18 := fun j v hj => by rw [Nat.zero_add, k3.cell]; simpa using hj
      have hinf : (Tryz.prog.info? 53).map (·.size) = some C18.length := by rw [hC18s]; exact infoSt
      have hinfa : (Tryz.prog.info? 53).map (·.size) = some C18.toArray.size := by rw [List.size_toArray]; exact hinf
      have ht : wr.there s 0 C18.toArray.size := z_there k2r 0 _ (by rw [List.size_toArray, hC18s]; exact Nat.le_refl _)
      have kP := Blk.puts (g := s) (t := 53) (w := wr) (cs := #[]) C18 0 wr _ k2r
      rw [putA_all (by rw [hC18s]; rfl)] at kP
      have F9 := Far.puts (T := fun k => k = s) rfl C18 0 wr wr (Far.refl _ _)
      have hC' := Lib.hid hC18
      have hs' := Lib.hid hs
      clear hC18 hC18s hs
      go_wp2_with (first
        | (refine wpList_load_mid rfl 53 (.tmp 3) rfl s3 0 rfl C18 _ hra Tryz.underlying53 rfl hinf ?_)
        | (refine wpList_store_mid rfl 53 (.tmp 2) (.tmp 67) rfl s 0 C18.toArray rfl rfl ht hinfa hC18o ?_))
      generalize World.setCells wr s 0 C18 = w9 at *
      have hl9 := run_loadVar_mid (P := Tryz.prog) w9 s 0 53 C18 _ (fun j v hj => by rw [Nat.zero_add, kP.cell]; simpa using hj) Tryz.underlying53 rfl hinf
      refine bodyPost_ret (v := .agg C18.toArray) ?_ rfl ?_
      · exact z_results_cell1 Tryz.results16 rfl hl9
      have q1r := q13'.out.farN hF (fun k hk ⟨o, e⟩ => by
        have := q4 k o e
        show ¬ (k = s3 ∨ NB ≤ k)
        omega)
      have r1r := r13'.out.farN hF (fun k hk ⟨o, e⟩ h => by
        rcases h with h | h
        · exact hA13 o (h ▸ e)
        · omega)
      have hsz9 := F9.size
      have hszr := hF.size
      refine ⟨_, rfl, ⟨A1, A2, A3, A4, N1, cap1, _, cap2, _, cap3, N4, c4, by rw [hC'.out], hN1'.out, ?_, rfl, ?_, rfl, ?_, hN4'.out, ?_⟩, ?_⟩
      · exact (r1r.farN F9 (fun k hk ⟨o, e⟩ h => by have := hAs.out k o e; omega)).more (by omega)
      · exact RI.more (r2.farN F9 (fun k hk ⟨o, e⟩ h => by have := g2 k o e; omega)) hsz9
      · exact (r3.farN F9 (fun k hk ⟨o, e⟩ h => by have := g3 k o e; omega)).more hsz9
      · exact (q1r.farN F9 (fun k hk ⟨o, e⟩ h => by have := q4 k o e; omega)).more (by omega)
      · rw [hs'.out]
        exact B3.trans ((hF.below (by omega) (fun k hk h => by omega)).trans (F9.below (by omega) (fun k hk h => by omega)))
end Go.Proofs.YtpabnbhbcphfiaaGreat
namespace Go.Proofs.YtpabnbhbcphfiaaGreat
open Go Go.Proofs Go.RowKit Go.Pol Go.Shelf
attribute [local go_sem] Oper.semAt_some Go.Pol.wide_fn Go.Pol.wide_depth Go.Pol.wide_fn' Go.Pol.wide_depth'

/-- a whole array is loaded in a quiet walk -/
theorem wpQuiet_load' {P : Program} {ops : Array Oper} {C : World → Prop} {Q : Act → Prop} {a : Act} {o : Oper} {rest : List Oper} (x : Operand) (ty : TypeId) (p : Addr) (v : Value) (hg : o.guard = none) (h : o.op = .load ty x) (hx : a.eval x = .pointer (some p)) (hl : ∀ w, C w → (loadVar ty p).run P w = .ok v w)
    (hk : wpQuiet P ops C Q rest (a.put o.dst v)) : wpQuiet P ops C Q (o :: rest) a :=
  wpQuiet_step fun K hK => by
    rw [if_pos (by simp [Region.wanted, hg])]
    refine ⟨v, fun w hw => ?_, hK _ hk⟩
    unfold Oper.quietAt
    have e : (execOp a.eval o).run P w = .ok (.value v) w := by
      unfold execOp
      simp only [h]
      simp [hx, Instr.loadAt, Instr.sureAddr, Result.andThen, hl w hw]
    rw [e]
    exact ⟨rfl, rfl⟩
theorem infoDaS : (Tryz.prog.info? 124).map (·.size) = some 65 := by kernel_rfl
theorem eqItemsR (d : Nat) (f : Nat → Int) (w : World) : ∀ is : List Nat, (∀ i ∈ is, i < 64) → (Op.eqItems (d + 1) 5 1 (arrI .u8 64 f) (arrI .u8 64 f) is).run Tryz.prog w = .ok true w
  | [], _ => by simp [Op.eqItems]
  | i :: is, h => by
    have ih := eqItemsR d f w is (fun j hj => h j (by simp [hj]))
    have h1 := arrI_at (k := .u8) (f := f) (h i (by simp))
    have a3 := Tryz.isAgg5
    have he := run_equalIn_int (P := Tryz.prog) w d 5 .u8 _ (f i) (f i) Tryz.underlying5
    generalize arrI .u8 64 f = X at *
    have p1 : (part 5 X (i * 1)).run Tryz.prog w = .ok (.int .u8 (f i)) w := by simp [part, a3, h1]
    rw [show (f i == f i) = true by simp] at he
    simp only [Op.eqItems, Sem.run_bind, p1, he, Result.andThen_ok, Bool.not_true, Bool.false_eq_true, if_false]
    exact ih
theorem eq64R (d : Nat) (f : Nat → Int) (w : World) : (Op.equalIn (d + 2) 85 (.agg (arrI .u8 64 f)) (.agg (arrI .u8 64 f))).run Tryz.prog w = .ok true w := by
  obtain ⟨i0, hi⟩ := info_of_underlying (P := Tryz.prog) Tryz.underlying5
  rw [run_equalIn_array w (d + 1) _ _ Tryz.underlying85 hi]
  have hc : Tryz.prog.cellsOf 5 = 1 := by kernel_rfl
  rw [hc]
  exact eqItemsR d f w _ (fun i hi => List.mem_range.1 hi)
theorem daA_bytes (p : Int) (f : Nat → Int) : (daA p f).extract 1 65 = arrI .u8 64 f := by kernel_rfl
theorem daA_size (p : Int) (f : Nat → Int) : (daA p f).size = 65 := by kernel_rfl
theorem daA_page (p : Int) (f : Nat → Int) : (daA p f)[0]? = some (.int .i64 p) := by kernel_rfl
theorem eqDa (p : Int) (f : Nat → Int) (w : World) : (Op.equalIn 10000 124 (.agg (daA p f)) (.agg (daA p f))).run Tryz.prog w = .ok true w := by
  have u3 := Tryz.underlying3
  have a3 := Tryz.isAgg3
  have z3 := Tryz.sizeOf3
  have a9 := Tryz.isAgg85
  have z9 := Tryz.sizeOf85
  have h0 : (daA p f)[0]? = some (.int .i64 p) := daA_page p f
  have hx : (daA p f).extract 1 65 = arrI .u8 64 f := daA_bytes p f
  have hs := daA_size p f
  have he : (Op.equalIn 9999 85 (.agg (arrI .u8 64 f)) (.agg (arrI .u8 64 f))).run Tryz.prog w = .ok true w := eq64R 9997 f w
  have he0 : (Op.equalIn 9999 3 (.int .i64 p) (.int .i64 p)).run Tryz.prog w = .ok (p == p) w := run_equalIn_int (P := Tryz.prog) w 9998 3 .i64 _ p p Tryz.underlying3
  rw [show (p == p) = true by simp] at he0
  generalize daA p f = D at *
  generalize arrI .u8 64 f = X at *
  rw [show (10000 : Nat) = 9999 + 1 from rfl]
  go_simp
  obtain ⟨hlt, e0⟩ := Array.getElem?_eq_some_iff.1 h0
  simp only [e0, he0, he, Result.andThen_ok, Bool.true_eq_false, if_false]
end Go.Proofs.YtpabnbhbcphfiaaGreat
namespace Go.Pol
open Go Go.RowKit
/-- the pages with bytes that are not in a set -/
def keptL (V : Vm) (us : List Sp) (k : Nat) : List Nat := (datL V k).filter fun p : Nat => !mem (p : Int) us
theorem datL_lt (V : Vm) : ∀ k, ∀ p ∈ datL V k, p < k
  | 0, p, h => by cases h
  | k + 1, p, h => by
    unfold datL at h
    split at h
    · rcases List.mem_append.1 h with h | h
      · have := datL_lt V k p h; omega
      · have := List.mem_singleton.1 h; omega
    · have := datL_lt V k p h; omega
theorem datL_mem (V : Vm) (p : Nat) : ∀ k, p ∈ datL V k ↔ p < k ∧ nzB (V.pg p) = true
  | 0 => by simp [datL]
  | k + 1 => by
    have ih := datL_mem V p k
    unfold datL
    split
    · rename_i h
      rw [List.mem_append, List.mem_singleton, ih]
      constructor
      · rintro (h1 | rfl)
        · exact ⟨by omega, h1.2⟩
        · exact ⟨by omega, h⟩
      · rintro ⟨h1, h2⟩
        by_cases e : p = k
        · exact .inr e
        · exact .inl ⟨by omega, h2⟩
    · rename_i h
      rw [ih]
      constructor
      · exact fun h1 => ⟨by omega, h1.2⟩
      · rintro ⟨h1, h2⟩
        refine ⟨?_, h2⟩
        by_cases e : p = k
        · subst e; exact absurd h2 h
        · omega
theorem datL_asc (V : Vm) : ∀ k, (datL V k).Pairwise (· < ·)
  | 0 => .nil
  | k + 1 => by
    unfold datL
    split
    · refine List.pairwise_append.2 ⟨datL_asc V k, by simp, fun x hx y hy => ?_⟩
      have := datL_lt V k x hx
      have := List.mem_singleton.1 hy
      omega
    · exact datL_asc V k
theorem kept_congr {V U : Vm} {l : List Sp} (h : ∀ p : Nat, p < 1024 → mem (p : Int) l = false → (U.pg p).byt = (V.pg p).byt) : keptL U l 1024 = keptL V l 1024 ∧ fl (daC U) (keptL U l 1024) = fl (daC V) (keptL V l 1024) := by
  have e : keptL U l 1024 = keptL V l 1024 := by
    have hm : ∀ x, x ∈ keptL U l 1024 ↔ x ∈ keptL V l 1024 := fun x => by
      unfold keptL
      rw [List.mem_filter, List.mem_filter, datL_mem, datL_mem]
      constructor
      · rintro ⟨⟨h1, h2⟩, h3⟩
        have hb := h x h1 (by simpa using h3)
        exact ⟨⟨h1, by unfold nzB at h2 ⊢; rwa [hb] at h2⟩, h3⟩
      · rintro ⟨⟨h1, h2⟩, h3⟩
        have hb := h x h1 (by simpa using h3)
        exact ⟨⟨h1, by unfold nzB at h2 ⊢; rwa [hb]⟩, h3⟩
    have a1 := (datL_asc U 1024).filter (fun p : Nat => !mem (p : Int) l)
    have a2 := (datL_asc V 1024).filter (fun p : Nat => !mem (p : Int) l)
    exact ((List.perm_ext_iff_of_nodup (a1.imp (fun h => by omega)) (a2.imp (fun h => by omega))).2 hm).eq_of_pairwise (fun a b _ _ h1 h2 => by omega) a1 a2
  refine ⟨e, ?_⟩
  rw [e]
  unfold fl
  have hc : ∀ L : List Nat, (∀ p ∈ L, daC U p = daC V p) → L.flatMap (daC U) = L.flatMap (daC V) := fun L => by
    induction L with
    | nil => exact fun _ => rfl
    | cons x r ih => intro hx; rw [List.flatMap_cons, List.flatMap_cons, hx x (by simp), ih (fun p hp => hx p (by simp [hp]))]
  refine hc _ (fun p hp => ?_)
  unfold keptL at hp
  rw [List.mem_filter, datL_mem] at hp
  have hb := h p hp.1.1 (by simpa using hp.2)
  unfold daC bytL
  rw [hb]
theorem filt_step {α : Type} (d : α) (f : α → Bool) (l : List α) {k : Nat} (hk : k < l.length) : (l.take (k + 1)).filter f = if f (l.getD k d) = true then (l.take k).filter f ++ [l.getD k d] else (l.take k).filter f := by
  rw [List.take_succ_eq_append_getElem hk, List.filter_append, List.getD_eq_getElem?_getD, List.getElem?_eq_getElem hk, Option.getD_some]
  by_cases h : f l[k] = true
  · rw [if_pos h, List.filter_cons_of_pos h]; rfl
  · rw [if_neg h, List.filter_cons_of_neg h]; simp
end Go.Pol
namespace Go.Proofs.YtpabnbhbcphfiaaGreat
open Go Go.Proofs Go.RowKit Go.Pol Go.Shelf
attribute [local go_sem] Oper.semAt_some Go.Pol.wide_fn Go.Pol.wide_depth Go.Pol.wide_fn' Go.Pol.wide_depth'

set_option maxRecDepth 100000 in
theorem field_data (v1 v2 v4 : Value) (A : Option Addr) (n c : Nat) (cs hs : Nat → Int) (W : World) : (Instr.field 53 (.agg (stC v1 v2 (.slice A n c) v4 cs hs).toArray) 2).run Tryz.prog W = .ok (.slice A n c) W := by
  have u := Tryz.underlying53
  have a3 := Tryz.isAgg48
  unfold Instr.field stC rfC
  simp only [Sem.run_bind, run_underlying u, Result.andThen_ok]
  simp [part, asAgg, Sem.run_bind, a3, Result.andThen]
set_option maxRecDepth 100000 in
set_option maxHeartbeats 3200000 in
theorem kept_any (b : Nat) (A : Option Addr) (n cap : Nat) (us : List Sp) (V : Vm) (w : World) (hV : SysIs w b V) (hn : us.length = n) (hm : n ≤ 1000000) (hr : RU w w.heap.size A us) (hv : ∀ x ∈ us, vld x = true) :
    Calls Tryz.prog 41 #[.pointer (some ⟨b, 0, none⟩), .slice A n cap] w fun e w' => ∃ (A' : Option Addr) (cap' : Nat), e = .returned (.slice A' (keptL V us 1024).length cap') ∧ Rd w' w'.heap.size A' (fl (daC V) (keptL V us 1024)) ∧ Below w.heap.size w w' ∧ ∀ g o, A' = some ⟨g, o, none⟩ → w.heap.size ≤ g := by
  have HM := Lib.hid (marks_any A n cap us w hn hm hr hv)
  have hV0 := Lib.hid hV
  have hZ := zeros_are
  have HS := Lib.hid (fun W h => save_any b V W h)
  obtain ⟨iD, hiD, hzD0, hzD1, hzD2⟩ := info_parts infoDa
  clear hV hr hv hn hm
  go_enter Tryz.func41, Tryz.ntmps41
  go_wp2_with fail
  refine HM.out.mono ?_
  rintro e w1 ⟨cs, rfl, hM, hb1⟩
  obtain ⟨q, hq⟩ : ∃ q, w1.heap.size = q := ⟨_, rfl⟩
  have kz := Blk.new w1 186 Tryz.zeroCells186
  rw [hq] at kz
  have hsz := hM.size
  have hzs := hZ.size
  have hone := hM.one
  have hth : (w1.alloc (.cells Tryz.zeroCells186 186)).there q 0 cs.size := z_there kz 0 _ (by rw [hsz, hzs]; omega)
  have hinf : (Tryz.prog.info? 186).map (·.size) = some cs.size := by rw [hsz]; kernel_rfl
  have kM0 := Blk.puts (g := q) (t := 186) (w := w1) (cs := #[]) cs.toList 0 _ _ kz
  rw [putA_all (by rw [Array.length_toList, hsz, hzs])] at kM0
  have hF2 := Far.puts (T := fun k => k = q) rfl cs.toList 0 w1 _ ((Far.refl _ w1).alloc (.cells Tryz.zeroCells186 186))
  clear kz HM
  go_upto_region 2 with (refine wpList_store_mid rfl 186 (.tmp 5) (.tmp 10) rfl q 0 cs rfl rfl hth hinf hone ?_)
  generalize World.setCells _ q 0 _ = w2 at *
  have hb2 := hF2.below (n := w1.heap.size) (Nat.le_refl _) (fun k hk e => by omega)
  have B2 := hb1.trans (hb2.mono hb1.size)
  have V2 := hV0.out.call B2
  clear hF2 hth hinf hone hb1 hb2
  go_wp2_with fail
  refine (HS.out _ V2).mono ?_
  rintro e w3 ⟨S, rfl, hS, hb3⟩
  have kM := kM0.call hb3
  have B3 := B2.trans (hb3.mono B2.size)
  obtain ⟨A1, A2, A3, A4, n1, c1, n2, c2, n3, c3, n4, c4, hSe, _, _, _, _, h3, r3, _, _⟩ := hS.ex
  have hfd : ∀ W, (Instr.field 53 S 2).run Tryz.prog W = .ok (.slice A3 n3 c3) W := fun W => by rw [hSe]; exact field_data _ _ _ _ _ _ _ _ W
  have hL3 := datL_len V 1024
  rw [h3] at hL3
  have hlt3 := Lib.hid (datL_lt V 1024)
  have h3' := Lib.hid h3
  obtain ⟨NB, hNB⟩ : ∃ NB, w3.heap.size = NB := ⟨_, rfl⟩
  have hqNB : q < NB := by rw [← hNB]; exact kM.lt
  have hbsz := B3.size
  clear hSe hS HS V2 kM0 hb3 B2 h3
  go_wp2_with fail
  go_loopw [7, 8] (fun v i wr => ∃ k : Nat, k ≤ n3 ∧ i = .int .i64 k ∧ Hid (wr.ownsRow NB 124 65 v (((datL V 1024).take k).filter fun p : Nat => !mem (p : Int) us).length (fl (daC V) (((datL V 1024).take k).filter fun p : Nat => !mem (p : Int) us))) ∧ Below NB w3 wr) (fun _ i _ => n3 - (intOf i).toNat)
  case atStart => exact ⟨0, by omega, rfl, Lib.hid (World.ownsRow_nil _ _ _ _), by rw [← hNB]; exact Below.refl _ _⟩
  case round =>
    obtain ⟨k, hk, rfl, hrow, hB⟩ := hrel
    have hBs := hB.size
    have r3r := r3.below (hB.mono (by omega))
    have kMr := kM.below hB hqNB
    by_cases hlt : k < n3
    · have hlt' : decide ((k : Int) < (n3 : Int)) = true := by simpa using hlt
      obtain ⟨g, o, rfl, hg, hc⟩ := r3r.elem (daC_len V) (by omega) 0 (k := k) (by rw [h3'.out]; exact hlt)
      have hpl : (datL V 1024).getD k 0 < 1024 := hlt3.out _ (by rw [List.getD_eq_getElem?_getD, List.getElem?_eq_getElem (by rw [h3'.out]; exact hlt)]; exact List.getElem_mem _)
      have hst := filt_step 0 (fun p : Nat => !mem (p : Int) us) (datL V 1024) (k := k) (by rw [h3'.out]; exact hlt)
      have hll : (((datL V 1024).take k).filter fun p : Nat => !mem (p : Int) us).length ≤ k := by
        refine Nat.le_trans (List.length_filter_le _ _) ?_
        rw [List.length_take]; omega
      generalize (datL V 1024).getD k 0 = p at *
      generalize ((datL V 1024).take k).filter (fun p : Nat => !mem (p : Int) us) = L at *
      have hst' := Lib.hid hst
      have c0 : wr.cell? ⟨g, o + k * 65, none⟩ = some (.int .i64 (p : Int)) := hc 0 _ rfl
      have cm := (kMr.cell p).trans (hM.at_ p hpl)
      have hp1 : decide ((0 : Int) ≤ (p : Int)) = true := by simp
      have hp2 : decide ((p : Int) < 1024) = true := by simp; omega
      have hpi : (p : Int) < 1024 := by omega
      clear hst
      cases hmm : mem (p : Int) us with
      | true =>
        rw [hmm] at cm hst'
        have hst2 : Hid (((datL V 1024).take (k + 1)).filter (fun p : Nat => !mem (p : Int) us) = L) := Lib.hid (by rw [hst'.out, if_neg (by decide)])
        clear hst' hmm hc
        go_wp2_with fail
        go_roundw
        case rel => exact ⟨k + 1, by omega, by go_num, Lib.hid (by rw [hst2.out]; exact hrow.out), hB⟩
        case measure => simp [intOf]; omega
      | false =>
        rw [hmm] at cm hst'
        have hst2 : Hid (((datL V 1024).take (k + 1)).filter (fun p : Nat => !mem (p : Int) us) = L ++ [p]) := Lib.hid (by rw [hst'.out, if_pos (by decide)])
        obtain ⟨D, hD⟩ : ∃ D, daA (p : Int) (V.pg p).byt = D := ⟨_, rfl⟩
        have hDs : D.toList.length = 65 := by rw [← hD]; simp [daA]
        have hDo : ∀ u ∈ D.toList, u.oneCell' = true := by
          intro u hu
          rw [← hD, ← daC_eq] at hu
          exact daC_one V [p] u (by simpa [fl] using hu)
        have hDl : fl (daC V) [p] = D.toList := by rw [← hD, ← daC_eq]; simp [fl]
        have hbs := fill_da (p : Int) (V.pg p).byt
        rw [hD] at hbs
        have hra : wr.rangeAt g (o + k * 65) D.toList := fun j v hj => by
          rw [← hD, ← daC_eq] at hj
          exact hc j v hj
        have hinfD : (Tryz.prog.info? 124).map (·.size) = some D.toList.length := by rw [hDs]; exact infoDaS
        have hfl : Instr.fill (fun i => some (i * iD.size, iD.size)) ((Array.range (1 * iD.size)).map ((Value.agg (daA 0 (fun _ => 0))).cells[· % (Value.agg (daA 0 (fun _ => 0))).cells.size]!)) [(0, .agg D)] = some D := by rw [hzD1]; exact hbs
        have hs1 : ¬ 1 * iD.size > 2 ^ 24 := by rw [hzD1]; decide
        have hs2 : ¬ 1 * iD.size = 0 := by rw [hzD1]; decide
        obtain ⟨dl, hdl⟩ : ∃ dl, L.length = dl := ⟨_, rfl⟩
        have row := hrow.out
        rw [hdl] at row hll
        have kD := Blk.new wr 124 D
        have hbD : Below wr.heap.size wr (wr.alloc (.cells D 124)) := (Below.refl _ _).alloc (Nat.le_refl _) _
        have nwD : ∀ (j : Nat) (u : Value), D.toList[j]? = some u → (wr.alloc (.cells D 124)).cell? ((⟨wr.heap.size, 0, none⟩ : Addr).add j) = some u := fun j u hu => by
          rw [addr_add0, Nat.zero_add, kD.cell]; simpa using hu
        obtain ⟨Ar, capr, rfl, _⟩ := own_Rd row
        clear hD hbs hst' hmm hc
        go_wp2_with (first
          | (refine wpList_load_mid rfl 124 (.tmp 47) rfl g (o + k * 65) rfl D.toList _ hra Tryz.underlying124 rfl hinfD ?_; rw [Array.toArray_toList]; refine wpList_buildSliceU rfl 49 rfl 48 124 1 [(0, .tmp 48)] rfl _ rfl D iD _ Tryz.underlying48 hiD hzD0 hs1 hs2 hfl ?_; refine wpList_append_own _ rfl (.tmp 44) (.tmp 49) 48 rfl NB 124 iD (.agg (daA 0 (fun _ => 0))) 65 72 Tryz.underlying48 hiD hzD0 hzD1 hzD2 rfl (by decide) _ dl (fl (daC V) L) rfl (row.alloc _) ⟨wr.heap.size, 0, none⟩ 1 1 D.toList rfl hDs nwD hDo (by unfold maxLen; omega) (by omega) (by simp; omega) ?_; intro v' w10 hown' hgrow _; rw [← hDl, ← fl_append] at hown'))
        go_roundw
        case rel =>
          refine ⟨k + 1, by omega, by go_num, Lib.hid ?_, (hB.alloc (by omega) _).grown hgrow (by simp; omega) (fun j hj => (row.lt j hj).1)⟩
          rw [hst2.out, List.length_append, List.length_singleton, hdl]
          exact hown'
        case measure => simp [intOf]; omega
    · obtain rfl : k = n3 := by omega
      have hlt' : decide ((k : Int) < (k : Int)) = false := by simp
      have row := hrow.out
      rw [List.take_of_length_le (by rw [h3'.out]; exact Nat.le_refl _)] at row
      have row2 : wr.ownsRow NB 124 65 _ (keptL V us 1024).length (fl (daC V) (keptL V us 1024)) := row
      obtain ⟨Ar, capr, rfl, hrd, _, _, hfr, _⟩ := own_Rd row2
      go_wp2_with fail
      go_ret
      exact ⟨Ar, capr, rfl, hrd, B3.trans (hB.mono (by omega)), fun g o e => by have := hfr g o e; omega⟩
set_option maxRecDepth 100000 in
set_option maxHeartbeats 1600000 in
theorem equalDa_any (A A' : Option Addr) (n cap cap' : Nat) (V : Vm) (L : List Nat) (w : World) (hn : L.length = n) (hr : Rd w w.heap.size A (fl (daC V) L)) (hr' : Rd w w.heap.size A' (fl (daC V) L)) (hm : n ≤ 1024) :
    Calls Tryz.prog 43 #[.slice A n cap, .slice A' n cap'] w fun e w' => e = .returned (.bool true) ∧ Below w.heap.size w w' := by
  have hn' := Lib.hid hn
  have heqD := Lib.hid (fun p : Nat => eqDa (p : Int) (V.pg p).byt)
  have e1 : ((n : Int) != (n : Int)) = false := by simp
  clear hn
  go_enter Tryz.func43, Tryz.ntmps43
  go_wp2_with fail
  go_loopw [5] (fun i wr => ∃ k : Nat, k ≤ n ∧ i = .int .i64 k ∧ Below w.heap.size w wr) (fun i _ => n - (intOf i).toNat)
  case atStart => exact ⟨0, by omega, rfl, Below.refl _ _⟩
  case round =>
    obtain ⟨k, hk, rfl, hB⟩ := hrel
    by_cases hlt : k < n
    · have hlt' : decide ((k : Int) < (n : Int)) = true := by simpa using hlt
      have hin : (k : Int) < (n : Int) := by omega
      obtain ⟨b, o, rfl, hb, hc⟩ := (hr.on_ hB).elem (daC_len V) (by omega) 0 (k := k) (by rw [hn'.out]; exact hlt)
      obtain ⟨b', o', rfl, hb', hc'⟩ := (hr'.on_ hB).elem (daC_len V) (by omega) 0 (k := k) (by rw [hn'.out]; exact hlt)
      generalize L.getD k 0 = p at *
      have hq := heqD.out p
      have hld : ∀ z : Ext wr, (loadVar 124 ⟨b, o + k * 65, none⟩).run Tryz.prog z.w = .ok (.agg (daA (p : Int) (V.pg p).byt)) z.w := fun z => run_loadVar_mid (P := Tryz.prog) z.w b (o + k * 65) 124 (daC V p) _ (fun j v hj => z.cell (hc j v hj)) Tryz.underlying124 rfl infoDaS
      have hld' : ∀ z : Ext wr, (loadVar 124 ⟨b', o' + k * 65, none⟩).run Tryz.prog z.w = .ok (.agg (daA (p : Int) (V.pg p).byt)) z.w := fun z => run_loadVar_mid (P := Tryz.prog) z.w b' (o' + k * 65) 124 (daC V p) _ (fun j v hj => z.cell (hc' j v hj)) Tryz.underlying124 rfl infoDaS
      generalize daA (p : Int) (V.pg p).byt = D at *
      clear hc hc'
      go_upto_region 6 with fail
      refine region_ext (by kernel_rfl) (by kernel_rfl) ?_
      repeat (go_big_quiet_step (fail))
      refine wpQuiet_load' (.tmp 19) 124 ⟨b, o + k * 65, none⟩ (.agg D) rfl rfl rfl (by rintro _ ⟨z, rfl⟩; exact hld z) ?_
      simp only [Act.put, List.setIfInBounds_toArray, List.set_cons_zero, List.set_cons_succ]
      repeat (go_big_quiet_step (fail))
      refine wpQuiet_load' (.tmp 23) 124 ⟨b', o' + k * 65, none⟩ (.agg D) rfl rfl rfl (by rintro _ ⟨z, rfl⟩; exact hld' z) ?_
      simp only [Act.put, List.setIfInBounds_toArray, List.set_cons_zero, List.set_cons_succ]
      repeat (go_big_quiet_step (fail))
      refine wpQuiet_nil ?_
      rintro w2 ⟨⟨_, hw2⟩, rfl⟩
      go_wp2_with fail
      go_roundw
      case rel => exact ⟨k + 1, by omega, by go_num, hB.trans (hw2.mono hB.size)⟩
      case measure => simp [intOf]; omega
    · obtain rfl : k = n := by omega
      have hlt' : decide ((k : Int) < (k : Int)) = false := by simp
      go_wp2_with fail
      go_ret
      exact ⟨rfl, hB⟩
end Go.Proofs.YtpabnbhbcphfiaaGreat
namespace Go.Pol
open Go Go.RowKit
/-- groups split one after the other: how many were, the first error, the system -/
def spF : List Int → Vm → Nat × Int × Vm
  | [], V => (0, 0, V)
  | g :: r, V => if (splitF V (wrap64 (g * 16))).1 = 0 then ((spF r (splitF V (wrap64 (g * 16))).2).1 + 1, (spF r (splitF V (wrap64 (g * 16))).2).2) else (0, splitF V (wrap64 (g * 16)))
/-- spans given back one after the other -/
def dcF : List Sp → Vm → Nat × Int × Vm
  | [], V => (0, 0, V)
  | x :: r, V => if (bec V x.1 x.2 3 2 1).1 = 0 then ((dcF r (bec V x.1 x.2 3 2 1).2).1 + 1, (dcF r (bec V x.1 x.2 3 2 1).2).2) else (0, bec V x.1 x.2 3 2 1)
/-- what Back does with the groups it was told of -/
def hbF (V : Vm) (G : List Int × Int) (ps : List Sp) : Nat × Nat × Int × Vm :=
  if G.2 ≠ 0 then (0, 0, G.2, V) else if (spF G.1 V).2.1 ≠ 0 then ((spF G.1 V).1, 0, (spF G.1 V).2) else ((spF G.1 V).1, dcF ps (spF G.1 V).2.2)
theorem spF_len : ∀ (l : List Int) (V : Vm), (spF l V).1 ≤ l.length
  | [], _ => Nat.le_refl _
  | g :: r, V => by
    unfold spF
    split
    · have := spF_len r (splitF V (wrap64 (g * 16))).2
      simp; omega
    · simp
theorem dcF_len : ∀ (l : List Sp) (V : Vm), (dcF l V).1 ≤ l.length
  | [], _ => Nat.le_refl _
  | x :: r, V => by
    unfold dcF
    split
    · have := dcF_len r (bec V x.1 x.2 3 2 1).2
      simp; omega
    · simp
theorem hbF_len (V : Vm) (G : List Int × Int) (ps : List Sp) : (hbF V G ps).1 ≤ G.1.length ∧ (hbF V G ps).2.1 ≤ ps.length := by
  unfold hbF
  split
  · simp
  · split
    · exact ⟨spF_len _ _, Nat.zero_le _⟩
    · exact ⟨spF_len _ _, dcF_len _ _⟩
theorem spF_step {gs : List Int} {V U : Vm} {k : Nat} (hk : k < gs.length) (h : spF gs V = (k + (spF (gs.drop k) U).1, (spF (gs.drop k) U).2)) :
    spF gs V = if (splitF U (wrap64 (gs.getD k 0 * 16))).1 = 0 then (k + 1 + (spF (gs.drop (k + 1)) (splitF U (wrap64 (gs.getD k 0 * 16))).2).1, (spF (gs.drop (k + 1)) (splitF U (wrap64 (gs.getD k 0 * 16))).2).2) else (k, splitF U (wrap64 (gs.getD k 0 * 16))) := by
  rw [h, drop_cons 0 gs k hk, spF]
  split
  · congr 1; omega
  · rfl
theorem dcF_step {gs : List Sp} {V U : Vm} {k : Nat} (hk : k < gs.length) (h : dcF gs V = (k + (dcF (gs.drop k) U).1, (dcF (gs.drop k) U).2)) :
    dcF gs V = if (bec U (gs.getD k (0, 0)).1 (gs.getD k (0, 0)).2 3 2 1).1 = 0 then (k + 1 + (dcF (gs.drop (k + 1)) (bec U (gs.getD k (0, 0)).1 (gs.getD k (0, 0)).2 3 2 1).2).1, (dcF (gs.drop (k + 1)) (bec U (gs.getD k (0, 0)).1 (gs.getD k (0, 0)).2 3 2 1).2).2) else (k, bec U (gs.getD k (0, 0)).1 (gs.getD k (0, 0)).2 3 2 1) := by
  rw [h, drop_cons (0, 0) gs k hk, dcF]
  split
  · congr 1; omega
  · rfl
end Go.Pol
namespace Go.Pol
open Go Go.Proofs Go.RowKit
/-- one group joined: the system, the groups joined so far, the first error -/
def hjS (s : Vm × List Int × Int) (g : Int) : Vm × List Int × Int :=
  ((joinF s.1 (wrap64 (g * 16))).2, if (joinF s.1 (wrap64 (g * 16))).1 = 0 then s.2.1 ++ [g] else s.2.1, if (joinF s.1 (wrap64 (g * 16))).1 = 0 then s.2.2 else if s.2.2 = 0 then (joinF s.1 (wrap64 (g * 16))).1 else s.2.2)
/-- what huge's Join does with the groups it was told of -/
def hjF (V : Vm) (G : List Int × Int) : Vm × List Int × Int := if G.2 ≠ 0 then (V, [], G.2) else G.1.foldl hjS (V, [], 0)
/-! a system without rules stays one -/
theorem Vm.ref_rules (V : Vm) (call : Nat) : (V.ref call).rf.rules = V.rf.rules := by
  show (refS V.rf call).rules = V.rf.rules
  unfold refS nextS
  repeat (first | rfl | split)
theorem makeF_rules (V : Vm) (a n : Int) (call : Nat) (pr : Pg → Bool) (f : Pg → Pg) : (makeF V a n call pr f).2.rf.rules = V.rf.rules := by
  unfold makeF
  split
  · rfl
  · split
    · rfl
    · split
      · exact V.ref_rules call
      · exact V.ref_rules call
theorem joinF_rules (V : Vm) (p : Int) : (joinF V p).2.rf.rules = V.rf.rules := by
  unfold joinF
  split
  · rfl
  · split
    · rfl
    · exact makeF_rules ..
theorem hjS_rules : ∀ (l : List Int) (s : Vm × List Int × Int), (l.foldl hjS s).1.rf.rules = s.1.rf.rules
  | [], _ => rfl
  | _ :: r, _ => (hjS_rules r _).trans (joinF_rules _ _)
/-- a list, an error, and a system that has become this -/
def JoinO (b : Nat) (r : Vm × List Int × Int) (w : World) (e : Ending) (w' : World) : Prop := ∃ (A : Option Addr) (cap : Nat), e = .returned (.tuple #[.slice A r.2.1.length cap, .int .i64 r.2.2]) ∧ RI w' w'.heap.size A r.2.1 ∧ (∀ g o, A = some ⟨g, o, none⟩ → w.heap.size ≤ g) ∧ SysIs w' b r.1 ∧ Far (fun k => k = b) w w'
end Go.Pol
namespace Go.Proofs.YtpabnbhbcphfiaaGreat
open Go Go.Proofs Go.RowKit Go.Pol Go.Shelf
attribute [local go_sem] Oper.semAt_some Go.Pol.wide_fn Go.Pol.wide_depth Go.Pol.wide_fn' Go.Pol.wide_depth'

set_option maxRecDepth 100000 in
set_option maxHeartbeats 3200000 in
theorem hjoin_any (b : Nat) (least : Int) (S : Value) (C L : List Sp) (H : List Int) (V : Vm) (w : World) (hV : SysIs w b V) (hK : KindOk V) (hS : StIs w S C L H) :
    Calls Tryz.prog 42 #[.pointer (some ⟨b, 0, none⟩), S, .int .i64 least] w (JoinO b (hjF V (groupsA C L H least)) w) := by
  have HC := Lib.hid (fun W h => counts_any b V W h hK)
  have HG := Lib.hid (fun W h => groupsN_any S C L H least W h)
  have hV0 := Lib.hid hV
  have hS0 := Lib.hid hS
  have hbs := hV.lt
  obtain ⟨i0, hi, hz0, hz1, hz2⟩ := info_parts infoIn
  have hlen : Hid ((groupsA C L H least).1.length ≤ 64) := Lib.hid (by
    unfold groupsA
    split
    · simp
    · split
      · simp
      · rw [← outG_whole]
        unfold outG
        rw [List.length_map]
        exact Nat.le_trans (List.length_filter_le _ _) (filter_len_grps C L H wholeP))
  generalize groupsA C L H least = G at *
  obtain ⟨gs, er⟩ := G
  simp only at hlen
  obtain ⟨R, hR⟩ : ∃ R, hjF V (gs, er) = R := ⟨_, rfl⟩
  rw [hR]
  have hR' := Lib.hid hR
  obtain ⟨A1, A2, A3, n1, c1, n2, c2, n3, c3, rfl, _⟩ := hS.ex
  have hb0 := (Below.refl w.heap.size w).alloc (Nat.le_refl _) (.cells #[.slice A1 n1 c1, .slice A2 n2 c2, .slice A3 n3 c3] 94)
  have k0 := Blk.new w 94 #[.slice A1 n1 c1, .slice A2 n2 c2, .slice A3 n3 c3]
  have V0 := hV0.out.call hb0
  clear hS hR hV hK
  go_enter Tryz.func42, Tryz.ntmps42
  go_upto_region 1 with fail
  generalize w.alloc _ = w0 at *
  go_wp2_with fail
  refine (HC.out _ V0).mono ?_
  rintro e w1 ⟨⟨cs, hcs, rfl⟩, hb1⟩
  have B1 := hb0.trans (hb1.mono hb0.size)
  have k1 := k0.call hb1
  obtain ⟨q, hq⟩ : ∃ q, w1.heap.size = q := ⟨_, rfl⟩
  have hsz := hcs.size
  have kz := Blk.new w1 163 #[.int .i64 0, .int .i64 0, .int .i64 0, .int .i64 0, .int .i64 0]
  rw [hq] at kz
  have ht : (w1.alloc (.cells #[.int .i64 0, .int .i64 0, .int .i64 0, .int .i64 0, .int .i64 0] 163)).there q 0 cs.size := by rw [hsz]; exact z_there kz 0 5 (by simp)
  have hF2 := Far.puts (T := fun k => k = q) rfl cs.toList 0 w1 _ ((Far.refl _ w1).alloc (.cells #[.int .i64 0, .int .i64 0, .int .i64 0, .int .i64 0, .int .i64 0] 163))
  have hone := Go.all_oneCell_toArray (hcs.one)
  rw [Array.toArray_toList] at hone
  have hinf : (Tryz.prog.info? 163).map (·.size) = some cs.size := by rw [hsz]; exact infoVc
  clear kz HC
  go_upto_region 2 with (refine wpList_store_mid rfl 163 (.tmp 8) (.tmp 17) rfl q 0 cs rfl rfl ht hinf hone ?_)
  generalize World.setCells _ q 0 _ = w2 at *
  have hb2 := hF2.below (n := w1.heap.size) (Nat.le_refl _) (fun k hk e => by omega)
  have B2 := B1.trans (hb2.mono B1.size)
  have k2 := k1.call hb2
  have c2 := k2.cell
  have S2 := hS0.out.on B2
  clear hF2 ht hone hinf hcs hsz hb0 hb1 hb2 k0 k1
  go_wp2_with fail
  refine (HG.out _ S2).mono ?_
  rintro e w3 ⟨A, cap, rfl, hr, hfr, hb3⟩
  have B3 := B2.trans (hb3.mono B2.size)
  have V3 := Lib.hid (hV0.out.call B3)
  simp only at hr
  unfold hjF at hR'
  by_cases h0 : er = 0
  · subst h0
    have hR2 : Hid (gs.foldl hjS (V, [], 0) = R) := Lib.hid (by have := hR'.out; rwa [if_neg (by simp)] at this)
    obtain ⟨n, hn⟩ : ∃ n, gs.length = n := ⟨_, rfl⟩
    have hbB : b < w2.heap.size := by have := B2.size; omega
    simp only [hn] at hlen ⊢
    have hb3s := Lib.hid hb3.size
    clear HG S2 c2 k2 hR' B1 hb3 hS0
    go_wp2_with fail
    go_loopw [6, 7, 33] (fun v c i wr => ∃ (k : Nat) (l : List Int) (ec : Int) (U : Vm), k ≤ n ∧ i = .int .i64 k ∧ c = .int .i64 ec ∧ Hid ((gs.take k).foldl hjS (V, [], 0) = (U, l, ec)) ∧ l.length ≤ k ∧ wr.ownsRow w3.heap.size 3 1 v l.length (l.map (Value.int .i64)) ∧ Hid (SysIs wr b U) ∧ Far (fun k => k = b) w3 wr) (fun _ _ i _ => n - (intOf i).toNat)
    case atStart => exact ⟨0, [], 0, V, by omega, rfl, rfl, Lib.hid rfl, by simp, World.ownsRow_nil _ _ _ _, V3, Far.refl _ _⟩
    case round =>
      clear V3
      obtain ⟨k, l, ec, U, hk, rfl, rfl, hfl, hlk, hrow, hU, hF⟩ := hrel
      have hB3s := hb3s.out
      have hlen' := hlen.out
      by_cases hlt : k < n
      · have hlt' : decide ((k : Int) < (n : Int)) = true := by simpa using hlt
        have hts := take_snocI gs k (by omega)
        have hsn : (gs.take (k + 1)).foldl hjS (V, [], 0) = hjS (U, l, ec) (gs.getD k 0) := by rw [hts, List.foldl_append, hfl.out]; rfl
        obtain ⟨rb, ro, rfl, hrb, c5⟩ := hr.at_ (k := k) (by omega)
        have hrb2 := hfr rb ro rfl
        have d5 := hF.cell c5 (by show ¬ rb = b; omega)
        generalize gs.getD k 0 = x at *
        have hsn' : Hid ((gs.take (k + 1)).foldl hjS (V, [], 0) = ((Go.Pol.joinF U (wrap64 (x * 16))).2, if (Go.Pol.joinF U (wrap64 (x * 16))).1 = 0 then l ++ [x] else l, if (Go.Pol.joinF U (wrap64 (x * 16))).1 = 0 then ec else if ec = 0 then (Go.Pol.joinF U (wrap64 (x * 16))).1 else ec)) := Lib.hid hsn
        have HJ := Lib.hid (vjoin_any b (wrap64 (x * 16)) U wr hU.out)
        clear hts hsn c5
        go_wp2_with fail
        refine HJ.out.mono ?_
        rintro e w5 ⟨rfl, V5, F5⟩
        have V5' := Lib.hid V5
        have hrow5 := ownsRow_far hrow F5 (fun g hg h => by have := (hrow.lt g hg).1; omega)
        have hF5 := hF.trans F5
        have d6 := F5.cell d5 (by show ¬ rb = b; omega)
        generalize Go.Pol.joinF U (wrap64 (x * 16)) = J at *
        obtain ⟨je, jV⟩ := J
        simp only at hsn' V5'
        have hsn2 := hsn'.out
        clear HJ hU hrow hF F5 V5 hsn' d5
        by_cases hj : je = 0
        · subst hj
          rw [if_pos rfl, if_pos rfl] at hsn2
          have hsn3 := Lib.hid hsn2
          clear hsn2
          obtain ⟨ll, hll⟩ : ∃ ll, l.length = ll := ⟨_, rfl⟩
          rw [hll] at hrow5 hlk
          have kN := Blk.new w5 3 #[.int .i64 x]
          have hbN : Below w5.heap.size w5 (w5.alloc (.cells #[.int .i64 x] 3)) := (Below.refl _ _).alloc (Nat.le_refl _) _
          have hs5 := hF5.size
          go_wp2_with (refine wpList_append_own _ rfl (.tmp 44) (.tmp 46) 47 rfl w3.heap.size 3 i0 (.int .i64 0) 1 8 Tryz.underlying47 hi hz0 hz1 hz2 rfl (by decide) _ ll (l.map (Value.int .i64)) rfl (hrow5.alloc _) ⟨w5.heap.size, 0, none⟩ 1 1 [.int .i64 x] rfl rfl (news_i kN) ints_one (by unfold maxLen; omega) (by omega) (by simp; omega) ?_; intro v' w7 hown' hgrow _; rw [show l.map (Value.int .i64) ++ [Value.int .i64 x] = (l ++ [x]).map (Value.int .i64) by simp] at hown')
          go_roundw
          case rel =>
            have F7 : Far (fun k => w3.heap.size ≤ k) w5 w7 := (Far.of_below hbN).grown hgrow (fun g hg hlt => (hrow5.lt g hg).1)
            have F37 : Far (fun k => k = b) w3 w7 := hF5.trans' F7 (fun i hi h => by omega)
            refine ⟨k + 1, l ++ [x], ec, jV, by omega, by go_num, rfl, hsn3, by rw [List.length_append, List.length_singleton, hll]; omega, by rw [List.length_append, List.length_singleton, hll]; exact hown', ?_, ?_⟩
            · have F8 := (Far.of_below hbN).grown hgrow (T := fun k => Value.ownBlock _ = some k) (fun g hg _ => hg)
              exact Lib.hid (V5'.out.far F8 (fun h => by have := (hrow5.lt b h).1; omega) (fun _ _ _ _ _ _ g _ _ _ hc hg => hc.elim fun cr hcr => own_other hrow5 hg hcr (by decide)))
            · exact F37
          case measure => simp [intOf]; omega
        · have hj' : (je == 0) = false := by simpa using hj
          rw [if_neg hj, if_neg hj] at hsn2
          by_cases he : ec = 0
          · subst he
            rw [if_pos rfl] at hsn2
            have hsn3 := Lib.hid hsn2
            clear hsn2
            go_wp2_with fail
            go_roundw
            case rel => exact ⟨k + 1, l, je, jV, by omega, by go_num, rfl, hsn3, by omega, hrow5, V5', hF5⟩
            case measure => simp [intOf]; omega
          · have he' : (ec == 0) = false := by simpa using he
            rw [if_neg he] at hsn2
            have hsn3 := Lib.hid hsn2
            clear hsn2
            go_wp2_with fail
            go_roundw
            case rel => exact ⟨k + 1, l, ec, jV, by omega, by go_num, rfl, hsn3, by omega, hrow5, V5', hF5⟩
            case measure => simp [intOf]; omega
      · obtain rfl : k = n := by omega
        have hlt' : decide ((k : Int) < (k : Int)) = false := by simp
        have hR3 : R = (U, l, ec) := by rw [← hR2.out, ← hfl.out, List.take_of_length_le (by omega)]
        subst hR3
        obtain ⟨A', cap', rfl, hru, _, _, hfr2, _⟩ := own_Rd hrow
        have FF : Far (fun k => k = b) w wr := (Far.of_below B3).trans hF
        go_wp2_with fail
        go_ret2
        exact ⟨A', cap', rfl, hru, fun g o e => by have := hfr2 g o e; have := B3.size; omega, hU.out, FF⟩
  · have h0' : (er != 0) = true := by simpa using h0
    have hR2 := hR'.out
    rw [if_pos h0] at hR2
    subst hR2
    clear HG S2 c2 k2 hR' B1
    go_wp2_with fail
    go_ret2
    exact ⟨none, 0, rfl, RI.nil, fun _ _ h => (by cases h), V3.out, .of_below B3⟩
end Go.Proofs.YtpabnbhbcphfiaaGreat
namespace Go.Pol
open Go
theorem splitG_spec (H : List Int) : ∀ (l o : List Int), l.Pairwise (· < ·) → o.Pairwise (· < ·) → (∀ g ∈ o, ∀ p ∈ l, g ≤ p / 16) →
    (l.foldl (stepS H) o).Pairwise (· < ·) ∧ ∀ g, g ∈ l.foldl (stepS H) o ↔ g ∈ o ∨ (g ∈ H ∧ ∃ p ∈ l, p / 16 = g)
  | [], o, _, ho, _ => ⟨ho, fun g => by simp⟩
  | p :: r, o, hl, ho, hle => by
    obtain ⟨hp, hr⟩ := List.pairwise_cons.1 hl
    rw [List.foldl_cons]
    by_cases hc : (decide (p / 16 ∈ H) && !decide (p / 16 ∈ o)) = true
    · have hs : stepS H o p = o ++ [p / 16] := by unfold stepS; rw [if_pos hc]
      simp only [Bool.and_eq_true, decide_eq_true_eq, Bool.not_eq_true', decide_eq_false_iff_not] at hc
      have ho2 : (o ++ [p / 16]).Pairwise (· < ·) := by
        rw [List.pairwise_append]
        refine ⟨ho, List.pairwise_singleton _ _, fun g hg q hq => ?_⟩
        rw [List.mem_singleton.1 hq]
        have h1 := hle g hg p (by simp)
        have h2 : g ≠ p / 16 := fun e => hc.2 (e ▸ hg)
        omega
      obtain ⟨h1, h2⟩ := splitG_spec H r (o ++ [p / 16]) hr ho2 (fun g hg q hq => by
        have hpq := hp q hq
        rcases List.mem_append.1 hg with h | h
        · exact hle g h q (by simp [hq])
        · rw [List.mem_singleton.1 h]; omega)
      rw [hs]
      refine ⟨h1, fun g => ?_⟩
      rw [h2 g]
      constructor
      · rintro (h | ⟨h, q, hq, e⟩)
        · rcases List.mem_append.1 h with h | h
          · exact .inl h
          · rw [List.mem_singleton.1 h]; exact .inr ⟨hc.1, p, by simp, rfl⟩
        · exact .inr ⟨h, q, by simp [hq], e⟩
      · rintro (h | ⟨h, q, hq, e⟩)
        · exact .inl (by simp [h])
        · rcases List.mem_cons.1 hq with rfl | hq
          · exact .inl (by simp [e])
          · exact .inr ⟨h, q, hq, e⟩
    · have hs : stepS H o p = o := by unfold stepS; rw [if_neg hc]
      have hc2 : p / 16 ∈ H → p / 16 ∈ o := by
        intro h
        by_cases h2 : p / 16 ∈ o
        · exact h2
        · exact absurd (by simp [h, h2]) hc
      obtain ⟨h1, h2⟩ := splitG_spec H r o hr ho (fun g hg q hq => hle g hg q (by simp [hq]))
      rw [hs]
      refine ⟨h1, fun g => ?_⟩
      rw [h2 g]
      constructor
      · rintro (h | ⟨h, q, hq, e⟩)
        · exact .inl h
        · exact .inr ⟨h, q, by simp [hq], e⟩
      · rintro (h | ⟨h, q, hq, e⟩)
        · exact .inl h
        · rcases List.mem_cons.1 hq with rfl | hq
          · exact .inl (e ▸ hc2 (e ▸ h))
          · exact .inr ⟨h, q, hq, e⟩
end Go.Pol
namespace Go.Pol
open Go
theorem touch_iff {ps : List Sp} (h : Can ps) (g : Int) : 0 < grpF ps g ↔ ∃ p ∈ pagesOf ps, p / 16 = g := by
  rw [← cntP_pages h g]
  unfold cntP
  rw [show (0 : Int) = ((0 : Nat) : Int) from rfl, Int.ofNat_lt, List.countP_pos_iff]
  simp
theorem split_eq (C L : List Sp) (H : List Int) (ps : List Sp) : splitA C L H ps = splitB C L H ps := by
  by_cases h1 : chkH C L H = 0
  · by_cases h2 : chkS ps = 0
    · have hcan := chkS_zero.1 h2
      have : splitG H (pagesOf ps) = touchF ps H := by
        obtain ⟨a, b⟩ := splitG_spec H (pagesOf ps) [] (pages_lt hcan) .nil (fun _ h => by cases h)
        refine asc_eq a ((hugOk_lt (chkH_zero.1 h1).2.2.2.2).filter _) fun g => ?_
        show g ∈ (pagesOf ps).foldl (stepS H) [] ↔ g ∈ H.filter fun g => decide (0 < grpF ps g)
        rw [b g, List.mem_filter, decide_eq_true_eq, touch_iff hcan]
        simp
      simp only [splitA, splitB, this]
    · simp [splitA, splitB, h1, h2]
  · simp [splitA, splitB, h1]
theorem splitB_len (C L : List Sp) (H : List Int) (ps : List Sp) : (splitB C L H ps).1.length ≤ 64 := by
  unfold splitB
  by_cases h1 : chkH C L H = 0
  · rw [if_neg (by simp [h1])]
    split
    · simp
    · split
      · simp
      · exact Nat.le_trans (touchF_len _ _) (huge_len h1)
  · rw [if_pos h1]; simp
end Go.Pol
namespace Go.Pol
open Go Go.Proofs Go.RowKit
/-- the groups split, the spans given back, an error, and a system that has become this -/
def BackO (b : Nat) (gs : List Int) (ps : List Sp) (r : Nat × Nat × Int × Vm) (w : World) (e : Ending) (w' : World) : Prop :=
  ∃ (A : Option Addr) (cap : Nat) (A' : Option Addr) (cap' : Nat), e = .returned (.tuple #[.slice A r.1 cap, .slice A' r.2.1 cap', .int .i64 r.2.2.1]) ∧ RI w' w'.heap.size A (gs.take r.1) ∧ (∀ g o, A = some ⟨g, o, none⟩ → w.heap.size ≤ g) ∧ RU w' w'.heap.size A' (ps.take r.2.1) ∧ (∀ g o, A' = some ⟨g, o, none⟩ → w.heap.size ≤ g) ∧ SysIs w' b r.2.2.2 ∧ Far (fun k => k = b) w w'
end Go.Pol
namespace Go.Proofs.YtpabnbhbcphfiaaGreat
open Go Go.Proofs Go.RowKit Go.Pol Go.Shelf
attribute [local go_sem] Oper.semAt_some Go.Pol.wide_fn Go.Pol.wide_depth Go.Pol.wide_fn' Go.Pol.wide_depth'

set_option maxRecDepth 100000 in
set_option maxHeartbeats 3200000 in
theorem hback_any (b : Nat) (S : Value) (C L : List Sp) (H : List Int) (A : Option Addr) (np cp : Nat) (ps : List Sp) (V : Vm) (w : World) (hV : SysIs w b V) (hK : KindOk V) (hS : StIs w S C L H) (hn : ps.length = np) (hm : np ≤ 1000) (hr : RU w w.heap.size A ps) (hAb : ∀ g o, A = some ⟨g, o, none⟩ → 0 < np → g ≠ b) :
    Calls Tryz.prog 46 #[.pointer (some ⟨b, 0, none⟩), S, .slice A np cp] w (BackO b (splitA C L H ps).1 ps (hbF V (splitA C L H ps) ps) w) := by
  have HC := Lib.hid (fun W h => counts_any b V W h hK)
  have HG := Lib.hid (fun W h hr => splitN_any S C L H A np cp ps W h hn (by unfold maxLen; omega) hr)
  have hV0 := Lib.hid hV
  have hS0 := Lib.hid hS
  have hr0 := Lib.hid hr
  have hbs := hV.lt
  obtain ⟨i0, hi, hz0, hz1, hz2⟩ := info_parts infoIn
  obtain ⟨j0, hj, hy0, hy1, hy2⟩ := infoSp_parts
  have hlen : Hid ((splitA C L H ps).1.length ≤ 64) := Lib.hid (by rw [split_eq]; exact splitB_len C L H ps)
  generalize splitA C L H ps = G at *
  obtain ⟨gs, er⟩ := G
  simp only at hlen
  obtain ⟨R, hR⟩ : ∃ R, hbF V (gs, er) ps = R := ⟨_, rfl⟩
  rw [hR]
  have hR' := Lib.hid hR
  obtain ⟨A1, A2, A3, n1, c1, n2, c2, n3, c3, rfl, _⟩ := hS.ex
  have hb0 := (Below.refl w.heap.size w).alloc (Nat.le_refl _) (.cells #[.slice A1 n1 c1, .slice A2 n2 c2, .slice A3 n3 c3] 94)
  have k0 := Blk.new w 94 #[.slice A1 n1 c1, .slice A2 n2 c2, .slice A3 n3 c3]
  have V0 := hV0.out.call hb0
  clear hS hR hV hK hr
  go_enter Tryz.func46, Tryz.ntmps46
  go_upto_region 1 with fail
  generalize w.alloc _ = w0 at *
  go_wp2_with fail
  refine (HC.out _ V0).mono ?_
  rintro e w1 ⟨⟨cs, hcs, rfl⟩, hb1⟩
  have B1 := hb0.trans (hb1.mono hb0.size)
  have k1 := k0.call hb1
  obtain ⟨q, hq⟩ : ∃ q, w1.heap.size = q := ⟨_, rfl⟩
  have hsz := hcs.size
  have kz := Blk.new w1 163 #[.int .i64 0, .int .i64 0, .int .i64 0, .int .i64 0, .int .i64 0]
  rw [hq] at kz
  have ht : (w1.alloc (.cells #[.int .i64 0, .int .i64 0, .int .i64 0, .int .i64 0, .int .i64 0] 163)).there q 0 cs.size := by rw [hsz]; exact z_there kz 0 5 (by simp)
  have hF2 := Far.puts (T := fun k => k = q) rfl cs.toList 0 w1 _ ((Far.refl _ w1).alloc (.cells #[.int .i64 0, .int .i64 0, .int .i64 0, .int .i64 0, .int .i64 0] 163))
  have hone := Go.all_oneCell_toArray (hcs.one)
  rw [Array.toArray_toList] at hone
  have hinf : (Tryz.prog.info? 163).map (·.size) = some cs.size := by rw [hsz]; exact infoVc
  clear kz HC
  go_upto_region 2 with (refine wpList_store_mid rfl 163 (.tmp 9) (.tmp 21) rfl q 0 cs rfl rfl ht hinf hone ?_)
  generalize World.setCells _ q 0 _ = w2 at *
  have hb2 := hF2.below (n := w1.heap.size) (Nat.le_refl _) (fun k hk e => by omega)
  have B2 := B1.trans (hb2.mono B1.size)
  have k2 := k1.call hb2
  have c2 := k2.cell
  have S2 := hS0.out.on B2
  have r2 := hr0.out.on B2
  clear hF2 ht hone hinf hcs hsz hb0 hb1 hb2 k0 k1
  go_wp2_with fail
  refine (HG.out _ S2 r2).mono ?_
  rintro e w3 ⟨Ag, cg, rfl, hrg, hfr, hb3⟩
  have B3 := B2.trans (hb3.mono B2.size)
  have V3 := Lib.hid (hV0.out.call B3)
  have r3 := Lib.hid (hr0.out.on B3)
  simp only at hrg
  unfold hbF at hR'
  by_cases h0 : er = 0
  · subst h0
    have hR2 : Hid ((if (spF gs V).2.1 ≠ 0 then ((spF gs V).1, 0, (spF gs V).2) else ((spF gs V).1, dcF ps (spF gs V).2.2)) = R) := Lib.hid (by have := hR'.out; rwa [if_neg (by simp)] at this)
    obtain ⟨n, hng⟩ : ∃ n, gs.length = n := ⟨_, rfl⟩
    have hbB : b < w2.heap.size := by have := B2.size; omega
    simp only [hng] at hlen ⊢
    have hb3s := Lib.hid hb3.size
    have hB3' := Lib.hid B3
    have hn' := Lib.hid hn
    clear HG S2 c2 k2 hR' B1 hb3 hS0 r2 V0 hn hr0 B2
    go_wp2_with fail
    go_loopw [6, 7, 37] (fun v v7 i wr => ∃ (k : Nat) (U : Vm), k ≤ n ∧ i = .int .i64 k ∧ v7 = .slice none 0 0 ∧ Hid (spF gs V = (k + (spF (gs.drop k) U).1, (spF (gs.drop k) U).2)) ∧ wr.ownsRow w3.heap.size 3 1 v k ((gs.take k).map (Value.int .i64)) ∧ Hid (SysIs wr b U) ∧ Far (fun k => k = b) w3 wr) (fun _ _ i _ => n - (intOf i).toNat)
    case atStart => exact ⟨0, V, by omega, rfl, rfl, Lib.hid (by simp), World.ownsRow_nil _ _ _ _, V3, Far.refl _ _⟩
    case round =>
      clear V3
      obtain ⟨k, U, hk, rfl, rfl, hfl, hrow, hU, hF⟩ := hrel
      have hB3s := hb3s.out
      have hlen' := hlen.out
      by_cases hlt : k < n
      · have hlt' : decide ((k : Int) < (n : Int)) = true := by simpa using hlt
        have hts := take_snocI gs k (by omega)
        have hsn := spF_step (by omega) hfl.out
        obtain ⟨rb, ro, rfl, hrb, c5⟩ := hrg.at_ (k := k) (by omega)
        have hrb2 := hfr rb ro rfl
        have d5 := hF.cell c5 (by show ¬ rb = b; omega)
        generalize gs.getD k 0 = x at *
        have HJ := Lib.hid (vsplit_any b (wrap64 (x * 16)) U wr hU.out)
        have hts' := Lib.hid hts
        have hsn' := Lib.hid hsn
        clear c5 hts hsn hfl
        go_wp2_with fail
        refine HJ.out.mono ?_
        rintro e w5 ⟨rfl, V5, F5⟩
        have V5' := Lib.hid V5
        have hrow5 := ownsRow_far hrow F5 (fun g hg h => by have := (hrow.lt g hg).1; omega)
        have hF5 := hF.trans F5
        have d6 := F5.cell d5 (by show ¬ rb = b; omega)
        generalize splitF U (wrap64 (x * 16)) = J at *
        obtain ⟨je, jV⟩ := J
        simp only at hsn' V5'
        have hsn2 := hsn'.out
        clear HJ hU hrow hF F5 V5 hsn' d5
        by_cases hj : je = 0
        · subst hj
          rw [if_pos rfl] at hsn2
          have hsn3 := Lib.hid hsn2
          clear hsn2
          have kN := Blk.new w5 3 #[.int .i64 x]
          have hbN : Below w5.heap.size w5 (w5.alloc (.cells #[.int .i64 x] 3)) := (Below.refl _ _).alloc (Nat.le_refl _) _
          have hs5 := hF5.size
          go_wp2_with (refine wpList_append_own _ rfl (.tmp 49) (.tmp 51) 47 rfl w3.heap.size 3 i0 (.int .i64 0) 1 8 Tryz.underlying47 hi hz0 hz1 hz2 rfl (by decide) _ k ((gs.take k).map (Value.int .i64)) rfl (hrow5.alloc _) ⟨w5.heap.size, 0, none⟩ 1 1 [.int .i64 x] rfl rfl (news_i kN) ints_one (by unfold maxLen; omega) (by omega) (by simp; omega) ?_; intro v' w7 hown' hgrow _; rw [show (gs.take k).map (Value.int .i64) ++ [Value.int .i64 x] = (gs.take k ++ [x]).map (Value.int .i64) by simp] at hown')
          go_roundw
          case rel =>
            have F7 : Far (fun k => w3.heap.size ≤ k) w5 w7 := (Far.of_below hbN).grown hgrow (fun g hg hlt => (hrow5.lt g hg).1)
            have F37 : Far (fun k => k = b) w3 w7 := hF5.trans' F7 (fun i hi h => by omega)
            have F8 := (Far.of_below hbN).grown hgrow (T := fun k => Value.ownBlock _ = some k) (fun g hg _ => hg)
            exact ⟨k + 1, jV, by omega, by go_num, rfl, hsn3, by rw [hts'.out]; exact hown', Lib.hid (V5'.out.far F8 (fun h => by have := (hrow5.lt b h).1; omega) (fun _ _ _ _ _ _ g _ _ _ hc hg => hc.elim fun cr hcr => own_other hrow5 hg hcr (by decide))), F37⟩
          case measure => simp [intOf]; omega
        · have hj' : (je != 0) = true := by simpa using hj
          rw [if_neg hj] at hsn2
          have hR3 : Hid (R = (k, 0, je, jV)) := Lib.hid (by rw [← hR2.out, hsn2, if_pos hj])
          obtain ⟨A', cap', rfl, hru, _, _, hfr2, _⟩ := own_Rd hrow5
          have FF : Far (fun k => k = b) w w5 := (Far.of_below hB3'.out).trans hF5
          have hB3z := hB3'.out.size
          clear hsn2 hR2 hB3'
          go_wp2_with fail
          (try simp only [Exit.inBlock, Exit.then]); refine bodyPost_ret (results_tmp3 rfl _ _ _) rfl ?_
          rw [hR3.out]
          exact ⟨A', cap', none, 0, rfl, hru, fun g o e => by have := hfr2 g o e; omega, by rw [List.take_zero]; exact RU.nil, fun _ _ h => (by cases h), V5'.out, FF⟩
      · obtain rfl : k = n := by omega
        have hlt' : decide ((k : Int) < (k : Int)) = false := by simp
        have hsA : spF gs V = (k, 0, U) := by
          rw [hfl.out, List.drop_of_length_le (by omega)]
          rfl
        have hR3 : Hid ((k, dcF ps U) = R) := Lib.hid (by rw [← hR2.out, hsA, if_neg (by simp)])
        have hrow' := Lib.hid hrow
        have r4 := Lib.hid (show RU wr wr.heap.size A ps from RU.more (fun j hj => by
          obtain ⟨b', o', e, hb', h1, h2⟩ := r3.out j hj
          have hne := hAb _ _ e (by have := hn'.out; omega)
          exact ⟨b', o', e, hb', hF.cell h1 hne, hF.cell h2 hne⟩) hF.size)
        have hnR := hn'.out
        have FW : Far (fun k => k = b) w wr := (Far.of_below hB3'.out).trans hF
        have hU4 := hU
        have hsz4 := hF.size
        have hB3z := hB3'.out.size
        obtain ⟨A', cap', rfl, hrW, _, _, hfW0, _⟩ := own_Rd hrow
        have hfW : ∀ g o, A' = some ⟨g, o, none⟩ → w.heap.size ≤ g := fun g o e => by have := hfW0 g o e; omega
        have hfW' : ∀ g o, A' = some ⟨g, o, none⟩ → ¬ g = b := fun g o e h => by have := hfW0 g o e; omega
        have hbA : b < wr.heap.size := by omega
        clear hfl hsA hR2 hF hU hrow r3 hrg hfr hb3s hnR hfW0
        obtain ⟨wA, rfl⟩ : ∃ wA, wA = wr := ⟨_, rfl⟩
        go_wp2_with fail
        go_loopw [6, 7, 56] (fun v6 v i w4 => v6 = .slice A' k cap' ∧ ∃ (m : Nat) (T : Vm), m ≤ np ∧ i = .int .i64 m ∧ Hid (dcF ps U = (m + (dcF (ps.drop m) T).1, (dcF (ps.drop m) T).2)) ∧ w4.ownsRow wA.heap.size 115 2 v m (spCells (ps.take m)) ∧ Hid (SysIs w4 b T) ∧ Far (fun k => k = b) wA w4) (fun _ _ i _ => np - (intOf i).toNat)
        case atStart => exact ⟨rfl, 0, U, by omega, rfl, Lib.hid (by simp), World.ownsRow_nil _ _ _ _, hU4, Far.refl _ _⟩
        case round =>
          clear hU4
          obtain ⟨rfl, m, T, hmp, rfl, hfl, hrow2, hT, hF2⟩ := hrel
          have hn2 := hn'.out
          have hs4 := hF2.size
          by_cases hlt2 : m < np
          · have hlt2' : decide ((m : Int) < (np : Int)) = true := by simpa using hlt2
            have hsn := dcF_step (by omega) hfl.out
            obtain ⟨rb, ro, rfl, hrb, c5, c6⟩ := r4.out.at_' (k := m) (by omega)
            have hne := hAb _ _ rfl (by omega)
            have d5 := hF2.cell c5 (by show ¬ rb = b; omega)
            have d6 := hF2.cell c6 (by show ¬ rb = b; omega)
            have hts : Hid (spCells (ps.take (m + 1)) = spCells (ps.take m) ++ [.int .i64 (ps.getD m (0, 0)).1, .int .i64 (ps.getD m (0, 0)).2]) := Lib.hid (by rw [z_take (0, 0) ps (by omega), spCells_snoc])
            generalize ps.getD m (0, 0) = x at *
            obtain ⟨xa, xb⟩ := x
            simp only at d5 d6 hts hsn
            have hsn' := Lib.hid hsn
            have kx := Blk.new wr 115 #[.int .i64 xa, .int .i64 xb]
            have hbx : Below wr.heap.size wr (wr.alloc (.cells #[.int .i64 xa, .int .i64 xb] 115)) := (Below.refl _ _).alloc (Nat.le_refl _) _
            have cx := kx.cell
            obtain ⟨gx, hgx⟩ : ∃ gx, wr.heap.size = gx := ⟨_, rfl⟩
            rw [hgx] at kx cx
            have hbz := hT.out.lt
            clear hsn c5 c6 hfl
            go_upto_region 18 with fail
            have Tx := Lib.hid (hT.out.call hbx)
            have rowx := ownsRow_call hrow2 hbx
            have hFx : Far (fun k => k = b) wA _ := hF2.trans (.of_below hbx)
            generalize wr.alloc _ = w5 at *
            try simp only [hgx]
            have HD := Lib.hid (decommit_any b xa xb T w5 Tx.out)
            clear hbx hT hrow2 hF2 d5 d6
            go_wp2_with fail
            refine HD.out.mono ?_
            rintro e w6 ⟨rfl, V6, F6⟩
            have V6' := Lib.hid V6
            have row6 := ownsRow_far rowx F6 (fun g hg h => by have := (rowx.lt g hg).1; omega)
            have hF6 := hFx.trans F6
            have kx6 := F6.blk kx (by show ¬ gx = b; omega)
            generalize bec T xa xb 3 2 1 = J at *
            obtain ⟨je, jV⟩ := J
            simp only at hsn' V6'
            have hsn2 := hsn'.out
            clear HD Tx rowx hFx F6 V6 hsn' kx cx
            by_cases hj : je = 0
            · subst hj
              rw [if_pos rfl] at hsn2
              have hsn3 := Lib.hid hsn2
              have cx := kx6.cell
              have hs6 := hF6.size
              have kN := Blk.new w6 115 #[.int .i64 xa, .int .i64 xb]
              have hbN : Below w6.heap.size w6 (w6.alloc (.cells #[.int .i64 xa, .int .i64 xb] 115)) := (Below.refl _ _).alloc (Nat.le_refl _) _
              clear hsn2
              go_wp2_with (refine wpList_append_own _ rfl (.tmp 71) (.tmp 73) 22 rfl wA.heap.size 115 j0 (.agg #[.int .i64 0, .int .i64 0]) 2 16 Tryz.underlying22 hj hy0 hy1 hy2 rfl (by decide) _ m (spCells (ps.take m)) rfl (row6.alloc _) ⟨w6.heap.size, 0, none⟩ 1 1 [.int .i64 xa, .int .i64 xb] rfl rfl (news_two kN) news_one2 (by unfold maxLen; omega) (by omega) (by simp; omega) ?_; intro v' w7 hown' hgrow _; rw [← hts.out] at hown')
              go_roundw
              case rel =>
                have F7 : Far (fun k => wA.heap.size ≤ k) w6 w7 := (Far.of_below hbN).grown hgrow (fun g hg hlt => (row6.lt g hg).1)
                have F37 : Far (fun k => k = b) wA w7 := hF6.trans' F7 (fun i hi h => by omega)
                have F8 := (Far.of_below hbN).grown hgrow (T := fun k => Value.ownBlock _ = some k) (fun g hg _ => hg)
                exact ⟨rfl, m + 1, jV, by omega, by go_num, hsn3, hown', Lib.hid (V6'.out.far F8 (fun h => by have := (row6.lt b h).1; have := hbA; omega) (fun _ _ _ _ _ _ g _ _ _ hc hg => hc.elim fun cr hcr => own_other row6 hg hcr (by decide))), F37⟩
              case measure => simp [intOf]; omega
            · have hj' : (je != 0) = true := by simpa using hj
              rw [if_neg hj] at hsn2
              have hR4 : Hid (R = (k, m, je, jV)) := Lib.hid (by rw [← hR3.out, hsn2])
              obtain ⟨A5, cap5, rfl, hru5, _, _, hfr5, _⟩ := own_RU row6 (by rw [List.length_take]; omega)
              have FF := FW.trans hF6
              have hrA := hF6.ri hrW hfW'
              clear hsn2 hR3
              go_wp2_with fail
              (try simp only [Exit.inBlock, Exit.then]); refine bodyPost_ret (results_tmp3 rfl _ _ _) rfl ?_
              rw [hR4.out]
              exact ⟨A', cap', A5, cap5, rfl, RI.more hrA hF6.size, hfW, hru5, fun g o e => by have := hfr5 g o e; omega, V6'.out, FF⟩
          · obtain rfl : m = np := by omega
            have hlt2' : decide ((m : Int) < (m : Int)) = false := by simp
            have hsA2 : dcF ps U = (m, 0, T) := by
              rw [hfl.out, List.drop_of_length_le (by omega)]
              rfl
            have hR4 : Hid (R = (k, m, 0, T)) := Lib.hid (by rw [← hR3.out, hsA2])
            obtain ⟨A5, cap5, rfl, hru5, _, _, hfr5, _⟩ := own_RU hrow2 (by rw [List.length_take]; omega)
            have FF := FW.trans hF2
            have hrA := hF2.ri hrW hfW'
            clear hR3 hsA2 hfl
            go_wp2_with fail
            (try simp only [Exit.inBlock, Exit.then]); refine bodyPost_ret (results_tmp3 rfl _ _ _) rfl ?_
            rw [hR4.out]
            exact ⟨A', cap', A5, cap5, rfl, RI.more hrA hF2.size, hfW, hru5, fun g o e => by have := hfr5 g o e; omega, hT.out, FF⟩
  · have h0' : (er != 0) = true := by simpa using h0
    have hR2 := hR'.out
    rw [if_pos h0] at hR2
    subst hR2
    clear HG S2 c2 k2 hR' B1
    go_wp2_with fail
    (try simp only [Exit.inBlock, Exit.then]); refine bodyPost_ret (results_tmp3 rfl _ _ _) rfl ?_
    exact ⟨none, 0, none, 0, rfl, by rw [List.take_zero]; exact RI.nil, fun _ _ h => (by cases h), by rw [List.take_zero]; exact RU.nil, fun _ _ h => (by cases h), V3.out, .of_below B3⟩
end Go.Proofs.YtpabnbhbcphfiaaGreat
