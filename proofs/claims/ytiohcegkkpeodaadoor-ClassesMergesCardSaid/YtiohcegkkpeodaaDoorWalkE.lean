/- Walks: the statement of Best that makes two slices, whose order of evaluation is open. -/
import Derived.Test.YtiohcegkkpeodaaDoorWalkD
namespace Go.Proofs.YtiohcegkkpeodaaDoor
open Go Go.Proofs Go.RowKit Go.Pol
/-- the slots that the two makes of Best write -/
def bput (a : Act) (v48 v49 v50 v51 v52 v53 v9 v10 : Value) : Act :=
  (((((((a.put (some 48) v48).put (some 49) v49).put (some 50) v50).put (some 51) v51).put (some 52) v52).put (some 53) v53).put (some 9) v9).put (some 10) v10
theorem bput_self (a : Act) (hsz : a.tmps.size = 256) : bput a (a.eval (.tmp 48)) (a.eval (.tmp 49)) (a.eval (.tmp 50)) (a.eval (.tmp 51)) (a.eval (.tmp 52)) (a.eval (.tmp 53)) (a.eval (.tmp 9)) (a.eval (.tmp 10)) = a := by
  have h : ∀ (b : Act) (t : Nat), b.tmps.size = 256 → t < 256 → b.put (some t) (b.eval (.tmp t)) = b := fun b t hb ht => by
    have : b.tmps.setIfInBounds t (b.eval (.tmp t)) = b.tmps := by
      apply Array.ext_getElem?
      intro i
      rw [Array.getElem?_setIfInBounds]
      split
      · rename_i e; subst e
        simp [Act.eval, hb, ht]
      · rfl
    simp only [Act.put, this]
  have hp : ∀ (b : Act) (t u : Nat) (x : Value), t ≠ u → (b.put (some t) x).eval (.tmp u) = b.eval (.tmp u) := fun b t u x hne => Act.eval_put (fun d hd he => by cases hd; cases he; exact hne rfl)
  unfold bput
  rw [h a 48 hsz (by omega), h a 49 hsz (by omega), h a 50 hsz (by omega), h a 51 hsz (by omega), h a 52 hsz (by omega), h a 53 hsz (by omega), h a 9 hsz (by omega), h a 10 hsz (by omega)]
theorem wp_val {P : Program} {o : Oper} {a : Act} {w w' : World} {v : Value} {K : Act → World → Prop} {Q : Exit → Act → World → Prop} (h : (execOp a.eval o).run P w = .ok (.value v) w') (hK : K (a.put o.dst v) w') : o.wp P a w K Q := by
  unfold Oper.wp; rw [h]; exact hK
theorem wp_skip {P : Program} {o : Oper} {a : Act} {w w' : World} {K : Act → World → Prop} {Q : Exit → Act → World → Prop} (hd : o.dst = none) (h : (execOp a.eval o).run P w = .ok .skip w') (hK : K a w') : o.wp P a w K Q := by
  unfold Oper.wp; rw [h]; show K (a.put o.dst undef) w'; rw [hd]; exact hK
theorem put_put (a : Act) (t : Nat) (x y : Value) : (a.put (some t) x).put (some t) y = a.put (some t) y := by simp [Act.put]
theorem put_swap (a : Act) (t u : Nat) (x y : Value) (h : t ≠ u) : (a.put (some t) x).put (some u) y = (a.put (some u) y).put (some t) x := Act.put_comm a x y (fun d hd he => by cases hd; cases he; exact h rfl)
theorem bput_48 (a : Act) (v48 v49 v50 v51 v52 v53 v9 v10 x : Value) : (bput a v48 v49 v50 v51 v52 v53 v9 v10).put (some 48) x = bput a x v49 v50 v51 v52 v53 v9 v10 := by
  unfold bput
  rw [put_swap _ 10 48 _ _ (by omega), put_swap _ 9 48 _ _ (by omega), put_swap _ 53 48 _ _ (by omega), put_swap _ 52 48 _ _ (by omega), put_swap _ 51 48 _ _ (by omega), put_swap _ 50 48 _ _ (by omega), put_swap _ 49 48 _ _ (by omega), put_put]
theorem bput_49 (a : Act) (v48 v49 v50 v51 v52 v53 v9 v10 x : Value) : (bput a v48 v49 v50 v51 v52 v53 v9 v10).put (some 49) x = bput a v48 x v50 v51 v52 v53 v9 v10 := by
  unfold bput
  rw [put_swap _ 10 49 _ _ (by omega), put_swap _ 9 49 _ _ (by omega), put_swap _ 53 49 _ _ (by omega), put_swap _ 52 49 _ _ (by omega), put_swap _ 51 49 _ _ (by omega), put_swap _ 50 49 _ _ (by omega), put_put]
theorem bput_50 (a : Act) (v48 v49 v50 v51 v52 v53 v9 v10 x : Value) : (bput a v48 v49 v50 v51 v52 v53 v9 v10).put (some 50) x = bput a v48 v49 x v51 v52 v53 v9 v10 := by
  unfold bput
  rw [put_swap _ 10 50 _ _ (by omega), put_swap _ 9 50 _ _ (by omega), put_swap _ 53 50 _ _ (by omega), put_swap _ 52 50 _ _ (by omega), put_swap _ 51 50 _ _ (by omega), put_put]
theorem bput_51 (a : Act) (v48 v49 v50 v51 v52 v53 v9 v10 x : Value) : (bput a v48 v49 v50 v51 v52 v53 v9 v10).put (some 51) x = bput a v48 v49 v50 x v52 v53 v9 v10 := by
  unfold bput
  rw [put_swap _ 10 51 _ _ (by omega), put_swap _ 9 51 _ _ (by omega), put_swap _ 53 51 _ _ (by omega), put_swap _ 52 51 _ _ (by omega), put_put]
theorem bput_52 (a : Act) (v48 v49 v50 v51 v52 v53 v9 v10 x : Value) : (bput a v48 v49 v50 v51 v52 v53 v9 v10).put (some 52) x = bput a v48 v49 v50 v51 x v53 v9 v10 := by
  unfold bput
  rw [put_swap _ 10 52 _ _ (by omega), put_swap _ 9 52 _ _ (by omega), put_swap _ 53 52 _ _ (by omega), put_put]
theorem bput_53 (a : Act) (v48 v49 v50 v51 v52 v53 v9 v10 x : Value) : (bput a v48 v49 v50 v51 v52 v53 v9 v10).put (some 53) x = bput a v48 v49 v50 v51 v52 x v9 v10 := by
  unfold bput
  rw [put_swap _ 10 53 _ _ (by omega), put_swap _ 9 53 _ _ (by omega), put_put]
theorem bput_9 (a : Act) (v48 v49 v50 v51 v52 v53 v9 v10 x : Value) : (bput a v48 v49 v50 v51 v52 v53 v9 v10).put (some 9) x = bput a v48 v49 v50 v51 v52 v53 x v10 := by
  unfold bput
  rw [put_swap _ 10 9 _ _ (by omega), put_put]
theorem bput_10 (a : Act) (v48 v49 v50 v51 v52 v53 v9 v10 x : Value) : (bput a v48 v49 v50 v51 v52 v53 v9 v10).put (some 10) x = bput a v48 v49 v50 v51 v52 v53 v9 x := by
  unfold bput
  rw [put_put]
section
variable (a : Act) (hsz : a.tmps.size = 256) (v48 v49 v50 v51 v52 v53 v9 v10 : Value)
include hsz
theorem bev_48 : (bput a v48 v49 v50 v51 v52 v53 v9 v10).eval (.tmp 48) = v48 := by simp [bput, Act.eval, Act.put, hsz]
theorem bev_49 : (bput a v48 v49 v50 v51 v52 v53 v9 v10).eval (.tmp 49) = v49 := by simp [bput, Act.eval, Act.put, hsz]
theorem bev_50 : (bput a v48 v49 v50 v51 v52 v53 v9 v10).eval (.tmp 50) = v50 := by simp [bput, Act.eval, Act.put, hsz]
theorem bev_51 : (bput a v48 v49 v50 v51 v52 v53 v9 v10).eval (.tmp 51) = v51 := by simp [bput, Act.eval, Act.put, hsz]
theorem bev_52 : (bput a v48 v49 v50 v51 v52 v53 v9 v10).eval (.tmp 52) = v52 := by simp [bput, Act.eval, Act.put, hsz]
theorem bev_53 : (bput a v48 v49 v50 v51 v52 v53 v9 v10).eval (.tmp 53) = v53 := by simp [bput, Act.eval, Act.put, hsz]
theorem bev_9 : (bput a v48 v49 v50 v51 v52 v53 v9 v10).eval (.tmp 9) = v9 := by simp [bput, Act.eval, Act.put, hsz]
theorem bev_10 : (bput a v48 v49 v50 v51 v52 v53 v9 v10).eval (.tmp 10) = v10 := by simp [bput, Act.eval, Act.put, hsz]
theorem bev_8 : (bput a v48 v49 v50 v51 v52 v53 v9 v10).eval (.tmp 8) = a.eval (.tmp 8) := by simp [bput, Act.eval, Act.put, hsz]
end
def MakesInv (a0 : Act) (w0 : World) (n : Nat) (D : Nat → Bool) (a : Act) (w : World) : Prop :=
  ∃ (v48 v49 v50 v51 v52 v53 v9 v10 : Value) (go gb bo bb : Nat), a = bput a0 v48 v49 v50 v51 v52 v53 v9 v10 ∧ Below w0.heap.size w0 w ∧
    (D 0 = true → v48 = .int .i64 n) ∧ (D 1 = true → v49 = .int .i64 ((n + 1 : Nat) : Int)) ∧ (D 3 = true → v51 = .int .i64 n) ∧ (D 4 = true → v52 = .int .i64 ((n + 1 : Nat) : Int)) ∧
    (D 2 = true → v50 = .slice (some ⟨go, 0, none⟩) (n + 1) (n + 1) ∧ w0.heap.size ≤ go ∧ Blk w go 2 (Array.replicate (n + 1) (.int .i64 0))) ∧
    (D 5 = true → v53 = .slice (some ⟨gb, 0, none⟩) (n + 1) (n + 1) ∧ w0.heap.size ≤ gb ∧ Blk w gb 2 (Array.replicate (n + 1) (.int .i64 0))) ∧
    (D 6 = true → v9 = .pointer (some ⟨bo, 0, none⟩) ∧ w0.heap.size ≤ bo ∧ Blk w bo 46 #[if D 8 = true then v50 else .slice none 0 0]) ∧
    (D 7 = true → v10 = .pointer (some ⟨bb, 0, none⟩) ∧ w0.heap.size ≤ bb ∧ Blk w bb 46 #[if D 9 = true then v53 else .slice none 0 0]) ∧
    (D 2 = true → D 5 = true → go ≠ gb) ∧ (D 6 = true → D 7 = true → bo ≠ bb) ∧ (D 8 = true → D 2 = true ∧ D 6 = true) ∧ (D 9 = true → D 5 = true ∧ D 7 = true)
theorem step_plain {P : Program} {ops : Array Oper} {o : Oper} {a : Act} {w : World} {K : Act → World → Prop} {Q : Exit → Act → World → Prop} {E : Prop} (hg : o.guard = none) (h : o.wp P a w K Q) :
    if Region.wanted o (yielded ops a.tmps) = true then o.wp P a w K Q else E := by
  rw [if_pos (by simp [Region.wanted, hg])]; exact h
/-- the operations of a region of a body, by its number -/
def regOps (n : Nat) : Code → Option (Array Oper)
  | .region id ops _ => if id = n then some ops else none
  | .seq a b => match regOps n a with
    | some l => some l
    | none => regOps n b
  | .block _ c => regOps n c
  | .loop c => regOps n c
  | .scope c => regOps n c
  | .cond _ a b => match regOps n a with
    | some l => some l
    | none => regOps n b
  | _ => none
noncomputable def bestOps : Array Oper := (Tryd.f7.body.bind (regOps 10)).getD #[]
attribute [local irreducible] Oper.wp in
set_option maxHeartbeats 800000 in
theorem best_makes {Q : Exit → Act → World → Prop} (a0 : Act) (w0 : World) (n : Nat) (hn : n ≤ 1000) (h8 : a0.eval (.tmp 8) = .int .i64 n) (hsz : a0.tmps.size = 256)
    (hQ : ∀ (bo bb go gb : Nat) (w' : World), w0.heap.size ≤ bo → w0.heap.size ≤ bb → w0.heap.size ≤ go → w0.heap.size ≤ gb → bo ≠ bb → go ≠ gb → Blk w' bo 46 #[.slice (some ⟨go, 0, none⟩) (n + 1) (n + 1)] → Blk w' bb 46 #[.slice (some ⟨gb, 0, none⟩) (n + 1) (n + 1)] →
      Blk w' go 2 (Array.replicate (n + 1) (.int .i64 0)) → Blk w' gb 2 (Array.replicate (n + 1) (.int .i64 0)) → Below w0.heap.size w0 w' →
      Q .normal (bput a0 (.int .i64 n) (.int .i64 ((n + 1 : Nat) : Int)) (.slice (some ⟨go, 0, none⟩) (n + 1) (n + 1)) (.int .i64 n) (.int .i64 ((n + 1 : Nat) : Int)) (.slice (some ⟨gb, 0, none⟩) (n + 1) (n + 1)) (.pointer (some ⟨bo, 0, none⟩)) (.pointer (some ⟨bb, 0, none⟩))) w') :
    (Code.region 10 bestOps true).wp Tryd.prog Q a0 w0 := by
  conv => arg 2; arg 2; whnf
  have hmk : ∀ W : World, (Instr.makeSlice 46 (.int .i64 ((n + 1 : Nat) : Int)) (.int .i64 ((n + 1 : Nat) : Int))).run Tryd.prog W = .ok (.slice (some ⟨W.heap.size, 0, none⟩) (n + 1) (n + 1)) (W.alloc (.cells (Array.replicate (n + 1) (.int .i64 0)) 2)) := fun W => by
    obtain ⟨i0, hi0, hz0, hz1, hz2⟩ := info_parts info_i64
    exact run_makeI (P := Tryd.prog) 46 2 i0 (.int .i64 0) Tryd.underlying46 hi0 hz0 rfl hz1 .i64 .i64 (n + 1) (by rw [hz2]; omega) (by omega) W
  have hw : IntKind.i64.wrap ((n : Int) + 1) = ((n + 1 : Nat) : Int) := by rw [IntWalk.i64_in _ (by omega)]; omega
  refine region_inv (MakesInv a0 w0 n) (by kernel_rfl) (by simp [edgesDown, Region.binds]) ?ext ?start ?steps ?fin
  case ext =>
    intro D D' a w h hI
    have e : ∀ i, i < 10 → D i = D' i := h
    have : MakesInv a0 w0 n D a w = MakesInv a0 w0 n D' a w := by
      unfold MakesInv
      simp only [e 0 (by omega), e 1 (by omega), e 2 (by omega), e 3 (by omega), e 4 (by omega), e 5 (by omega), e 6 (by omega), e 7 (by omega), e 8 (by omega), e 9 (by omega)]
    exact this ▸ hI
  case start =>
    intro D h
    have e : ∀ i, i < 10 → D i = false := h
    refine ⟨_, _, _, _, _, _, _, _, 0, 0, 0, 0, (bput_self a0 hsz).symm, (Below.refl _ w0).drew, ?_⟩
    simp [e 0 (by omega), e 1 (by omega), e 2 (by omega), e 3 (by omega), e 4 (by omega), e 5 (by omega), e 6 (by omega), e 7 (by omega), e 8 (by omega), e 9 (by omega)]
  case fin =>
    rintro a w ⟨v48, v49, v50, v51, v52, v53, v9, v10, go, gb, bo, bb, rfl, hb, h0, h1, h3, h4, h2, h5, h6, h7, hg, hbb, h82, h95⟩
    obtain ⟨rfl, g1, g2⟩ := h2 rfl
    obtain ⟨rfl, g3, g4⟩ := h5 rfl
    obtain ⟨rfl, g5, g6⟩ := h6 rfl
    obtain ⟨rfl, g7, g8⟩ := h7 rfl
    obtain rfl := h0 rfl
    obtain rfl := h1 rfl
    obtain rfl := h3 rfl
    obtain rfl := h4 rfl
    simp only [if_true] at g6 g8
    exact hQ bo bb go gb w g5 g7 g1 g3 (hbb rfl rfl) (hg rfl rfl) g6 g8 g2 g4 hb
  case steps =>
    refine ⟨?_, ?_, ?_, ?_, ?_, ?_, ?_, ?_, ?_, ?_, trivial⟩
    all_goals (rintro D a w ⟨v48, v49, v50, v51, v52, v53, v9, v10, go, gb, bo, bb, rfl, hb, h0, h1, h3, h4, h2, h5, h6, h7, hg, hbb, h82, h95⟩ hk he)
    all_goals (refine step_plain rfl ?_)
    · refine wp_val (v := .int .i64 n) (w' := w) (by simp only [execOp, bev_8 _ hsz, h8]; simp [go_sem]) ?_
      show MakesInv a0 w0 n _ ((bput a0 v48 v49 v50 v51 v52 v53 v9 v10).put (some 48) (.int .i64 n)) w; rw [bput_48]
      refine ⟨_, _, _, _, _, _, _, _, go, gb, bo, bb, rfl, hb, ?_⟩
      simp only [Nat.reduceBEq, Nat.reduceAdd, Bool.true_or, Bool.false_or, forall_const, if_true]
      exact ⟨trivial, h1, h3, h4, h2, h5, h6, h7, hg, hbb, h82, h95⟩
    · have e := h0 (he ⟨0, .data⟩ (by simp) rfl)
      refine wp_val (v := .int .i64 ((n + 1 : Nat) : Int)) (w' := w) (by simp only [execOp, bev_48 _ hsz, e]; simp [go_sem, hw]) ?_
      show MakesInv a0 w0 n _ ((bput a0 v48 v49 v50 v51 v52 v53 v9 v10).put (some 49) (.int .i64 ((n + 1 : Nat) : Int))) w; rw [bput_49]
      refine ⟨_, _, _, _, _, _, _, _, go, gb, bo, bb, rfl, hb, ?_⟩
      simp only [Nat.reduceBEq, Nat.reduceAdd, Bool.true_or, Bool.false_or, forall_const, if_true]
      exact ⟨h0, trivial, h3, h4, h2, h5, h6, h7, hg, hbb, h82, h95⟩
    · have e := h1 (he ⟨1, .data⟩ (by simp) rfl)
      refine wp_val (v := .slice (some ⟨w.heap.size, 0, none⟩) (n + 1) (n + 1)) (w' := w.alloc (.cells (Array.replicate (n + 1) (Value.int .i64 0)) 2)) (by simp only [execOp, bev_49 _ hsz, e, Sem.run_bind, hmk]; simp [go_sem]) ?_
      show MakesInv a0 w0 n _ ((bput a0 v48 v49 v50 v51 v52 v53 v9 v10).put (some 50) (.slice (some ⟨w.heap.size, 0, none⟩) (n + 1) (n + 1))) _; rw [bput_50]
      refine ⟨_, _, _, _, _, _, _, _, w.heap.size, gb, bo, bb, rfl, hb.alloc hb.size _, ?_⟩
      simp only [Nat.reduceBEq, Nat.reduceAdd, Bool.true_or, Bool.false_or, forall_const, if_true]
      have d8 : D 8 = false := by cases h : D 8 with | false => rfl | true => rw [(h82 h).1] at hk; cases hk
      simp only [d8] at h6 ⊢
      refine ⟨h0, h1, h3, h4, ⟨trivial, hb.size, Blk.new _ _ _⟩, fun d => ?_, fun d => ?_, fun d => ?_, fun d => ?_, hbb, (fun d => by cases d), h95⟩
      · obtain ⟨x1, x2, x3⟩ := h5 d; exact ⟨x1, x2, x3.alloc _⟩
      · obtain ⟨x1, x2, x3⟩ := h6 d; exact ⟨x1, x2, x3.alloc _⟩
      · obtain ⟨x1, x2, x3⟩ := h7 d; exact ⟨x1, x2, x3.alloc _⟩
      · obtain ⟨_, _, x3⟩ := h5 d; exact Nat.ne_of_gt x3.lt
    · refine wp_val (v := .int .i64 n) (w' := w) (by simp only [execOp, bev_8 _ hsz, h8]; simp [go_sem]) ?_
      show MakesInv a0 w0 n _ ((bput a0 v48 v49 v50 v51 v52 v53 v9 v10).put (some 51) (.int .i64 n)) w; rw [bput_51]
      refine ⟨_, _, _, _, _, _, _, _, go, gb, bo, bb, rfl, hb, ?_⟩
      simp only [Nat.reduceBEq, Nat.reduceAdd, Bool.true_or, Bool.false_or, forall_const, if_true]
      exact ⟨h0, h1, trivial, h4, h2, h5, h6, h7, hg, hbb, h82, h95⟩
    · have e := h3 (he ⟨3, .data⟩ (by simp) rfl)
      refine wp_val (v := .int .i64 ((n + 1 : Nat) : Int)) (w' := w) (by simp only [execOp, bev_51 _ hsz, e]; simp [go_sem, hw]) ?_
      show MakesInv a0 w0 n _ ((bput a0 v48 v49 v50 v51 v52 v53 v9 v10).put (some 52) (.int .i64 ((n + 1 : Nat) : Int))) w; rw [bput_52]
      refine ⟨_, _, _, _, _, _, _, _, go, gb, bo, bb, rfl, hb, ?_⟩
      simp only [Nat.reduceBEq, Nat.reduceAdd, Bool.true_or, Bool.false_or, forall_const, if_true]
      exact ⟨h0, h1, h3, trivial, h2, h5, h6, h7, hg, hbb, h82, h95⟩
    · have e := h4 (he ⟨4, .data⟩ (by simp) rfl)
      refine wp_val (v := .slice (some ⟨w.heap.size, 0, none⟩) (n + 1) (n + 1)) (w' := w.alloc (.cells (Array.replicate (n + 1) (Value.int .i64 0)) 2)) (by simp only [execOp, bev_52 _ hsz, e, Sem.run_bind, hmk]; simp [go_sem]) ?_
      show MakesInv a0 w0 n _ ((bput a0 v48 v49 v50 v51 v52 v53 v9 v10).put (some 53) (.slice (some ⟨w.heap.size, 0, none⟩) (n + 1) (n + 1))) _; rw [bput_53]
      refine ⟨_, _, _, _, _, _, _, _, go, w.heap.size, bo, bb, rfl, hb.alloc hb.size _, ?_⟩
      simp only [Nat.reduceBEq, Nat.reduceAdd, Bool.true_or, Bool.false_or, forall_const, if_true]
      have d9 : D 9 = false := by cases h : D 9 with | false => rfl | true => rw [(h95 h).1] at hk; cases hk
      simp only [d9] at h7 ⊢
      refine ⟨h0, h1, h3, h4, fun d => ?_, ⟨trivial, hb.size, Blk.new _ _ _⟩, fun d => ?_, fun d => ?_, fun d => ?_, hbb, h82, (fun d => by cases d)⟩
      · obtain ⟨x1, x2, x3⟩ := h2 d; exact ⟨x1, x2, x3.alloc _⟩
      · obtain ⟨x1, x2, x3⟩ := h6 d; exact ⟨x1, x2, x3.alloc _⟩
      · obtain ⟨x1, x2, x3⟩ := h7 d; exact ⟨x1, x2, x3.alloc _⟩
      · obtain ⟨_, _, x3⟩ := h2 d; exact Nat.ne_of_lt x3.lt
    · refine wp_val (v := .pointer (some ⟨w.heap.size, 0, none⟩)) (w' := w.alloc (.cells #[.slice none 0 0] 46)) (by simp [execOp, go_sem]) ?_
      show MakesInv a0 w0 n _ ((bput a0 v48 v49 v50 v51 v52 v53 v9 v10).put (some 9) (.pointer (some ⟨w.heap.size, 0, none⟩))) _; rw [bput_9]
      refine ⟨_, _, _, _, _, _, _, _, go, gb, w.heap.size, bb, rfl, hb.alloc hb.size _, ?_⟩
      simp only [Nat.reduceBEq, Nat.reduceAdd, Bool.true_or, Bool.false_or, forall_const, if_true]
      have d8 : D 8 = false := by cases h : D 8 with | false => rfl | true => rw [(h82 h).2] at hk; cases hk
      simp only [d8]
      refine ⟨h0, h1, h3, h4, fun d => ?_, fun d => ?_, ⟨trivial, hb.size, Blk.new _ _ _⟩, fun d => ?_, hg, fun d => ?_, (fun d => by cases d), h95⟩
      · obtain ⟨x1, x2, x3⟩ := h2 d; exact ⟨x1, x2, x3.alloc _⟩
      · obtain ⟨x1, x2, x3⟩ := h5 d; exact ⟨x1, x2, x3.alloc _⟩
      · obtain ⟨x1, x2, x3⟩ := h7 d; exact ⟨x1, x2, x3.alloc _⟩
      · obtain ⟨_, _, x3⟩ := h7 d; exact Nat.ne_of_gt x3.lt
    · refine wp_val (v := .pointer (some ⟨w.heap.size, 0, none⟩)) (w' := w.alloc (.cells #[.slice none 0 0] 46)) (by simp [execOp, go_sem]) ?_
      show MakesInv a0 w0 n _ ((bput a0 v48 v49 v50 v51 v52 v53 v9 v10).put (some 10) (.pointer (some ⟨w.heap.size, 0, none⟩))) _; rw [bput_10]
      refine ⟨_, _, _, _, _, _, _, _, go, gb, bo, w.heap.size, rfl, hb.alloc hb.size _, ?_⟩
      simp only [Nat.reduceBEq, Nat.reduceAdd, Bool.true_or, Bool.false_or, forall_const, if_true]
      have d9 : D 9 = false := by cases h : D 9 with | false => rfl | true => rw [(h95 h).2] at hk; cases hk
      simp only [d9]
      refine ⟨h0, h1, h3, h4, fun d => ?_, fun d => ?_, fun d => ?_, ⟨trivial, hb.size, Blk.new _ _ _⟩, hg, fun d => ?_, h82, (fun d => by cases d)⟩
      · obtain ⟨x1, x2, x3⟩ := h2 d; exact ⟨x1, x2, x3.alloc _⟩
      · obtain ⟨x1, x2, x3⟩ := h5 d; exact ⟨x1, x2, x3.alloc _⟩
      · obtain ⟨x1, x2, x3⟩ := h6 d; exact ⟨x1, x2, x3.alloc _⟩
      · obtain ⟨_, _, x3⟩ := h6 d; exact Nat.ne_of_lt x3.lt
    · have d2 := he ⟨2, .data⟩ (by simp) rfl
      have d6 := he ⟨6, .data⟩ (by simp) rfl
      obtain ⟨rfl, x1, x2⟩ := h2 d2
      obtain ⟨rfl, y1, y2⟩ := h6 d6
      have c1 := y2.cell
      have f1 := y2.frozen
      refine wp_skip rfl (w' := w.setCell ⟨bo, 0, none⟩ (.slice (some ⟨go, 0, none⟩) (n + 1) (n + 1))) (by simp only [execOp, bev_9 _ hsz, bev_50 _ hsz]; simp [go_sem, c1, f1]) ?_
      have hne : ∀ g, Blk w g 2 (Array.replicate (n + 1) (Value.int .i64 0)) → g ≠ bo := fun g hg e => by
        subst e; unfold Blk at hg y2; rw [hg] at y2; injection y2 with y2; injection y2 with _ y2; cases y2
      refine ⟨_, _, _, _, _, _, _, _, go, gb, bo, bb, rfl, hb.setCell y1 _, ?_⟩
      simp only [Nat.reduceBEq, Nat.reduceAdd, Bool.true_or, Bool.false_or, forall_const, if_true]
      refine ⟨h0, h1, h3, h4, fun d => ⟨trivial, x1, x2.far (p := ⟨bo, 0, none⟩) (hne _ x2) _⟩, fun d => ?_, fun d => ⟨trivial, y1, ?_⟩, fun d => ?_, hg, hbb, ⟨d2, d6⟩, h95⟩
      · obtain ⟨x1, x2, x3⟩ := h5 d; exact ⟨x1, x2, x3.far (p := ⟨bo, 0, none⟩) (hne _ x3) _⟩
      · exact y2.set_ 0 _
      · obtain ⟨x1, x2, x3⟩ := h7 d; exact ⟨x1, x2, x3.far (p := ⟨bo, 0, none⟩) (fun e => hbb d6 d e.symm) _⟩
    · have d5 := he ⟨5, .data⟩ (by simp) rfl
      have d7 := he ⟨7, .data⟩ (by simp) rfl
      obtain ⟨rfl, x1, x2⟩ := h5 d5
      obtain ⟨rfl, y1, y2⟩ := h7 d7
      have c1 := y2.cell
      have f1 := y2.frozen
      refine wp_skip rfl (w' := w.setCell ⟨bb, 0, none⟩ (.slice (some ⟨gb, 0, none⟩) (n + 1) (n + 1))) (by simp only [execOp, bev_10 _ hsz, bev_53 _ hsz]; simp [go_sem, c1, f1]) ?_
      have hne : ∀ g, Blk w g 2 (Array.replicate (n + 1) (Value.int .i64 0)) → g ≠ bb := fun g hg e => by
        subst e; unfold Blk at hg y2; rw [hg] at y2; injection y2 with y2; injection y2 with _ y2; cases y2
      refine ⟨_, _, _, _, _, _, _, _, go, gb, bo, bb, rfl, hb.setCell y1 _, ?_⟩
      simp only [Nat.reduceBEq, Nat.reduceAdd, Bool.true_or, Bool.false_or, forall_const, if_true]
      refine ⟨h0, h1, h3, h4, fun d => ?_, fun d => ⟨trivial, x1, x2.far (p := ⟨bb, 0, none⟩) (hne _ x2) _⟩, fun d => ?_, fun d => ⟨trivial, y1, ?_⟩, hg, hbb, h82, ⟨d5, d7⟩⟩
      · obtain ⟨x1, x2, x3⟩ := h2 d; exact ⟨x1, x2, x3.far (p := ⟨bb, 0, none⟩) (hne _ x3) _⟩
      · obtain ⟨x1, x2, x3⟩ := h6 d; exact ⟨x1, x2, x3.far (p := ⟨bb, 0, none⟩) (fun e => hbb d d7 e) _⟩
      · exact y2.set_ 0 _
end Go.Proofs.YtiohcegkkpeodaaDoor
