/- Merged texts. Walks of law 13's own functions: stated. Plain laws of law 13's system without refusals: what it is, what huge's Join makes of it, and what is said of it afterwards. -/
import Derived.Test.YtefnnfcfigcikaaGreatC8
namespace Go.Pol
open Go Go.Proofs Go.RowKit
/-- the huge groups of a system, as the law sees them -/
def hugesF (V : Vm) : Nat → List Int
  | 0 => []
  | k + 1 => if (V.pg k).huge = true ∧ k % 16 = 0 then hugesF V k ++ [((k / 16 : Nat) : Int)] else hugesF V k
theorem hugesF_len (V : Vm) : ∀ k, (hugesF V k).length ≤ k
  | 0 => Nat.le_refl _
  | k + 1 => by
    have := hugesF_len V k
    unfold hugesF
    split
    · rw [List.length_append, List.length_singleton]; omega
    · omega
def comF (V : Vm) (p : Nat) : Bool := (V.pg p).kind == 2
def comK (V : Vm) (i p : Nat) : Bool := decide (p < i) && comF V p
/-- the live pages that stated takes -/
def liveF (V : Vm) (vs : List Sp) : List Sp := combF 2 (if ofE vs = 0 then setOf vs else []) (setA (comF V))
end Go.Pol
namespace Go.Proofs.YtefnnfcfigcikaaGreat
open Go Go.Proofs Go.RowKit Go.Pol Go.Shelf
attribute [local go_sem] Oper.semAt_some Go.Pol.wide_fn Go.Pol.wide_depth Go.Pol.wide_fn' Go.Pol.wide_depth'

theorem wp_valU {P : Program} {o : Oper} {a : Act} {w w' : World} {v : Value} {K : Act → World → Prop} {Q : Exit → Act → World → Prop} (h : (execOp a.eval o).run P w = .ok (.value v) w') (hK : K (a.put o.dst v) w') : o.wp P a w K Q := by
  unfold Oper.wp; rw [h]; exact hK
theorem wp_skipU {P : Program} {o : Oper} {a : Act} {w w' : World} {K : Act → World → Prop} {Q : Exit → Act → World → Prop} (hd : o.dst = none) (h : (execOp a.eval o).run P w = .ok .skip w') (hK : K a w') : o.wp P a w K Q := by
  unfold Oper.wp; rw [h]; show K (a.put o.dst undef) w'; rw [hd]; exact hK
theorem wp_enterU {P : Program} {o : Oper} {a : Act} {w w1 : World} {f : FuncId} {args : Array Value} {v : Value} {C : World → Prop} {K : Act → World → Prop} {Q : Exit → Act → World → Prop} (h : (execOp a.eval o).run P w = .ok (.enter f args) w1)
    (hC : Calls P f args w1 fun e w' => e = .returned v ∧ C w') (hK : ∀ w', C w' → K (a.put o.dst v) w') : o.wp P a w K Q := by
  unfold Oper.wp; rw [h]
  show Calls P f args w1 _
  refine hC.mono ?_
  rintro e w' ⟨rfl, hw⟩
  exact hK w' hw
theorem step_plainU {P : Program} {ops : Array Oper} {o : Oper} {a : Act} {w : World} {K : Act → World → Prop} {Q : Exit → Act → World → Prop} {E : Prop} (hg : o.guard = none) (h : o.wp P a w K Q) :
    if Region.wanted o (yielded ops a.tmps) = true then o.wp P a w K Q else E := by
  rw [if_pos (by simp [Region.wanted, hg])]; exact h
theorem putU (a : Act) (t : Nat) (x y : Value) : (a.put (some t) x).put (some t) y = a.put (some t) y := by simp [Act.put]
theorem swapU (a : Act) (t u : Nat) (x y : Value) (h : t ≠ u) : (a.put (some t) x).put (some u) y = (a.put (some u) y).put (some t) x := Act.put_comm a x y (fun d hd he => by cases hd; cases he; exact h rfl)
/-- the slots that the last statement of stated writes -/
def sput (a : Act) (v63 v64 v65 v66 v5 : Value) : Act := ((((a.put (some 63) v63).put (some 64) v64).put (some 65) v65).put (some 66) v66).put (some 5) v5
theorem sput_self (a : Act) (hsz : 67 ≤ a.tmps.size) : sput a (a.eval (.tmp 63)) (a.eval (.tmp 64)) (a.eval (.tmp 65)) (a.eval (.tmp 66)) (a.eval (.tmp 5)) = a := by
  have h : ∀ t : Nat, t < 67 → a.put (some t) (a.eval (.tmp t)) = a := fun t ht => by
    have : a.tmps.setIfInBounds t (a.eval (.tmp t)) = a.tmps := by
      apply Array.ext_getElem?
      intro i
      rw [Array.getElem?_setIfInBounds]
      split
      · rename_i e; subst e
        have : t < a.tmps.size := by omega
        simp [Act.eval, this]
      · rfl
    simp only [Act.put, this]
  unfold sput
  rw [h 63 (by omega), h 64 (by omega), h 65 (by omega), h 66 (by omega), h 5 (by omega)]
section
variable (a : Act) (v63 v64 v65 v66 v5 x : Value)
theorem sput_63 : (sput a v63 v64 v65 v66 v5).put (some 63) x = sput a x v64 v65 v66 v5 := by
  unfold sput
  rw [swapU _ 5 63 _ _ (by omega), swapU _ 66 63 _ _ (by omega), swapU _ 65 63 _ _ (by omega), swapU _ 64 63 _ _ (by omega), putU]
theorem sput_64 : (sput a v63 v64 v65 v66 v5).put (some 64) x = sput a v63 x v65 v66 v5 := by
  unfold sput
  rw [swapU _ 5 64 _ _ (by omega), swapU _ 66 64 _ _ (by omega), swapU _ 65 64 _ _ (by omega), putU]
theorem sput_65 : (sput a v63 v64 v65 v66 v5).put (some 65) x = sput a v63 v64 x v66 v5 := by
  unfold sput
  rw [swapU _ 5 65 _ _ (by omega), swapU _ 66 65 _ _ (by omega), putU]
theorem sput_66 : (sput a v63 v64 v65 v66 v5).put (some 66) x = sput a v63 v64 v65 x v5 := by
  unfold sput
  rw [swapU _ 5 66 _ _ (by omega), putU]
theorem sput_5 : (sput a v63 v64 v65 v66 v5).put (some 5) x = sput a v63 v64 v65 v66 x := by
  unfold sput
  rw [putU]
end
theorem evalU_same (a : Act) (t : Nat) (x : Value) (h : t < a.tmps.size) : (a.put (some t) x).eval (.tmp t) = x := by simp [Act.eval, Act.put, h]
theorem evalU_ne (a : Act) (t u : Nat) (x : Value) (h : t ≠ u) : (a.put (some t) x).eval (.tmp u) = a.eval (.tmp u) := Act.eval_put (fun d hd he => by cases hd; cases he; exact h rfl)
theorem sizeU (a : Act) (t : Nat) (x : Value) : (a.put (some t) x).tmps.size = a.tmps.size := by simp [Act.put]
section
variable (a : Act) (hsz : 67 ≤ a.tmps.size) (v63 v64 v65 v66 v5 : Value)
include hsz
theorem sev_63 : (sput a v63 v64 v65 v66 v5).eval (.tmp 63) = v63 := by
  unfold sput
  rw [evalU_ne _ 5 63 _ (by omega), evalU_ne _ 66 63 _ (by omega), evalU_ne _ 65 63 _ (by omega), evalU_ne _ 64 63 _ (by omega), evalU_same _ _ _ (by omega)]
theorem sev_64 : (sput a v63 v64 v65 v66 v5).eval (.tmp 64) = v64 := by
  unfold sput
  rw [evalU_ne _ 5 64 _ (by omega), evalU_ne _ 66 64 _ (by omega), evalU_ne _ 65 64 _ (by omega), evalU_same _ _ _ (by rw [sizeU]; omega)]
theorem sev_65 : (sput a v63 v64 v65 v66 v5).eval (.tmp 65) = v65 := by
  unfold sput
  rw [evalU_ne _ 5 65 _ (by omega), evalU_ne _ 66 65 _ (by omega), evalU_same _ _ _ (by rw [sizeU, sizeU]; omega)]
theorem sev_66 : (sput a v63 v64 v65 v66 v5).eval (.tmp 66) = v66 := by
  unfold sput
  rw [evalU_ne _ 5 66 _ (by omega), evalU_same _ _ _ (by rw [sizeU, sizeU, sizeU]; omega)]
omit hsz in
theorem sev_4 : (sput a v63 v64 v65 v66 v5).eval (.tmp 4) = a.eval (.tmp 4) := by
  unfold sput
  rw [evalU_ne _ 5 4 _ (by omega), evalU_ne _ 66 4 _ (by omega), evalU_ne _ 65 4 _ (by omega), evalU_ne _ 64 4 _ (by omega), evalU_ne _ 63 4 _ (by omega)]
omit hsz in
theorem sev_7 : (sput a v63 v64 v65 v66 v5).eval (.tmp 7) = a.eval (.tmp 7) := by
  unfold sput
  rw [evalU_ne _ 5 7 _ (by omega), evalU_ne _ 66 7 _ (by omega), evalU_ne _ 65 7 _ (by omega), evalU_ne _ 64 7 _ (by omega), evalU_ne _ 63 7 _ (by omega)]
end
/-- the operations of a region of a body, by its number -/
def regOpsU (n : Nat) : Code → Option (Array Oper)
  | .region id ops _ => if id = n then some ops else none
  | .seq a b => match regOpsU n a with
    | some l => some l
    | none => regOpsU n b
  | .block _ c => regOpsU n c
  | .loop c => regOpsU n c
  | .scope c => regOpsU n c
  | .cond _ a b => match regOpsU n a with
    | some l => some l
    | none => regOpsU n b
  | _ => none
noncomputable def statedOps : Array Oper := (Tryz.f26.body.bind (regOpsU 17)).getD #[]
/-- what is known when some operations of the last statement are done -/
def LastInv (a0 : Act) (w0 : World) (s : Nat) (y1 y2 y3 : Value) (ck : Int) (D : Nat → Bool) (a : Act) (w : World) : Prop :=
  ∃ v63 v64 v65 v66 v5 : Value, a = sput a0 v63 v64 v65 v66 v5 ∧ Far (fun k => k = s) w0 w ∧ (D 0 = true → v63 = .agg #[y1, y2, y3]) ∧ (D 1 = true → v64 = .agg #[y1, y2, y3]) ∧ (D 2 = true → v65 = .int .i64 ck) ∧
    (D 3 = true → v66 = .bool (ck == 0)) ∧ (D 5 = true → v5 = .bool (ck == 0)) ∧ Blk w s 52 (if D 4 = true then #[y1, y2, y3] else #[.slice none 0 0, .slice none 0 0, .slice none 0 0])
attribute [local irreducible] Oper.wp in
set_option maxHeartbeats 800000 in
theorem stated_last {Q : Exit → Act → World → Prop} (a0 : Act) (w0 : World) (s : Nat) (A1 A2 A3 : Option Addr) (n1 c1 n2 c2 n3 c3 : Nat) (ck : Int) (hsz : 67 ≤ a0.tmps.size)
    (h7 : a0.eval (.tmp 7) = .pointer (some ⟨s + 2, 0, none⟩)) (h4 : a0.eval (.tmp 4) = .pointer (some ⟨s, 0, none⟩))
    (kS : Blk w0 s 52 #[.slice none 0 0, .slice none 0 0, .slice none 0 0]) (kR : Blk w0 (s + 2) 52 #[.slice A1 n1 c1, .slice A2 n2 c2, .slice A3 n3 c3])
    (HC : ∀ W, Far (fun k => k = s) w0 W → Calls Tryz.prog 20 #[.agg #[.slice A1 n1 c1, .slice A2 n2 c2, .slice A3 n3 c3]] W fun e w' => e = .returned (.int .i64 ck) ∧ Below W.heap.size W w')
    (hQ : ∀ w', Far (fun k => k = s) w0 w' → Blk w' s 52 #[.slice A1 n1 c1, .slice A2 n2 c2, .slice A3 n3 c3] →
      Q .normal (sput a0 (.agg #[.slice A1 n1 c1, .slice A2 n2 c2, .slice A3 n3 c3]) (.agg #[.slice A1 n1 c1, .slice A2 n2 c2, .slice A3 n3 c3]) (.int .i64 ck) (.bool (ck == 0)) (.bool (ck == 0))) w') :
    (Code.region 17 statedOps true).wp Tryz.prog Q a0 w0 := by
  conv => arg 2; arg 2; whnf
  refine region_inv (LastInv a0 w0 s (.slice A1 n1 c1) (.slice A2 n2 c2) (.slice A3 n3 c3) ck) (by kernel_rfl) (by simp [edgesDown, Region.binds]) ?ext ?start ?steps ?fin
  case ext =>
    intro D D' a w h hI
    have e : ∀ i, i < 6 → D i = D' i := h
    have : LastInv a0 w0 s (.slice A1 n1 c1) (.slice A2 n2 c2) (.slice A3 n3 c3) ck D a w = LastInv a0 w0 s (.slice A1 n1 c1) (.slice A2 n2 c2) (.slice A3 n3 c3) ck D' a w := by
      unfold LastInv
      simp only [e 0 (by omega), e 1 (by omega), e 2 (by omega), e 3 (by omega), e 4 (by omega), e 5 (by omega)]
    exact this ▸ hI
  case start =>
    intro D h
    have e : ∀ i, i < 6 → D i = false := h
    refine ⟨_, _, _, _, _, (sput_self a0 hsz).symm, Far.of_below (Below.refl _ w0).drew, ?_⟩
    have n : ∀ i, i < 6 → ¬ (D i = true) := fun i hi => by rw [e i hi]; decide
    refine ⟨fun h => absurd h (n 0 (by omega)), fun h => absurd h (n 1 (by omega)), fun h => absurd h (n 2 (by omega)), fun h => absurd h (n 3 (by omega)), fun h => absurd h (n 5 (by omega)), ?_⟩
    rw [if_neg (n 4 (by omega))]
    exact kS.drew
  case fin =>
    rintro a w ⟨v63, v64, v65, v66, v5, rfl, hF, h0, h1, h2, h3, h5, hk⟩
    obtain rfl := h0 rfl
    obtain rfl := h1 rfl
    obtain rfl := h2 rfl
    obtain rfl := h3 rfl
    obtain rfl := h5 rfl
    exact hQ w hF hk
  case steps =>
    refine ⟨?_, ?_, ?_, ?_, ?_, ?_, trivial⟩
    all_goals (rintro D a w ⟨v63, v64, v65, v66, v5, rfl, hF, h0, h1, h2, h3, h5, hk⟩ hkk he)
    all_goals (refine step_plainU rfl ?_)
    all_goals (have cR := (hF.blk kR (by omega)).cell)
    · refine wp_valU (v := .agg #[.slice A1 n1 c1, .slice A2 n2 c2, .slice A3 n3 c3]) (w' := w) (by simp only [execOp, sev_7, h7]; simp [go_sem, cR]) ?_
      show LastInv a0 w0 s _ _ _ ck _ ((sput a0 v63 v64 v65 v66 v5).put (some 63) _) w; rw [sput_63]
      refine ⟨_, _, _, _, _, rfl, hF, ?_⟩
      simp only [Nat.reduceBEq, Bool.true_or, Bool.false_or, forall_const]
      exact ⟨trivial, h1, h2, h3, h5, hk⟩
    · refine wp_valU (v := .agg #[.slice A1 n1 c1, .slice A2 n2 c2, .slice A3 n3 c3]) (w' := w) (by simp only [execOp, sev_7, h7]; simp [go_sem, cR]) ?_
      show LastInv a0 w0 s _ _ _ ck _ ((sput a0 v63 v64 v65 v66 v5).put (some 64) _) w; rw [sput_64]
      refine ⟨_, _, _, _, _, rfl, hF, ?_⟩
      simp only [Nat.reduceBEq, Nat.reduceAdd, Bool.true_or, Bool.false_or, forall_const]
      exact ⟨h0, trivial, h2, h3, h5, hk⟩
    · have e := h1 (he ⟨1, .data⟩ (by simp) rfl)
      have ev' : (sput a0 v63 v64 v65 v66 v5).tmps[64]?.getD undef = .agg #[.slice A1 n1 c1, .slice A2 n2 c2, .slice A3 n3 c3] := by
        have := (sev_64 a0 hsz v63 v64 v65 v66 v5).trans e
        simpa [Act.eval] using this
      refine wp_enterU (f := 20) (args := #[.agg #[.slice A1 n1 c1, .slice A2 n2 c2, .slice A3 n3 c3]]) (w1 := w) (by simp only [execOp]; simp [go_sem, ev']) (HC w hF) ?_
      intro w' hb
      show LastInv a0 w0 s _ _ _ ck _ ((sput a0 v63 v64 v65 v66 v5).put (some 65) _) w'; rw [sput_65]
      refine ⟨_, _, _, _, _, rfl, hF.trans (Far.of_below hb), ?_⟩
      simp only [Nat.reduceBEq, Nat.reduceAdd, Bool.true_or, Bool.false_or, forall_const]
      exact ⟨h0, h1, trivial, h3, h5, hk.call hb⟩
    · have e := h2 (he ⟨2, .data⟩ (by simp) rfl)
      refine wp_valU (v := .bool (ck == 0)) (w' := w) (by simp only [execOp, sev_65 _ hsz, e]; simp [go_sem]) ?_
      show LastInv a0 w0 s _ _ _ ck _ ((sput a0 v63 v64 v65 v66 v5).put (some 66) _) w; rw [sput_66]
      refine ⟨_, _, _, _, _, rfl, hF, ?_⟩
      simp only [Nat.reduceBEq, Nat.reduceAdd, Bool.true_or, Bool.false_or, forall_const]
      exact ⟨h0, h1, h2, trivial, h5, hk⟩
    · have e := h0 (he ⟨0, .data⟩ (by simp) rfl)
      have hk2 : Blk w s 52 #[.slice none 0 0, .slice none 0 0, .slice none 0 0] := by rw [hkk] at hk; exact hk
      have cS := hk2.cell
      have fS := hk2.frozen
      refine wp_skipU rfl (w' := ((w.setCell ⟨s, 0, none⟩ (.slice A1 n1 c1)).setCell ⟨s, 1, none⟩ (.slice A2 n2 c2)).setCell ⟨s, 2, none⟩ (.slice A3 n3 c3)) (by simp only [execOp, sev_63 _ hsz, sev_4, e, h4]; simp [go_sem, cS, fS]) ?_
      refine ⟨_, _, _, _, _, rfl, ((hF.setCell (p := ⟨s, 0, none⟩) (fun _ => rfl) _).setCell (p := ⟨s, 1, none⟩) (fun _ => rfl) _).setCell (p := ⟨s, 2, none⟩) (fun _ => rfl) _, ?_⟩
      simp only [Nat.reduceBEq, Nat.reduceAdd, Bool.true_or, Bool.false_or, if_true]
      exact ⟨h0, h1, h2, h3, h5, ((hk2.set_ 0 _).set_ 1 _).set_ 2 _⟩
    · have e := h3 (he ⟨3, .data⟩ (by simp) rfl)
      refine wp_valU (v := .bool (ck == 0)) (w' := w) (by simp only [execOp, sev_66 _ hsz, e]; simp [go_sem]) ?_
      show LastInv a0 w0 s _ _ _ ck _ ((sput a0 v63 v64 v65 v66 v5).put (some 5) _) w; rw [sput_5]
      refine ⟨_, _, _, _, _, rfl, hF, ?_⟩
      simp only [Nat.reduceBEq, Nat.reduceAdd, Bool.true_or, Bool.false_or, forall_const]
      exact ⟨h0, h1, h2, h3, trivial, hk⟩

/-- a state is handed back, and whether it is one -/
def StatedO (V : Vm) (vs : List Sp) (w : World) (e : Ending) (w' : World) : Prop := ∃ S, e = .returned (.tuple #[S, .bool (chkH (setA (comF V)) (liveF V vs) (hugesF V 1024) == 0)]) ∧ StIs w' S (setA (comF V)) (liveF V vs) (hugesF V 1024) ∧ Below w.heap.size w w'

set_option maxRecDepth 100000 in
set_option maxHeartbeats 3200000 in
theorem stated_any (b : Nat) (A : Option Addr) (n cap : Nat) (vs : List Sp) (V : Vm) (w : World) (hV : SysIs w b V) (hn : vs.length = n) (hm : n ≤ maxLen) (hr : RU w w.heap.size A vs) :
    Calls Tryz.prog 26 #[.pointer (some ⟨b, 0, none⟩), .slice A n cap] w (StatedO V vs w) := by
  obtain ⟨i0, hi, hz0, hz1, hz2⟩ := info_parts infoIn
  have HK : Hid (∀ (i : Nat), i < 1024 → ∀ W, SysIs W b V → Calls Tryz.prog 17 #[.pointer (some ⟨b, 0, none⟩), .int .i64 i] W fun e w' => e = .returned (.tuple #[.int .i64 (V.pg i).kind, .bool (V.pg i).huge, .int .i64 0]) ∧ Below W.heap.size W w') := Lib.hid (fun i hi W h => by
    have h9 := vkind_any b (i : Int) V W h
    have hc : (0 : Int) ≤ (i : Int) ∧ (i : Int) < 1024 := by omega
    rw [if_pos hc, if_pos hc, if_pos hc, Int.toNat_natCast] at h9
    exact h9)
  have hV0 := Lib.hid hV
  have hr0 := Lib.hid hr
  have hbs := hV.lt
  obtain ⟨s, hs⟩ : ∃ s, w.heap.size = s := ⟨_, rfl⟩
  have hsz1 : (w.alloc (.cells #[.slice none 0 0, .slice none 0 0, .slice none 0 0] 52)).heap.size = s + 1 := by rw [World.size_alloc, hs]
  obtain ⟨W1, hW1⟩ : ∃ W1, w.alloc (.cells #[.slice none 0 0, .slice none 0 0, .slice none 0 0] 52) = W1 := ⟨_, rfl⟩
  have hb1 : Below s w W1 := by rw [← hW1, ← hs]; exact (Below.refl w.heap.size w).alloc (Nat.le_refl _) _
  have k4 : Blk W1 s 52 #[.slice none 0 0, .slice none 0 0, .slice none 0 0] := by rw [← hW1, ← hs]; exact Blk.new _ _ _
  rw [hW1] at hsz1
  have hb2 := hb1.alloc (by omega) (.cells Tryz.zeroCells152 152)
  have k42 := k4.alloc (.cells Tryz.zeroCells152 152)
  have k62 := Blk.new W1 152 Tryz.zeroCells152
  have hsz2 : (W1.alloc (.cells Tryz.zeroCells152 152)).heap.size = s + 2 := by rw [World.size_alloc, hsz1]
  have hZ := zeros_are
  rw [hsz1] at k62
  clear hV hr k4 hb1
  go_enter Tryz.func26, Tryz.ntmps26
  go_upto_region 1 with fail
  try rw [hW1]
  clear hW1
  go_upto_region 2 with fail
  generalize W1.alloc (.cells Tryz.zeroCells152 152) = W2 at *
  generalize Tryz.zeroCells152 = Z at *
  have hb3 := hb2.alloc (by omega) (.cells #[.slice none 0 0, .slice none 0 0, .slice none 0 0] 52)
  have k43 := k42.alloc (.cells #[.slice none 0 0, .slice none 0 0, .slice none 0 0] 52)
  have k63 := k62.alloc (.cells #[.slice none 0 0, .slice none 0 0, .slice none 0 0] 52)
  have k73 := Blk.new W2 52 #[.slice none 0 0, .slice none 0 0, .slice none 0 0]
  have hsz3 : (W2.alloc (.cells #[.slice none 0 0, .slice none 0 0, .slice none 0 0] 52)).heap.size = s + 3 := by rw [World.size_alloc, hsz2]
  rw [hsz2] at k73
  go_upto_region 3 with fail
  generalize W2.alloc _ = W3 at *
  clear k42 k62 hb2 hsz1 hsz2
  go_wp2_with fail
  go_loopw [8] (fun u wr => ∃ (i : Nat) (cs : Array Value) (v : Value) (l : List Int), i ≤ 1024 ∧ u = .int .i64 i ∧ Blk wr s 52 #[.slice none 0 0, .slice none 0 0, .slice none 0 0] ∧ Blk wr (s + 1) 152 cs ∧ MarksAre cs (comK V i) ∧ Blk wr (s + 2) 52 #[.slice none 0 0, .slice none 0 0, v] ∧ Hid (hugesF V i = l) ∧ wr.ownsRow (s + 3) 3 1 v l.length (l.map (Value.int .i64)) ∧ s + 3 ≤ wr.heap.size ∧ Below s w wr) (fun u _ => 1024 - (intOf u).toNat)
  case atStart => exact ⟨0, Z, _, [], by omega, rfl, k43, k63, ⟨hZ.size, fun k hk => by rw [hZ.at_ k hk]; simp [comK]⟩, k73, Lib.hid rfl, World.ownsRow_nil _ _ _ _, by omega, hb3⟩
  case round =>
    clear k43 k63 k73 hsz3 hb3 hZ
    obtain ⟨i, cs, v, l, hi1, rfl, k4, k6, hM, k7, hl, hrow, hsz, hB⟩ := hrel
    by_cases hlt : i < 1024
    · have hil : (i : Int) < 1024 := by omega
      have hlt' : decide ((i : Int) < 1024) = true := by simpa using hil
      have HKi := Lib.hid (HK.out i hlt wr (hV0.out.call (by rw [hs]; exact hB)))
      have hll : l.length ≤ i := by rw [← hl.out]; exact hugesF_len V i
      have hstep : Hid (hugesF V (i + 1) = if (V.pg i).huge = true ∧ i % 16 = 0 then l ++ [((i / 16 : Nat) : Int)] else l) := Lib.hid (by rw [← hl.out]; rfl)
      have hst := Lib.hid (hM.set (g := comK V (i + 1)) i hlt ((V.pg i).kind == 2) (by simp [comK, comF]) (fun q hq => by
        unfold comK
        by_cases h : q < i
        · rw [decide_eq_true h, decide_eq_true (by omega : q < i + 1)]
        · rw [decide_eq_false h, decide_eq_false (by omega : ¬ q < i + 1)]))
      have hold := hM.at_ i hlt
      generalize comK V i i = B0 at hold
      generalize (V.pg i).kind = kd at *
      generalize (V.pg i).huge = hg at *
      clear hM
      go_wp2_with fail
      refine HKi.out.mono ?_
      rintro e w3 ⟨rfl, hb3⟩
      have k43 := k4.call hb3
      have k63 := k6.call hb3
      have k73 := k7.call hb3
      have hrow3 := ownsRow_call hrow hb3
      have hsz3 := hb3.size
      have B3 := hB.trans (hb3.mono (by omega))
      have c6 := (k63.cell i).trans hold
      have f6 := k63.frozen i
      have F4 := Far.setCell (T := fun k => k = s + 1) (p := ⟨s + 1, i, none⟩) (Far.refl _ w3) (fun _ => rfl) (.bool (kd == 2))
      have k64 := k63.set_ i (.bool (kd == 2))
      clear k4 k6 k7 hrow hb3 hB hold HKi
      go_upto_region 10 with fail
      generalize w3.setCell ⟨s + 1, i, none⟩ _ = w4 at *
      have k44 := F4.blk k43 (by show ¬ s = s + 1; omega)
      have k74 := F4.blk k73 (by show ¬ s + 2 = s + 1; omega)
      have hrow4 := ownsRow_far hrow3 F4 (fun g hg h => by have := (hrow3.lt g hg).1; omega)
      have hsz4 := F4.size
      have B4 := B3.trans (F4.below (by omega) (fun k hk e => by omega))
      clear F4 k43 k63 k73 hrow3 B3 c6 f6
      obtain ⟨rm, hrm, hrz⟩ : ∃ rm : Int, Int.tmod (i : Int) 16 = rm ∧ (rm = 0 ↔ i % 16 = 0) := ⟨_, rfl, by rw [Int.tmod_eq_emod_of_nonneg (by omega)]; omega⟩
      obtain ⟨x, hdv, hxv⟩ : ∃ x : Int, Int.tdiv (i : Int) 16 = x ∧ x = ((i / 16 : Nat) : Int) := ⟨_, rfl, by rw [Int.tdiv_eq_ediv_of_nonneg (by omega)]; omega⟩
      have hwq : wrap64 x = x := by unfold wrap64; omega
      rw [← hxv] at hstep
      clear hxv
      have hst3 := hstep.out
      by_cases hc : hg = true ∧ i % 16 = 0
      · rw [if_pos hc] at hst3
        obtain ⟨rfl, hm0⟩ := hc
        have hm1 : (rm == 0) = true := by rw [hrz.2 hm0]; rfl
        have hst4 := Lib.hid hst3
        clear hst3 hstep hrz hm0
        obtain ⟨ll, hl2⟩ : ∃ ll, l.length = ll := ⟨_, rfl⟩
        rw [hl2] at hrow4 hll
        obtain ⟨A', cap', rfl, _⟩ := own_RIx hrow4 hl2
        have c7 := k74.cell 2
        have kN := Blk.new w4 3 #[.int .i64 x]
        have hbN : Below w4.heap.size w4 (w4.alloc (.cells #[.int .i64 x] 3)) := (Below.refl _ _).alloc (Nat.le_refl _) _
        have k7N := k74.alloc (.cells #[.int .i64 x] 3)
        have hrl := hrow4.lt
        have hst5 := Lib.hid hst.out
        clear hst
        go_wp2_with (refine wpList_append_own _ rfl (.tmp 39) (.tmp 42) 50 rfl (s + 3) 3 i0 (.int .i64 0) 1 8 Tryz.underlying50 hi hz0 hz1 hz2 rfl (by decide) _ ll (l.map (Value.int .i64)) rfl (hrow4.alloc _) ⟨w4.heap.size, 0, none⟩ 1 1 [.int .i64 x] rfl rfl (news_i kN) ints_one (by unfold maxLen; omega) (by omega) (by simp; omega) ?_; intro v' w7 hown' hgrow _; rw [show l.map (Value.int .i64) ++ [Value.int .i64 x] = (l ++ [x]).map (Value.int .i64) by simp] at hown'; obtain ⟨A2, cap2, rfl, _⟩ := own_RIx hown' (by simp; omega); have k79 := k7N.grown hgrow (fun e => by have := (hrl (s + 2) e.symm).1; omega); have f79 := k79.frozen 2; have c79 := k79.cell 2)
        have k7b := k79.set_ 2 (.slice A2 (ll + 1) cap2)
        have F8 := Far.setCell (T := fun k => k = s + 2) (p := ⟨s + 2, 2, none⟩) (Far.refl _ w7) (fun _ => rfl) (.slice A2 (ll + 1) cap2)
        have F7 : Far (fun k => (Value.slice A' ll cap').ownBlock = some k) w4 w7 := (Far.of_below hbN).grown hgrow (fun g hg _ => hg)
        have k47 := F7.blk k44 (fun h => by have := (hrl s h).1; omega)
        have k67 := F7.blk k64 (fun h => by have := (hrl (s + 1) h).1; omega)
        have B7 := B4.trans (F7.below (by omega) (fun k hk h => by have := (hrl k h).1; omega))
        have hsz7 := F7.size
        go_roundw
        case rel => exact ⟨i + 1, _, _, l ++ [x], by omega, by go_num, F8.blk k47 (by show ¬ s = s + 2; omega), F8.blk k67 (by show ¬ s + 1 = s + 2; omega), hst5.out, k7b, hst4, by rw [List.length_append, List.length_singleton, hl2]; exact ownsRow_far hown' F8 (fun g hg h => by have := (hown'.lt g hg).1; omega), by have := F8.size; omega, B7.trans (F8.below (by have := B7.size; omega) (fun k hk e => by omega))⟩
        case measure => simp [intOf]; omega
      · rw [if_neg hc] at hst3
        have hst4 := Lib.hid hst3
        clear hst3 hstep
        cases hg with
        | false =>
          clear hc
          go_wp2_with fail
          go_roundw
          case rel => exact ⟨i + 1, _, v, l, by omega, by go_num, k44, k64, hst.out, k74, hst4, hrow4, by omega, B4⟩
          case measure => simp [intOf]; omega
        | true =>
          have hm0 : ¬ (rm = 0) := fun h => hc ⟨rfl, hrz.1 h⟩
          have hm1 : (rm == 0) = false := by simpa using hm0
          clear hc hm0 hrz
          go_wp2_with fail
          go_roundw
          case rel => exact ⟨i + 1, _, v, l, by omega, by go_num, k44, k64, hst.out, k74, hst4, hrow4, by omega, B4⟩
          case measure => simp [intOf]; omega
    · obtain rfl : i = 1024 := by omega
      have hlt' : decide (((1024 : Nat) : Int) < 1024) = false := by simp
      have hMM : MarksAre cs (comF V) := ⟨hM.size, fun k hk => by rw [hM.at_ k hk]; simp [comK, hk]⟩
      have HSet := Lib.hid (refSet_any cs (comF V) wr hMM)
      have HOf := Lib.hid (fun W h => refOf_any A n cap vs W hn hm h)
      have hcz := hM.size
      obtain ⟨L7, hL7⟩ : ∃ L7, (if ofE vs = 0 then setOf vs else []) = L7 := ⟨_, rfl⟩
      obtain ⟨er, her⟩ : ∃ er, ofE vs = er := ⟨_, rfl⟩
      obtain ⟨CS, hCS⟩ : ∃ CS, setA (comF V) = CS := ⟨_, rfl⟩
      have hL0 : Hid (er ≠ 0 → L7 = []) := Lib.hid (fun h => by rw [← hL7, if_neg (by rw [her]; exact h)])
      have hQ' : Hid (∀ S w', StIs w' S CS (combF 2 L7 CS) l → Below s w w' → StatedO V vs w (.returned (.tuple #[S, .bool (chkH CS (combF 2 L7 CS) l == 0)])) w') := Lib.hid (fun S w' h1 h2 => by
        refine ⟨S, ?_, ?_, by rw [hs]; exact h2⟩
        · unfold liveF; rw [hL7, hCS, hl.out]
        · unfold liveF; rw [hL7, hCS, hl.out]; exact h1)
      rw [hL7, her] at HOf
      rw [hCS] at HSet
      have hl' := hugesF_len V 1024
      rw [hl.out] at hl'
      clear hL7 her hCS hM hMM HK hl
      go_wp2_with (refine wpList_load_mid rfl 152 (.tmp 6) rfl (s + 1) 0 rfl cs.toList _ (rangeAt_blk k6) Tryz.underlying152 rfl (by rw [Array.length_toList, hcz]; kernel_rfl) ?_; rw [Array.toArray_toList])
      refine HSet.out.mono ?_
      rintro e w5 ⟨A5, c5, rfl, u5, m1, m2, m3, hb5⟩
      have k75 := k7.call hb5
      have k45 := k4.call hb5
      have hrow5 := ownsRow_call hrow hb5
      have B5 := hB.trans (hb5.mono (by omega))
      have hsz5 := hb5.size
      have c70 := k75.cell
      have f70 := k75.frozen
      clear HSet k4 k6 k7 hrow hb5 hB hcz
      go_upto_region 13 with fail
      have F6 := Far.setCell (T := fun k => k = s + 2) (p := ⟨s + 2, 0, none⟩) (Far.refl _ w5) (fun _ => rfl) (.slice A5 CS.length c5)
      have k76 := k75.set_ 0 (.slice A5 CS.length c5)
      generalize w5.setCell ⟨s + 2, 0, none⟩ _ = w6 at *
      have k46 := F6.blk k45 (by show ¬ s = s + 2; omega)
      have hrow6 := ownsRow_far hrow5 F6 (fun g hg h => by have := (hrow5.lt g hg).1; omega)
      have B6 := B5.trans (F6.below (by omega) (fun k hk e => by omega))
      have u6 := (F6.ru u5 (fun b o e h => by have := m3 b o e; omega)).more F6.size
      have hsz6 := F6.size
      have hlen5 : CS.length ≤ maxLen := by omega
      clear F6 k45 k75 hrow5 B5 u5 c70 f70
      have r6 : RU w6 w6.heap.size A vs := hr0.out.on (by rw [hs]; exact B6)
      go_wp2_with fail
      refine (HOf.out _ r6).mono ?_
      rintro e w7 ⟨A7, c7, rfl, u7, n1, n2, n3, hb7⟩
      have k77 := k76.call hb7
      have k47 := k46.call hb7
      have hrow7 := ownsRow_call hrow6 hb7
      have B7 := B6.trans (hb7.mono (by omega))
      have u57 := u6.on hb7
      have hsz7 := hb7.size
      have hlen7 : L7.length ≤ maxLen := Nat.le_trans n1 n2
      clear HOf k76 k46 hrow6 hb7 B6 u6 r6 hr0 hV0
      have hcs := k77.cell
      have HMt := Lib.hid (fun (Ax : Option Addr) (cx : Nat) (h : RU w7 w7.heap.size Ax L7) => rMeet_any Ax A5 L7.length cx CS.length c5 L7 CS w7 rfl hlen7 h rfl hlen5 u57)
      by_cases he : er = 0
      · have he' : (er != 0) = false := by simpa using he
        have HM := Lib.hid (HMt.out A7 c7 u7)
        clear HMt
        go_wp2_with fail
        refine HM.out.mono ?_
        rintro e w8 ⟨A8, c8, rfl, u8, p1, p2, p3, hb8⟩
        have k78 := k77.call hb8
        have k48 := k47.call hb8
        have hrow8 := ownsRow_call hrow7 hb8
        have B8 := B7.trans (hb8.mono (by omega))
        have u58 := u57.on hb8
        have hsz8 := hb8.size
        clear HM k77 k47 hrow7 hb8 B7 u57 hcs
        have c80 := k78.cell
        have f80 := k78.frozen
        go_upto_region 17 with fail
        generalize combF 2 _ CS = LL at *
        have F9 := Far.setCell (T := fun k => k = s + 2) (p := ⟨s + 2, 1, none⟩) (Far.refl _ w8) (fun _ => rfl) (.slice A8 LL.length c8)
        have k79 := k78.set_ 1 (.slice A8 LL.length c8)
        generalize w8.setCell ⟨s + 2, 1, none⟩ _ = w9 at *
        have k49 := F9.blk k48 (by show ¬ s = s + 2; omega)
        have hrow9 := ownsRow_far hrow8 F9 (fun g hg h => by have := (hrow8.lt g hg).1; omega)
        have B9 := B8.trans (F9.below (by omega) (fun k hk e => by omega))
        have u59 := (F9.ru u58 (fun b o e h => by have := m3 b o e; omega)).more F9.size
        have u89 := (F9.ru u8 (fun b o e h => by have := p3 b o e; omega)).more F9.size
        obtain ⟨A3, c3, rfl, hru, _, _, hfr9, _⟩ := own_Rd hrow9
        have hSt : StIs w9 (.agg #[.slice A5 CS.length c5, .slice A8 LL.length c8, .slice A3 l.length c3]) CS LL l := ⟨A5, A8, A3, _, _, _, _, _, _, rfl, rfl, hlen5, u59, rfl, Nat.le_trans p1 p2, u89, rfl, by unfold maxLen; omega, hru⟩
        have k79' : Blk w9 (s + 2) 52 #[.slice A5 CS.length c5, .slice A8 LL.length c8, .slice A3 l.length c3] := k79
        have HFS : ∀ W, Far (fun k => k = s) w9 W → RU W W.heap.size A5 CS ∧ RU W W.heap.size A8 LL ∧ RI W W.heap.size A3 l := fun W Fz => ⟨(Fz.ru u59 (fun b o e h => by have := m3 b o e; omega)).more Fz.size, (Fz.ru u89 (fun b o e h => by have := p3 b o e; omega)).more Fz.size, RI.more (Fz.ri hru (fun b o e h => by have := hfr9 b o e; omega)) Fz.size⟩
        have HCk := Lib.hid (fun W (Fz : Far (fun k => k = s) w9 W) => rcheck13_any (.agg #[.slice A5 CS.length c5, .slice A8 LL.length c8, .slice A3 l.length c3]) CS LL l W ⟨A5, A8, A3, _, _, _, _, _, _, rfl, rfl, hlen5, (HFS W Fz).1, rfl, Nat.le_trans p1 p2, (HFS W Fz).2.1, rfl, by unfold maxLen; omega, (HFS W Fz).2.2⟩)
        have HFS' := Lib.hid HFS
        clear F9 k78 k48 hrow8 B8 u58 u8 c80 f80 hSt hrow9 k79 HFS
        generalize chkH CS LL l = ck at *
        refine stated_last _ _ s A5 A8 A3 _ _ _ _ _ _ ck (Nat.le_of_ble_eq_true rfl) rfl rfl k49 k79' HCk.out ?_
        intro wz Fz kz
        simp only [sput, Act.put, List.setIfInBounds_toArray, List.set_cons_succ, List.set_cons_zero]
        have Bz := B9.trans (Fz.below (by have := B9.size; omega) (fun k hk e => by omega))
        obtain ⟨v5, v8, v3⟩ := HFS'.out wz Fz
        go_wp2_with fail
        have hl9 := run_loadVar_mid (P := Tryz.prog) wz s 0 52 [.slice A5 CS.length c5, .slice A8 LL.length c8, .slice A3 l.length c3] _ (fun j v hj => by rw [Nat.zero_add, kz.cell]; simpa using hj) Tryz.underlying52 rfl (by kernel_rfl)
        refine bodyPost_ret (v := .tuple #[.agg #[.slice A5 CS.length c5, .slice A8 LL.length c8, .slice A3 l.length c3], .bool (ck == 0)]) ?_ rfl ?_
        · exact z_results_cell_tmp Tryz.results26 rfl hl9
        exact hQ'.out _ _ ⟨A5, A8, A3, _, _, _, _, _, _, rfl, rfl, hlen5, v5, rfl, Nat.le_trans p1 p2, v8, rfl, by unfold maxLen; omega, v3⟩ Bz
      · have he' : (er != 0) = true := by simpa using he
        obtain rfl := hL0.out he
        have HM := Lib.hid (HMt.out none 0 RU.nil)
        clear HMt
        simp only [List.length_nil] at HM
        go_wp2_with fail
        refine HM.out.mono ?_
        rintro e w8 ⟨A8, c8, rfl, u8, p1, p2, p3, hb8⟩
        have k78 := k77.call hb8
        have k48 := k47.call hb8
        have hrow8 := ownsRow_call hrow7 hb8
        have B8 := B7.trans (hb8.mono (by omega))
        have u58 := u57.on hb8
        have hsz8 := hb8.size
        clear HM k77 k47 hrow7 hb8 B7 u57 hcs
        have c80 := k78.cell
        have f80 := k78.frozen
        go_upto_region 17 with fail
        generalize combF 2 _ CS = LL at *
        have F9 := Far.setCell (T := fun k => k = s + 2) (p := ⟨s + 2, 1, none⟩) (Far.refl _ w8) (fun _ => rfl) (.slice A8 LL.length c8)
        have k79 := k78.set_ 1 (.slice A8 LL.length c8)
        generalize w8.setCell ⟨s + 2, 1, none⟩ _ = w9 at *
        have k49 := F9.blk k48 (by show ¬ s = s + 2; omega)
        have hrow9 := ownsRow_far hrow8 F9 (fun g hg h => by have := (hrow8.lt g hg).1; omega)
        have B9 := B8.trans (F9.below (by omega) (fun k hk e => by omega))
        have u59 := (F9.ru u58 (fun b o e h => by have := m3 b o e; omega)).more F9.size
        have u89 := (F9.ru u8 (fun b o e h => by have := p3 b o e; omega)).more F9.size
        obtain ⟨A3, c3, rfl, hru, _, _, hfr9, _⟩ := own_Rd hrow9
        have hSt : StIs w9 (.agg #[.slice A5 CS.length c5, .slice A8 LL.length c8, .slice A3 l.length c3]) CS LL l := ⟨A5, A8, A3, _, _, _, _, _, _, rfl, rfl, hlen5, u59, rfl, Nat.le_trans p1 p2, u89, rfl, by unfold maxLen; omega, hru⟩
        have k79' : Blk w9 (s + 2) 52 #[.slice A5 CS.length c5, .slice A8 LL.length c8, .slice A3 l.length c3] := k79
        have HFS : ∀ W, Far (fun k => k = s) w9 W → RU W W.heap.size A5 CS ∧ RU W W.heap.size A8 LL ∧ RI W W.heap.size A3 l := fun W Fz => ⟨(Fz.ru u59 (fun b o e h => by have := m3 b o e; omega)).more Fz.size, (Fz.ru u89 (fun b o e h => by have := p3 b o e; omega)).more Fz.size, RI.more (Fz.ri hru (fun b o e h => by have := hfr9 b o e; omega)) Fz.size⟩
        have HCk := Lib.hid (fun W (Fz : Far (fun k => k = s) w9 W) => rcheck13_any (.agg #[.slice A5 CS.length c5, .slice A8 LL.length c8, .slice A3 l.length c3]) CS LL l W ⟨A5, A8, A3, _, _, _, _, _, _, rfl, rfl, hlen5, (HFS W Fz).1, rfl, Nat.le_trans p1 p2, (HFS W Fz).2.1, rfl, by unfold maxLen; omega, (HFS W Fz).2.2⟩)
        have HFS' := Lib.hid HFS
        clear F9 k78 k48 hrow8 B8 u58 u8 c80 f80 hSt hrow9 k79 HFS
        generalize chkH CS LL l = ck at *
        refine stated_last _ _ s A5 A8 A3 _ _ _ _ _ _ ck (Nat.le_of_ble_eq_true rfl) rfl rfl k49 k79' HCk.out ?_
        intro wz Fz kz
        simp only [sput, Act.put, List.setIfInBounds_toArray, List.set_cons_succ, List.set_cons_zero]
        have Bz := B9.trans (Fz.below (by have := B9.size; omega) (fun k hk e => by omega))
        obtain ⟨v5, v8, v3⟩ := HFS'.out wz Fz
        go_wp2_with fail
        have hl9 := run_loadVar_mid (P := Tryz.prog) wz s 0 52 [.slice A5 CS.length c5, .slice A8 LL.length c8, .slice A3 l.length c3] _ (fun j v hj => by rw [Nat.zero_add, kz.cell]; simpa using hj) Tryz.underlying52 rfl (by kernel_rfl)
        refine bodyPost_ret (v := .tuple #[.agg #[.slice A5 CS.length c5, .slice A8 LL.length c8, .slice A3 l.length c3], .bool (ck == 0)]) ?_ rfl ?_
        · exact z_results_cell_tmp Tryz.results26 rfl hl9
        exact hQ'.out _ _ ⟨A5, A8, A3, _, _, _, _, _, _, rfl, rfl, hlen5, v5, rfl, Nat.le_trans p1 p2, v8, rfl, by unfold maxLen; omega, v3⟩ Bz
end Go.Proofs.YtefnnfcfigcikaaGreat
namespace Go.Pol
open Go Go.Proofs Go.RowKit

theorem refB_none {S : Rf} (h : S.rules = []) (k : Nat) : refB S k = false := by
  unfold refB
  split
  · rfl
  · show rfd S.rules k _ = false
    rw [h]; rfl
theorem makeF_none {V : Vm} (h : V.rf.rules = []) {a n : Int} {call : Nat} {pr : Pg → Bool} {fd : Pg → Pg} (h0 : 0 ≤ a) (h1 : 1 ≤ n) (h2 : a + n ≤ 1024) (hp : ∀ p : Nat, a ≤ p → (p : Int) < a + n → pr (V.pg p) = true) :
    makeF V a n call pr fd = (0, (V.ref call).eachP a.toNat n.toNat fd) := by
  unfold makeF
  rw [if_neg (by omega), if_neg (by rw [allP_iff.2 (fun q h3 h4 => hp q (by omega) (by omega))]; decide), if_neg (by rw [refB_none h]; decide)]
/-- the pages of a set are committed, the others free, none huge, and there are no rules -/
structure LayIs (M : Nat → Bool) (V : Vm) : Prop where
  rules : V.rf.rules = []
  page : ∀ p, (V.pg p).kind = (if M p = true then 2 else 0) ∧ (V.pg p).huge = false
theorem layS_is {M : Nat → Bool} {V : Vm} (h : LayIs M V) {x : Int × Int} (hx : vld x = true) (hm : ∀ p : Nat, x.1 ≤ p → (p : Int) < x.1 + x.2 → M p = false) :
    LayIs (fun p => M p || (decide (x.1 ≤ p) && decide ((p : Int) < x.1 + x.2))) (layS V x) := by
  obtain ⟨v1, v2, v3, v4⟩ := vld_iff.1 hx
  have e1 : bec V x.1 x.2 0 0 1 = (0, (V.ref 0).eachP x.1.toNat x.2.toNat (fun _ => newPg 1)) :=
    makeF_none h.rules v1 v3 (by omega) (fun p h1 h2 => by
      obtain ⟨a, b⟩ := h.page p
      rw [hm p h1 h2] at a
      simp only [a, b]; decide)
  have hr : ((V.ref 0).eachP x.1.toNat x.2.toNat (fun _ => newPg 1)).rf.rules = [] := (V.ref_rules 0).trans h.rules
  have hpg : ∀ p : Nat, x.1 ≤ p → (p : Int) < x.1 + x.2 → ((V.ref 0).eachP x.1.toNat x.2.toNat (fun _ => newPg 1)).pg p = newPg 1 := fun p h1 h2 => by
    show (if _ then _ else _) = _
    rw [if_pos (by omega)]
  have hpn : ∀ p : Nat, ¬ (x.1 ≤ p ∧ (p : Int) < x.1 + x.2) → ((V.ref 0).eachP x.1.toNat x.2.toNat (fun _ => newPg 1)).pg p = V.pg p := fun p h1 => by
    show (if _ then _ else _) = _
    rw [if_neg (by omega)]; rfl
  have hl : layS V x = (bec ((V.ref 0).eachP x.1.toNat x.2.toNat (fun _ => newPg 1)) x.1 x.2 2 1 2).2 := by
    unfold layS
    rw [e1, if_pos rfl]
  generalize (V.ref 0).eachP x.1.toNat x.2.toNat (fun _ => newPg 1) = U at *
  have e2 : bec U x.1 x.2 2 1 2 = (0, (U.ref 2).eachP x.1.toNat x.2.toNat (fun _ => newPg 2)) :=
    makeF_none hr v1 v3 (by omega) (fun p h1 h2 => by rw [hpg p h1 h2]; rfl)
  rw [hl, e2]
  refine ⟨(U.ref_rules 2).trans hr, fun p => ?_⟩
  by_cases hp : x.1 ≤ p ∧ (p : Int) < x.1 + x.2
  · have : ((U.ref 2).eachP x.1.toNat x.2.toNat (fun _ => newPg 2)).pg p = newPg 2 := by
      show (if _ then _ else _) = _
      rw [if_pos (by omega)]
    rw [this]
    simp [hp.1, hp.2, newPg]
  · have : ((U.ref 2).eachP x.1.toNat x.2.toNat (fun _ => newPg 2)).pg p = V.pg p := by
      show (if _ then _ else _) = _
      rw [if_neg (by omega)]
      exact hpn p hp
    rw [this]
    have hd : (decide (x.1 ≤ p) && decide ((p : Int) < x.1 + x.2)) = false := by
      simpa using hp
    simp only [hd, Bool.or_false]
    exact h.page p
theorem lay_all : ∀ (us : List (Int × Int)) (e : Int) (M : Nat → Bool) (V : Vm), LayIs M V → formOk e us = true → (∀ x ∈ us, vld x = true) → (∀ p : Nat, M p = true → (p : Int) ≤ e) →
    LayIs (fun p => M p || mem (p : Int) us) (us.foldl layS V)
  | [], _, M, V, h, _, _, _ => by simpa [mem_nil] using h
  | x :: r, e, M, V, h, hf, hv, hm => by
    obtain ⟨f1, f2⟩ := formOk_cons.1 hf
    have hx := hv x (by simp)
    have hv3 := (vld_iff.1 hx).2.2.1
    have h1 := layS_is h hx (fun p h1 _ => by
      cases hc : M p with
      | false => rfl
      | true => have := hm p hc; omega)
    have h2 := lay_all r (x.1 + x.2) _ (layS V x) h1 f2 (fun y hy => hv y (by simp [hy])) (fun p hp => by
      simp only [Bool.or_eq_true, Bool.and_eq_true, decide_eq_true_eq] at hp
      rcases hp with hp | hp
      · have := hm p hp; omega
      · omega)
    have he : (fun p : Nat => (M p || (decide (x.1 ≤ p) && decide ((p : Int) < x.1 + x.2))) || mem (p : Int) r) = fun p : Nat => M p || mem (p : Int) (x :: r) := by
      funext p; rw [mem_cons, Bool.or_assoc]
    rw [← he]; exact h2
theorem lay_new {us : List (Int × Int)} (h : Can us) : LayIs (fun p => mem (p : Int) us) (us.foldl layS newVm) := by
  have := lay_all us (-1) (fun _ => false) newVm ⟨rfl, fun p => ⟨rfl, rfl⟩⟩ h.2 h.1 (fun p hp => by cases hp)
  simpa using this
/-- the pages of C are committed, the groups of G huge, and there are no rules -/
structure HugIs (C : List Sp) (G : List Int) (V : Vm) : Prop where
  rules : V.rf.rules = []
  page : ∀ p, (V.pg p).kind = (if mem (p : Int) C = true then 2 else 0) ∧ (V.pg p).huge = decide (((p / 16 : Nat) : Int) ∈ G)
theorem grpF_full {C : List Sp} {g : Int} (h : grpF C g = 16) {q : Int} (h1 : 16 * g ≤ q) (h2 : q < 16 * g + 16) : mem q C = true :=
  cntN_full 16 (16 * g) (by simpa [grpF, cntF] using h) q h1 (by omega)
theorem join_is {C : List Sp} {G : List Int} {V : Vm} (h : HugIs C G V) {g : Int} (h0 : 0 ≤ g) (h1 : g < 64) (hg : grpF C g = 16) (hn : ¬ g ∈ G) :
    (Go.Pol.joinF V (g * 16)).1 = 0 ∧ HugIs C (G ++ [g]) (Go.Pol.joinF V (g * 16)).2 := by
  have hf : fstB (g * 16) = true := by
    unfold fstB
    simp only [Bool.and_eq_true, decide_eq_true_eq]
    omega
  have hb : ¬ ((V.pg (g * 16).toNat).huge = true) := by
    rw [(h.page _).2, decide_eq_true_eq, show (((g * 16).toNat / 16 : Nat) : Int) = g by omega]
    exact hn
  have e : Go.Pol.joinF V (g * 16) = (0, (V.ref 5).eachP (g * 16).toNat (16 : Int).toNat (fun p => p.hugeP true)) := by
    unfold Go.Pol.joinF
    rw [if_neg (by rw [hf]; decide), if_neg hb]
    exact makeF_none h.rules (by omega) (by omega) (by omega) (fun p h1 h2 => by
      rw [(h.page p).1, if_pos (grpF_full hg (by omega) (by omega))]; rfl)
  rw [e]
  refine ⟨rfl, (V.ref_rules 5).trans h.rules, fun p => ?_⟩
  by_cases hp : (g * 16).toNat ≤ p ∧ p < (g * 16).toNat + (16 : Int).toNat
  · have e2 : ((V.ref 5).eachP (g * 16).toNat (16 : Int).toNat (fun p => p.hugeP true)).pg p = (V.pg p).hugeP true := by
      show (if _ then _ else _) = _
      rw [if_pos hp]; rfl
    simp only [e2]
    refine ⟨(h.page p).1, ?_⟩
    show true = _
    have : ((p / 16 : Nat) : Int) = g := by omega
    rw [this]; simp
  · have e2 : ((V.ref 5).eachP (g * 16).toNat (16 : Int).toNat (fun p => p.hugeP true)).pg p = V.pg p := by
      show (if _ then _ else _) = _
      rw [if_neg hp]; rfl
    simp only [e2]
    refine ⟨(h.page p).1, (h.page p).2.trans ?_⟩
    have : ¬ ((p / 16 : Nat) : Int) = g := by omega
    rw [decide_eq_decide, List.mem_append, List.mem_singleton]
    exact ⟨fun h => .inl h, fun h => h.elim id (fun h => absurd h this)⟩
theorem hugs_is {C : List Sp} : ∀ (hs G : List Int) (V : Vm), HugIs C G V → (∀ g ∈ hs, (0 ≤ g ∧ g < 64) ∧ grpF C g = 16) → hs.Pairwise (· < ·) → (∀ g ∈ hs, ¬ g ∈ G) →
    HugIs C (G ++ hs) (hs.foldl hugS V)
  | [], G, V, h, _, _, _ => by simpa using h
  | g :: r, G, V, h, hg, hp, hn => by
    obtain ⟨p1, p2⟩ := List.pairwise_cons.1 hp
    obtain ⟨⟨a, b⟩, c⟩ := hg g (by simp)
    have h1 := (join_is h a b c (hn g (by simp))).2
    have e : hugS V g = (Go.Pol.joinF V (g * 16)).2 := by unfold hugS; rw [if_pos ⟨a, b⟩]
    rw [List.foldl_cons, e]
    have h2 := hugs_is r (G ++ [g]) _ h1 (fun x hx => hg x (by simp [hx])) p2 (fun x hx hin => by
      rcases List.mem_append.1 hin with h3 | h3
      · exact hn x (by simp [hx]) h3
      · have := p1 x hx; have := List.mem_singleton.1 h3; omega)
    rwa [List.append_assoc] at h2
theorem hjs_is {C : List Sp} : ∀ (l G d : List Int) (V : Vm), HugIs C G V → (∀ g ∈ l, (0 ≤ g ∧ g < 64) ∧ grpF C g = 16) → l.Pairwise (· < ·) → (∀ g ∈ l, ¬ g ∈ G) →
    HugIs C (G ++ l) (l.foldl hjS (V, d, 0)).1 ∧ (l.foldl hjS (V, d, 0)).2 = (d ++ l, 0)
  | [], G, d, V, h, _, _, _ => by simpa using h
  | g :: r, G, d, V, h, hg, hp, hn => by
    obtain ⟨p1, p2⟩ := List.pairwise_cons.1 hp
    obtain ⟨⟨a, b⟩, c⟩ := hg g (by simp)
    obtain ⟨h0, h1⟩ := join_is h a b c (hn g (by simp))
    have hw : wrap64 (g * 16) = g * 16 := by unfold wrap64; omega
    have e : hjS (V, d, 0) g = ((Go.Pol.joinF V (g * 16)).2, d ++ [g], 0) := by
      unfold hjS
      simp only [hw, h0, if_true]
    rw [List.foldl_cons, e]
    have h2 := hjs_is r (G ++ [g]) (d ++ [g]) _ h1 (fun x hx => hg x (by simp [hx])) p2 (fun x hx hin => by
      rcases List.mem_append.1 hin with h3 | h3
      · exact hn x (by simp [hx]) h3
      · have := p1 x hx; have := List.mem_singleton.1 h3; omega)
    rwa [List.append_assoc, List.append_assoc] at h2
theorem sysF_is {C : List Sp} {H : List Int} (hC : Can C) (hi : ∀ g ∈ H, inG g = true) (ho : hugOk C (-1) H = true) : HugIs C H (sysF C H [] []) := by
  have h0 : HugIs C [] (C.foldl layS newVm) := by
    have := lay_new hC
    exact ⟨this.rules, fun p => ⟨(this.page p).1, by rw [(this.page p).2]; simp⟩⟩
  have h1 := hugs_is H [] _ h0 (fun g hg => ⟨inG_iff.1 (hi g hg), (hugOk_mem ho g hg).2⟩) (hugOk_lt ho) (fun g _ hg => by cases hg)
  rw [List.nil_append] at h1
  have e : sysF C H [] [] = { H.foldl hugS (C.foldl layS newVm) with rf := newRf [] } := by
    unfold sysF planF
    rw [if_pos (by decide)]
    rfl
  rw [e]
  exact ⟨rfl, h1.page⟩
/-- the huge groups that the law sees -/
theorem hugesF_mem {C : List Sp} {G : List Int} {V : Vm} (h : HugIs C G V) (x : Int) : ∀ k, x ∈ hugesF V k ↔ x ∈ G ∧ ∃ j : Nat, x = j ∧ 16 * j < k
  | 0 => by
    constructor
    · intro hx; cases hx
    · rintro ⟨_, j, _, hj⟩; omega
  | k + 1 => by
    have ih := hugesF_mem h x k
    unfold hugesF
    have hb := (h.page k).2
    by_cases hc : (V.pg k).huge = true ∧ k % 16 = 0
    · rw [if_pos hc, List.mem_append, List.mem_singleton, ih]
      rw [hb, decide_eq_true_eq] at hc
      constructor
      · rintro (⟨h1, j, rfl, hj⟩ | rfl)
        · exact ⟨h1, j, rfl, by omega⟩
        · exact ⟨hc.1, k / 16, rfl, by omega⟩
      · rintro ⟨h1, j, rfl, hj⟩
        by_cases he : 16 * j < k
        · exact .inl ⟨h1, j, rfl, he⟩
        · exact .inr (by omega)
    · rw [if_neg hc, ih]
      constructor
      · rintro ⟨h1, j, rfl, hj⟩; exact ⟨h1, j, rfl, by omega⟩
      · rintro ⟨h1, j, rfl, hj⟩
        refine ⟨h1, j, rfl, ?_⟩
        by_cases he : 16 * j < k
        · exact he
        · exfalso
          have hk : k = 16 * j := by omega
          subst hk
          apply hc
          rw [hb, decide_eq_true_eq, show 16 * j / 16 = j by omega]
          exact ⟨h1, by omega⟩
theorem hugesF_asc (V : Vm) : ∀ k, (hugesF V k).Pairwise (· < ·) ∧ ∀ x ∈ hugesF V k, 16 * x < k
  | 0 => ⟨.nil, fun x hx => by cases hx⟩
  | k + 1 => by
    obtain ⟨h1, h2⟩ := hugesF_asc V k
    unfold hugesF
    split
    · rename_i hc
      refine ⟨List.pairwise_append.2 ⟨h1, by simp, fun x hx y hy => ?_⟩, fun x hx => ?_⟩
      · have := h2 x hx; have := List.mem_singleton.1 hy; omega
      · rcases List.mem_append.1 hx with h3 | h3
        · have := h2 x h3; omega
        · have := List.mem_singleton.1 h3; omega
    · exact ⟨h1, fun x hx => by have := h2 x hx; omega⟩
theorem hugOk_of {C : List Sp} : ∀ (l : List Int) (e : Int), l.Pairwise (· < ·) → (∀ g ∈ l, e < g ∧ grpF C g = 16) → hugOk C e l = true
  | [], _, _, _ => rfl
  | g :: r, e, hp, h => by
    obtain ⟨p1, p2⟩ := List.pairwise_cons.1 hp
    obtain ⟨a, b⟩ := h g (by simp)
    exact hugOk_cons.2 ⟨by omega, a, hugOk_of r g p2 (fun x hx => ⟨p1 x hx, (h x (by simp [hx])).2⟩)⟩
theorem filt_add {α : Type} {p q : α → Bool} : ∀ (l : List α), (∀ x ∈ l, p x = true → q x = true → False) → (l.filter fun x => p x || q x).length = (l.filter p).length + (l.filter q).length
  | [], _ => rfl
  | x :: r, h => by
    have ih := filt_add r (fun y hy => h y (by simp [hy]))
    have hx := h x (by simp)
    cases hp : p x with
    | true =>
      cases hq : q x with
      | true => exact (hx hp hq).elim
      | false => simp [hp, hq, ih]; omega
    | false =>
      cases hq : q x with
      | true => simp [hp, hq, ih]; omega
      | false => simp [hp, hq, ih]
theorem groups_whole (C L : List Sp) (H : List Int) : groupsF C L H 0 = wholeF C H := by
  unfold groupsF
  rw [List.filter_eq_self]
  intro g _
  rw [decide_eq_true_eq]
  exact (grpF_bound L g).1
theorem whole_mem {C : List Sp} {H : List Int} {g : Int} : g ∈ wholeF C H ↔ (0 ≤ g ∧ g < 64) ∧ ¬ g ∈ H ∧ grpF C g = 16 := by
  unfold wholeF
  rw [List.mem_filter, mem_grps]
  simp
/-- what the law HugeAdds asks for -/
theorem adds_law {C L : List Sp} {H : List Int} (hz : chkH C L H = 0) : (sysF C H [] []).rf.rules = [] ∧ ∃ V1, hjF (sysF C H [] []) (groupsA C L H 0) = (V1, wholeF C H, 0) ∧ setA (comF V1) = C ∧ liveF V1 L = L ∧
    chkH C L (hugesF V1 1024) = 0 ∧ (hugesF V1 1024).length = H.length + (wholeF C H).length ∧ wholeF C (hugesF V1 1024) = [] := by
  obtain ⟨hC, hL, hi, hs, ho⟩ := chkH_zero.1 hz
  have h0 := sysF_is hC hi ho
  refine ⟨h0.rules, ?_⟩
  have hGA : groupsA C L H 0 = (wholeF C H, 0) := by
    unfold groupsA
    rw [if_neg (by rw [hz]; simp), if_neg (by omega), groups_whole]
  have hj := hjs_is (wholeF C H) H [] _ h0 (fun g hg => ⟨(whole_mem.1 hg).1, (whole_mem.1 hg).2.2⟩) (grps_lt.filter _) (fun g hg => (whole_mem.1 hg).2.1)
  obtain ⟨V1, hV1⟩ : ∃ V1, ((wholeF C H).foldl hjS (sysF C H [] [], [], 0)).1 = V1 := ⟨_, rfl⟩
  rw [hV1, List.nil_append] at hj
  obtain ⟨h1, h2⟩ := hj
  have hcom : ∀ p : Nat, comF V1 p = mem (p : Int) C := fun p => by
    unfold comF
    rw [(h1.page p).1]
    cases mem (p : Int) C <;> rfl
  have hset : setA (comF V1) = C := (hC.eq_setA _ (fun p _ => hcom p)).symm
  have hmem : ∀ x, x ∈ hugesF V1 1024 ↔ x ∈ H ∨ x ∈ wholeF C H := fun x => by
    rw [hugesF_mem h1, List.mem_append]
    constructor
    · exact fun h => h.1
    · intro h
      have : 0 ≤ x ∧ x < 64 := h.elim (fun h => inG_iff.1 (hi x h)) (fun h => (whole_mem.1 h).1)
      exact ⟨h, x.toNat, by omega, by omega⟩
  have hasc := (hugesF_asc V1 1024).1
  have hfull : ∀ x ∈ hugesF V1 1024, (0 ≤ x ∧ x < 64) ∧ grpF C x = 16 := fun x hx => by
    rcases (hmem x).1 hx with h | h
    · exact ⟨inG_iff.1 (hi x h), (hugOk_mem ho x h).2⟩
    · exact ⟨(whole_mem.1 h).1, (whole_mem.1 h).2.2⟩
  refine ⟨V1, ?_, hset, ?_, ?_, ?_, ?_⟩
  · unfold hjF
    rw [hGA, if_neg (by simp)]
    exact Prod.ext hV1 h2
  · unfold liveF
    have e0 : ofE L = 0 := by
      unfold ofE
      rw [if_neg (by have := hL.len; omega), if_pos (List.all_eq_true.2 hL.1)]
    rw [if_pos e0, hset, setOf_self hL]
    have hk : chk2 L C = 0 := by unfold chk2; rw [if_pos (chkS_zero.2 hL)]; exact chkS_zero.2 hC
    unfold combF
    rw [if_pos hk]
    refine (hL.eq_setA _ (fun p hp => ?_)).symm
    show (mem (p : Int) L && mem (p : Int) C) = mem (p : Int) L
    cases hm : mem (p : Int) L with
    | false => rfl
    | true => rw [(subF_iff hL).1 hs _ (mem_pagesOf.2 hm)]; rfl
  · exact chkH_zero.2 ⟨hC, hL, fun g hg => inG_iff.2 (hfull g hg).1, hs, hugOk_of _ _ hasc (fun g hg => ⟨by have := (hfull g hg).1.1; omega, (hfull g hg).2⟩)⟩
  · have e1 := huge_grps hi ho
    have e2 : hugesF V1 1024 = grps.filter fun g => decide (g ∈ H) || (!decide (g ∈ H) && (grpF C g == 16)) :=
      asc_eq hasc (grps_lt.filter _) fun x => by
        rw [hmem, List.mem_filter, mem_grps, whole_mem]
        constructor
        · rintro (h | ⟨a, b, c⟩)
          · exact ⟨inG_iff.1 (hi x h), by simp [h]⟩
          · exact ⟨a, by simp [b, c]⟩
        · rintro ⟨a, b⟩
          by_cases h : x ∈ H
          · exact .inl h
          · exact .inr ⟨a, h, by simpa [h] using b⟩
    have e3 := filt_add (p := fun g : Int => decide (g ∈ H)) (q := fun g => !decide (g ∈ H) && (grpF C g == 16)) grps (fun x _ h1 h2 => by
      rw [h1] at h2; cases h2)
    rw [e2, e3, e1]; rfl
  · rw [List.eq_nil_iff_forall_not_mem]
    intro g hg
    obtain ⟨a, b, c⟩ := whole_mem.1 hg
    apply b
    rw [hmem]
    by_cases h : g ∈ H
    · exact .inl h
    · exact .inr (whole_mem.2 ⟨a, h, c⟩)
theorem cntN_le {f g : Int → Bool} : ∀ (k : Nat) (a : Int), (∀ q, a ≤ q → q < a + k → f q = true → g q = true) → cntN f k a ≤ cntN g k a
  | 0, _, _ => Int.le_refl _
  | k + 1, a, h => by
    rw [cntN, cntN]
    have ih := cntN_le (f := f) (g := g) k (a + 1) (fun q h1 h2 => h q (by omega) (by omega))
    have h0 := h a (by omega) (by omega)
    cases hf : f a with
    | false =>
      cases hg : g a with
      | false => simpa using ih
      | true => simp; omega
    | true =>
      rw [h0 hf]; simp; omega
/-- so many as none are chosen -/
theorem choose_none {C L : List Sp} {H : List Int} (hz : chkH C L H = 0) (ord : List Gp) : chooseA C L H 0 ord = ([], 0) := by
  obtain ⟨hC, hL, hi, hs, ho⟩ := chkH_zero.1 hz
  have hv : 0 ≤ haveF (gsH C L H) := by
    have hsub : ∀ x ∈ gsH C L H, x.2.2.1 ≤ x.2.1 := fun x hx => by
      rw [gsH_map] at hx
      obtain ⟨g, _, rfl⟩ := List.mem_map.1 hx
      exact cntN_le 16 (16 * g) (fun q _ _ h => (subF_iff hL).1 hs q (mem_pagesOf.2 h))
    generalize gsH C L H = l at hsub
    induction l with
    | nil => exact Int.le_refl _
    | cons x r ih =>
      have e : haveF (x :: r) = (if x.2.2.2 then 0 else x.2.1 - x.2.2.1) + haveF r := by simp [haveF]
      have := ih (fun y hy => hsub y (by simp [hy]))
      have := hsub x (by simp)
      rw [e]
      split
      · omega
      · omega
  have hcut : ∀ l, cutH 0 (haveF (gsH C L H)) l = [] := fun l => by
    cases l with
    | nil => rfl
    | cons g r => rw [cutH, if_pos hv]
  unfold chooseA
  rw [if_neg (by rw [hz]; simp), if_neg (by omega), hcut]
  have hi0 : idleG [] = 0 := rfl
  rw [if_neg (by rw [hi0]; omega)]
  unfold firH
  rw [show (0 : Int).toNat = 0 from rfl, List.take_zero]
  have hs0 : setOf (onesF []) = [] := setOf_self (us := []) ⟨fun x hx => (by cases hx), rfl⟩
  rw [hs0]
end Go.Pol
