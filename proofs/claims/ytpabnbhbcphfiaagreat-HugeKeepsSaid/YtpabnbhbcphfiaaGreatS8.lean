/- Merged texts. Walks of law 13's own functions: stated. Plain laws of law 13's system without refusals: what it is, what huge's Join makes of it, and what is said of it afterwards. What a change of pages makes of a system, by cases. Plain law for Choose of layer 13: an insertion sort by live pages keeps the order of the numbers. Plain laws for Choose of layer 13: sums over the first of a sorted list are the least. Walks of layer 13: the reference's sets, Cost. Walk of layer 13: the reference's Choose. Plain laws for Choose of layer 13: how many pages are idle outside the groups that stay huge. Plain laws for Choose of layer 13: which groups a choice touches; which of two choices comes first. Plain laws for Choose of layer 13: the greedy choice is better than any other one. Plain law for Choose of layer 13: the program's answer is the reference's. Plain law of HugeFewest: what is chosen has so many idle pages, and no choice of as many touches fewer huge groups, or as many with fewer live pages. Plain laws of a system with huge groups, whatever is refused: what Join and Back keep of it, and what is said of it afterwards. Plain laws of a system with huge groups, whatever is refused: what Back keeps of it. Plain law of a stable merge in place: rotations, exchanges of neighbours, what a merge leaves. Plain law of a stable merge in place: what a merge leaves. -/
import Derived.Test.YtpabnbhbcphfiaaGreatS7
namespace Go.Pol
open Go Go.Proofs Go.RowKit
/-- the huge groups of a system, as the law sees them -/
def hugesF (V : Vm) : Nat → List Int
  | 0 => []
  | k + 1 => if (V.pg k).huge = true ∧ k % 16 = 0 then hugesF V k ++ [((k / 16 : Nat) : Int)] else hugesF V k
theorem hugesF_len (V : Vm) : ∀ k, (hugesF V k).length ≤ k
  | 0 => Nat.le_refl _
  | k + 1 => by
    have := hugesF_len V k
    unfold hugesF
    split
    · rw [List.length_append, List.length_singleton]; omega
    · omega
def comF (V : Vm) (p : Nat) : Bool := (V.pg p).kind == 2
def comK (V : Vm) (i p : Nat) : Bool := decide (p < i) && comF V p
/-- the live pages that stated takes -/
def liveF (V : Vm) (vs : List Sp) : List Sp := combF 2 (if ofE vs = 0 then setOf vs else []) (setA (comF V))
end Go.Pol
namespace Go.Proofs.YtpabnbhbcphfiaaGreat
open Go Go.Proofs Go.RowKit Go.Pol Go.Shelf
attribute [local go_sem] Oper.semAt_some Go.Pol.wide_fn Go.Pol.wide_depth Go.Pol.wide_fn' Go.Pol.wide_depth'

/-- the slots that the last statement of stated writes -/
def sput (a : Act) (v63 v64 v65 v66 v5 : Value) : Act := ((((a.put (some 63) v63).put (some 64) v64).put (some 65) v65).put (some 66) v66).put (some 5) v5
theorem sput_self (a : Act) (hsz : 67 ≤ a.tmps.size) : sput a (a.eval (.tmp 63)) (a.eval (.tmp 64)) (a.eval (.tmp 65)) (a.eval (.tmp 66)) (a.eval (.tmp 5)) = a := by
  have h : ∀ t : Nat, t < 67 → a.put (some t) (a.eval (.tmp t)) = a := fun t ht => by
    have : a.tmps.setIfInBounds t (a.eval (.tmp t)) = a.tmps := by
      apply Array.ext_getElem?
      intro i
      rw [Array.getElem?_setIfInBounds]
      split
      · rename_i e; subst e
        have : t < a.tmps.size := by omega
        simp [Act.eval, this]
      · rfl
    simp only [Act.put, this]
  unfold sput
  rw [h 63 (by omega), h 64 (by omega), h 65 (by omega), h 66 (by omega), h 5 (by omega)]
section
variable (a : Act) (v63 v64 v65 v66 v5 x : Value)
theorem sput_63 : (sput a v63 v64 v65 v66 v5).put (some 63) x = sput a x v64 v65 v66 v5 := by
  unfold sput
  rw [swapU _ 5 63 _ _ (by omega), swapU _ 66 63 _ _ (by omega), swapU _ 65 63 _ _ (by omega), swapU _ 64 63 _ _ (by omega), putU]
theorem sput_64 : (sput a v63 v64 v65 v66 v5).put (some 64) x = sput a v63 x v65 v66 v5 := by
  unfold sput
  rw [swapU _ 5 64 _ _ (by omega), swapU _ 66 64 _ _ (by omega), swapU _ 65 64 _ _ (by omega), putU]
theorem sput_65 : (sput a v63 v64 v65 v66 v5).put (some 65) x = sput a v63 v64 x v66 v5 := by
  unfold sput
  rw [swapU _ 5 65 _ _ (by omega), swapU _ 66 65 _ _ (by omega), putU]
theorem sput_66 : (sput a v63 v64 v65 v66 v5).put (some 66) x = sput a v63 v64 v65 x v5 := by
  unfold sput
  rw [swapU _ 5 66 _ _ (by omega), putU]
theorem sput_5 : (sput a v63 v64 v65 v66 v5).put (some 5) x = sput a v63 v64 v65 v66 x := by
  unfold sput
  rw [putU]
end
section
variable (a : Act) (hsz : 67 ≤ a.tmps.size) (v63 v64 v65 v66 v5 : Value)
include hsz
theorem sev_63 : (sput a v63 v64 v65 v66 v5).eval (.tmp 63) = v63 := by
  unfold sput
  rw [evalU_ne _ 5 63 _ (by omega), evalU_ne _ 66 63 _ (by omega), evalU_ne _ 65 63 _ (by omega), evalU_ne _ 64 63 _ (by omega), evalU_same _ _ _ (by omega)]
theorem sev_64 : (sput a v63 v64 v65 v66 v5).eval (.tmp 64) = v64 := by
  unfold sput
  rw [evalU_ne _ 5 64 _ (by omega), evalU_ne _ 66 64 _ (by omega), evalU_ne _ 65 64 _ (by omega), evalU_same _ _ _ (by rw [sizeU]; omega)]
theorem sev_65 : (sput a v63 v64 v65 v66 v5).eval (.tmp 65) = v65 := by
  unfold sput
  rw [evalU_ne _ 5 65 _ (by omega), evalU_ne _ 66 65 _ (by omega), evalU_same _ _ _ (by rw [sizeU, sizeU]; omega)]
theorem sev_66 : (sput a v63 v64 v65 v66 v5).eval (.tmp 66) = v66 := by
  unfold sput
  rw [evalU_ne _ 5 66 _ (by omega), evalU_same _ _ _ (by rw [sizeU, sizeU, sizeU]; omega)]
omit hsz in
theorem sev_4 : (sput a v63 v64 v65 v66 v5).eval (.tmp 4) = a.eval (.tmp 4) := by
  unfold sput
  rw [evalU_ne _ 5 4 _ (by omega), evalU_ne _ 66 4 _ (by omega), evalU_ne _ 65 4 _ (by omega), evalU_ne _ 64 4 _ (by omega), evalU_ne _ 63 4 _ (by omega)]
omit hsz in
theorem sev_7 : (sput a v63 v64 v65 v66 v5).eval (.tmp 7) = a.eval (.tmp 7) := by
  unfold sput
  rw [evalU_ne _ 5 7 _ (by omega), evalU_ne _ 66 7 _ (by omega), evalU_ne _ 65 7 _ (by omega), evalU_ne _ 64 7 _ (by omega), evalU_ne _ 63 7 _ (by omega)]
end
noncomputable def statedOps : Array Oper := (Tryz.f40.body.bind (regOpsU 17)).getD #[]
/-- what is known when some operations of the last statement are done -/
def LastInv (a0 : Act) (w0 : World) (s : Nat) (y1 y2 y3 : Value) (ck : Int) (D : Nat → Bool) (a : Act) (w : World) : Prop :=
  ∃ v63 v64 v65 v66 v5 : Value, a = sput a0 v63 v64 v65 v66 v5 ∧ Far (fun k => k = s) w0 w ∧ (D 0 = true → v63 = .agg #[y1, y2, y3]) ∧ (D 1 = true → v64 = .agg #[y1, y2, y3]) ∧ (D 2 = true → v65 = .int .i64 ck) ∧
    (D 3 = true → v66 = .bool (ck == 0)) ∧ (D 5 = true → v5 = .bool (ck == 0)) ∧ Blk w s 94 (if D 4 = true then #[y1, y2, y3] else #[.slice none 0 0, .slice none 0 0, .slice none 0 0])
attribute [local irreducible] Oper.wp in
set_option maxHeartbeats 800000 in
theorem stated_last {Q : Exit → Act → World → Prop} (a0 : Act) (w0 : World) (s : Nat) (A1 A2 A3 : Option Addr) (n1 c1 n2 c2 n3 c3 : Nat) (ck : Int) (hsz : 67 ≤ a0.tmps.size)
    (h7 : a0.eval (.tmp 7) = .pointer (some ⟨s + 2, 0, none⟩)) (h4 : a0.eval (.tmp 4) = .pointer (some ⟨s, 0, none⟩))
    (kS : Blk w0 s 94 #[.slice none 0 0, .slice none 0 0, .slice none 0 0]) (kR : Blk w0 (s + 2) 94 #[.slice A1 n1 c1, .slice A2 n2 c2, .slice A3 n3 c3])
    (HC : ∀ W, Far (fun k => k = s) w0 W → Calls Tryz.prog 104 #[.agg #[.slice A1 n1 c1, .slice A2 n2 c2, .slice A3 n3 c3]] W fun e w' => e = .returned (.int .i64 ck) ∧ Below W.heap.size W w')
    (hQ : ∀ w', Far (fun k => k = s) w0 w' → Blk w' s 94 #[.slice A1 n1 c1, .slice A2 n2 c2, .slice A3 n3 c3] →
      Q .normal (sput a0 (.agg #[.slice A1 n1 c1, .slice A2 n2 c2, .slice A3 n3 c3]) (.agg #[.slice A1 n1 c1, .slice A2 n2 c2, .slice A3 n3 c3]) (.int .i64 ck) (.bool (ck == 0)) (.bool (ck == 0))) w') :
    (Code.region 17 statedOps true).wp Tryz.prog Q a0 w0 := by
  conv => arg 2; arg 2; whnf
  refine region_inv (LastInv a0 w0 s (.slice A1 n1 c1) (.slice A2 n2 c2) (.slice A3 n3 c3) ck) (by kernel_rfl) (by simp [edgesDown, Region.binds]) ?ext ?start ?steps ?fin
  case ext =>
    intro D D' a w h hI
    have e : ∀ i, i < 6 → D i = D' i := h
    have : LastInv a0 w0 s (.slice A1 n1 c1) (.slice A2 n2 c2) (.slice A3 n3 c3) ck D a w = LastInv a0 w0 s (.slice A1 n1 c1) (.slice A2 n2 c2) (.slice A3 n3 c3) ck D' a w := by
      unfold LastInv
      simp only [e 0 (by omega), e 1 (by omega), e 2 (by omega), e 3 (by omega), e 4 (by omega), e 5 (by omega)]
    exact this ▸ hI
  case start =>
    intro D h
    have e : ∀ i, i < 6 → D i = false := h
    refine ⟨_, _, _, _, _, (sput_self a0 hsz).symm, Far.of_below (Below.refl _ w0).drew, ?_⟩
    have n : ∀ i, i < 6 → ¬ (D i = true) := fun i hi => by rw [e i hi]; decide
    refine ⟨fun h => absurd h (n 0 (by omega)), fun h => absurd h (n 1 (by omega)), fun h => absurd h (n 2 (by omega)), fun h => absurd h (n 3 (by omega)), fun h => absurd h (n 5 (by omega)), ?_⟩
    rw [if_neg (n 4 (by omega))]
    exact kS.drew
  case fin =>
    rintro a w ⟨v63, v64, v65, v66, v5, rfl, hF, h0, h1, h2, h3, h5, hk⟩
    obtain rfl := h0 rfl
    obtain rfl := h1 rfl
    obtain rfl := h2 rfl
    obtain rfl := h3 rfl
    obtain rfl := h5 rfl
    exact hQ w hF hk
  case steps =>
    refine ⟨?_, ?_, ?_, ?_, ?_, ?_, trivial⟩
    all_goals (rintro D a w ⟨v63, v64, v65, v66, v5, rfl, hF, h0, h1, h2, h3, h5, hk⟩ hkk he)
    all_goals (refine step_plainU rfl ?_)
    all_goals (have cR := (hF.blk kR (by omega)).cell)
    · refine wp_valU (v := .agg #[.slice A1 n1 c1, .slice A2 n2 c2, .slice A3 n3 c3]) (w' := w) (by simp only [execOp, sev_7, h7]; simp [go_sem, cR]) ?_
      show LastInv a0 w0 s _ _ _ ck _ ((sput a0 v63 v64 v65 v66 v5).put (some 63) _) w; rw [sput_63]
      refine ⟨_, _, _, _, _, rfl, hF, ?_⟩
      simp only [Nat.reduceBEq, Bool.true_or, Bool.false_or, forall_const]
      exact ⟨trivial, h1, h2, h3, h5, hk⟩
    · refine wp_valU (v := .agg #[.slice A1 n1 c1, .slice A2 n2 c2, .slice A3 n3 c3]) (w' := w) (by simp only [execOp, sev_7, h7]; simp [go_sem, cR]) ?_
      show LastInv a0 w0 s _ _ _ ck _ ((sput a0 v63 v64 v65 v66 v5).put (some 64) _) w; rw [sput_64]
      refine ⟨_, _, _, _, _, rfl, hF, ?_⟩
      simp only [Nat.reduceBEq, Nat.reduceAdd, Bool.true_or, Bool.false_or, forall_const]
      exact ⟨h0, trivial, h2, h3, h5, hk⟩
    · have e := h1 (he ⟨1, .data⟩ (by simp) rfl)
      have ev' : (sput a0 v63 v64 v65 v66 v5).tmps[64]?.getD undef = .agg #[.slice A1 n1 c1, .slice A2 n2 c2, .slice A3 n3 c3] := by
        have := (sev_64 a0 hsz v63 v64 v65 v66 v5).trans e
        simpa [Act.eval] using this
      refine wp_enterU (f := 104) (args := #[.agg #[.slice A1 n1 c1, .slice A2 n2 c2, .slice A3 n3 c3]]) (w1 := w) (by simp only [execOp]; simp [go_sem, ev']) (HC w hF) ?_
      intro w' hb
      show LastInv a0 w0 s _ _ _ ck _ ((sput a0 v63 v64 v65 v66 v5).put (some 65) _) w'; rw [sput_65]
      refine ⟨_, _, _, _, _, rfl, hF.trans (Far.of_below hb), ?_⟩
      simp only [Nat.reduceBEq, Nat.reduceAdd, Bool.true_or, Bool.false_or, forall_const]
      exact ⟨h0, h1, trivial, h3, h5, hk.call hb⟩
    · have e := h2 (he ⟨2, .data⟩ (by simp) rfl)
      refine wp_valU (v := .bool (ck == 0)) (w' := w) (by simp only [execOp, sev_65 _ hsz, e]; simp [go_sem]) ?_
      show LastInv a0 w0 s _ _ _ ck _ ((sput a0 v63 v64 v65 v66 v5).put (some 66) _) w; rw [sput_66]
      refine ⟨_, _, _, _, _, rfl, hF, ?_⟩
      simp only [Nat.reduceBEq, Nat.reduceAdd, Bool.true_or, Bool.false_or, forall_const]
      exact ⟨h0, h1, h2, trivial, h5, hk⟩
    · have e := h0 (he ⟨0, .data⟩ (by simp) rfl)
      have hk2 : Blk w s 94 #[.slice none 0 0, .slice none 0 0, .slice none 0 0] := by rw [hkk] at hk; exact hk
      have cS := hk2.cell
      have fS := hk2.frozen
      refine wp_skipU rfl (w' := ((w.setCell ⟨s, 0, none⟩ (.slice A1 n1 c1)).setCell ⟨s, 1, none⟩ (.slice A2 n2 c2)).setCell ⟨s, 2, none⟩ (.slice A3 n3 c3)) (by simp only [execOp, sev_63 _ hsz, sev_4, e, h4]; simp [go_sem, cS, fS]) ?_
      refine ⟨_, _, _, _, _, rfl, ((hF.setCell (p := ⟨s, 0, none⟩) (fun _ => rfl) _).setCell (p := ⟨s, 1, none⟩) (fun _ => rfl) _).setCell (p := ⟨s, 2, none⟩) (fun _ => rfl) _, ?_⟩
      simp only [Nat.reduceBEq, Nat.reduceAdd, Bool.true_or, Bool.false_or, if_true]
      exact ⟨h0, h1, h2, h3, h5, ((hk2.set_ 0 _).set_ 1 _).set_ 2 _⟩
    · have e := h3 (he ⟨3, .data⟩ (by simp) rfl)
      refine wp_valU (v := .bool (ck == 0)) (w' := w) (by simp only [execOp, sev_66 _ hsz, e]; simp [go_sem]) ?_
      show LastInv a0 w0 s _ _ _ ck _ ((sput a0 v63 v64 v65 v66 v5).put (some 5) _) w; rw [sput_5]
      refine ⟨_, _, _, _, _, rfl, hF, ?_⟩
      simp only [Nat.reduceBEq, Nat.reduceAdd, Bool.true_or, Bool.false_or, forall_const]
      exact ⟨h0, h1, h2, h3, trivial, hk⟩

/-- a state whose lists lie in memory from a bound on -/
def FrS (B : Nat) (S : Value) : Prop := ∃ (A1 A2 A3 : Option Addr) (n1 c1 n2 c2 n3 c3 : Nat), S = .agg #[.slice A1 n1 c1, .slice A2 n2 c2, .slice A3 n3 c3] ∧ (∀ g o, A1 = some ⟨g, o, none⟩ → B ≤ g) ∧ (∀ g o, A2 = some ⟨g, o, none⟩ → B ≤ g) ∧ ∀ g o, A3 = some ⟨g, o, none⟩ → B ≤ g
def StatedN (V : Vm) (vs : List Sp) (w : World) (e : Ending) (w' : World) : Prop := ∃ S, e = .returned (.tuple #[S, .bool (chkH (setA (comF V)) (liveF V vs) (hugesF V 1024) == 0)]) ∧ StIs w' S (setA (comF V)) (liveF V vs) (hugesF V 1024) ∧ Below w.heap.size w w' ∧ FrS w.heap.size S

set_option maxRecDepth 100000 in
set_option maxHeartbeats 3200000 in
theorem statedN_any (b : Nat) (A : Option Addr) (n cap : Nat) (vs : List Sp) (V : Vm) (w : World) (hV : SysIs w b V) (hn : vs.length = n) (hm : n ≤ maxLen) (hr : RU w w.heap.size A vs) :
    Calls Tryz.prog 40 #[.pointer (some ⟨b, 0, none⟩), .slice A n cap] w (StatedN V vs w) := by
  obtain ⟨i0, hi, hz0, hz1, hz2⟩ := info_parts infoIn
  have HK : Hid (∀ (i : Nat), i < 1024 → ∀ W, SysIs W b V → Calls Tryz.prog 29 #[.pointer (some ⟨b, 0, none⟩), .int .i64 i] W fun e w' => e = .returned (.tuple #[.int .i64 (V.pg i).kind, .bool (V.pg i).huge, .int .i64 0]) ∧ Below W.heap.size W w') := Lib.hid (fun i hi W h => by
    have h9 := vkind_any b (i : Int) V W h
    have hc : (0 : Int) ≤ (i : Int) ∧ (i : Int) < 1024 := by omega
    rw [if_pos hc, if_pos hc, if_pos hc, Int.toNat_natCast] at h9
    exact h9)
  have hV0 := Lib.hid hV
  have hr0 := Lib.hid hr
  have hbs := hV.lt
  obtain ⟨s, hs⟩ : ∃ s, w.heap.size = s := ⟨_, rfl⟩
  have hsz1 : (w.alloc (.cells #[.slice none 0 0, .slice none 0 0, .slice none 0 0] 94)).heap.size = s + 1 := by rw [World.size_alloc, hs]
  obtain ⟨W1, hW1⟩ : ∃ W1, w.alloc (.cells #[.slice none 0 0, .slice none 0 0, .slice none 0 0] 94) = W1 := ⟨_, rfl⟩
  have hb1 : Below s w W1 := by rw [← hW1, ← hs]; exact (Below.refl w.heap.size w).alloc (Nat.le_refl _) _
  have k4 : Blk W1 s 94 #[.slice none 0 0, .slice none 0 0, .slice none 0 0] := by rw [← hW1, ← hs]; exact Blk.new _ _ _
  rw [hW1] at hsz1
  have hb2 := hb1.alloc (by omega) (.cells Tryz.zeroCells186 186)
  have k42 := k4.alloc (.cells Tryz.zeroCells186 186)
  have k62 := Blk.new W1 186 Tryz.zeroCells186
  have hsz2 : (W1.alloc (.cells Tryz.zeroCells186 186)).heap.size = s + 2 := by rw [World.size_alloc, hsz1]
  have hZ := zeros_are
  rw [hsz1] at k62
  clear hV hr k4 hb1
  go_enter Tryz.func40, Tryz.ntmps40
  go_upto_region 1 with fail
  try rw [hW1]
  clear hW1
  go_upto_region 2 with fail
  generalize W1.alloc (.cells Tryz.zeroCells186 186) = W2 at *
  generalize Tryz.zeroCells186 = Z at *
  have hb3 := hb2.alloc (by omega) (.cells #[.slice none 0 0, .slice none 0 0, .slice none 0 0] 94)
  have k43 := k42.alloc (.cells #[.slice none 0 0, .slice none 0 0, .slice none 0 0] 94)
  have k63 := k62.alloc (.cells #[.slice none 0 0, .slice none 0 0, .slice none 0 0] 94)
  have k73 := Blk.new W2 94 #[.slice none 0 0, .slice none 0 0, .slice none 0 0]
  have hsz3 : (W2.alloc (.cells #[.slice none 0 0, .slice none 0 0, .slice none 0 0] 94)).heap.size = s + 3 := by rw [World.size_alloc, hsz2]
  rw [hsz2] at k73
  go_upto_region 3 with fail
  generalize W2.alloc _ = W3 at *
  clear k42 k62 hb2 hsz1 hsz2
  go_wp2_with fail
  go_loopw [8] (fun u wr => ∃ (i : Nat) (cs : Array Value) (v : Value) (l : List Int), i ≤ 1024 ∧ u = .int .i64 i ∧ Blk wr s 94 #[.slice none 0 0, .slice none 0 0, .slice none 0 0] ∧ Blk wr (s + 1) 186 cs ∧ MarksAre cs (comK V i) ∧ Blk wr (s + 2) 94 #[.slice none 0 0, .slice none 0 0, v] ∧ Hid (hugesF V i = l) ∧ wr.ownsRow (s + 3) 3 1 v l.length (l.map (Value.int .i64)) ∧ s + 3 ≤ wr.heap.size ∧ Below s w wr) (fun u _ => 1024 - (intOf u).toNat)
  case atStart => exact ⟨0, Z, _, [], by omega, rfl, k43, k63, ⟨hZ.size, fun k hk => by rw [hZ.at_ k hk]; simp [comK]⟩, k73, Lib.hid rfl, World.ownsRow_nil _ _ _ _, by omega, hb3⟩
  case round =>
    clear k43 k63 k73 hsz3 hb3 hZ
    obtain ⟨i, cs, v, l, hi1, rfl, k4, k6, hM, k7, hl, hrow, hsz, hB⟩ := hrel
    by_cases hlt : i < 1024
    · have hil : (i : Int) < 1024 := by omega
      have hlt' : decide ((i : Int) < 1024) = true := by simpa using hil
      have HKi := Lib.hid (HK.out i hlt wr (hV0.out.call (by rw [hs]; exact hB)))
      have hll : l.length ≤ i := by rw [← hl.out]; exact hugesF_len V i
      have hstep : Hid (hugesF V (i + 1) = if (V.pg i).huge = true ∧ i % 16 = 0 then l ++ [((i / 16 : Nat) : Int)] else l) := Lib.hid (by rw [← hl.out]; rfl)
      have hst := Lib.hid (hM.set (g := comK V (i + 1)) i hlt ((V.pg i).kind == 2) (by simp [comK, comF]) (fun q hq => by
        unfold comK
        by_cases h : q < i
        · rw [decide_eq_true h, decide_eq_true (by omega : q < i + 1)]
        · rw [decide_eq_false h, decide_eq_false (by omega : ¬ q < i + 1)]))
      have hold := hM.at_ i hlt
      generalize comK V i i = B0 at hold
      generalize (V.pg i).kind = kd at *
      generalize (V.pg i).huge = hg at *
      clear hM
      go_wp2_with fail
      refine HKi.out.mono ?_
      rintro e w3 ⟨rfl, hb3⟩
      have k43 := k4.call hb3
      have k63 := k6.call hb3
      have k73 := k7.call hb3
      have hrow3 := ownsRow_call hrow hb3
      have hsz3 := hb3.size
      have B3 := hB.trans (hb3.mono (by omega))
      have c6 := (k63.cell i).trans hold
      have f6 := k63.frozen i
      have F4 := Far.setCell (T := fun k => k = s + 1) (p := ⟨s + 1, i, none⟩) (Far.refl _ w3) (fun _ => rfl) (.bool (kd == 2))
      have k64 := k63.set_ i (.bool (kd == 2))
      clear k4 k6 k7 hrow hb3 hB hold HKi
      go_upto_region 10 with fail
      generalize w3.setCell ⟨s + 1, i, none⟩ _ = w4 at *
      have k44 := F4.blk k43 (by show ¬ s = s + 1; omega)
      have k74 := F4.blk k73 (by show ¬ s + 2 = s + 1; omega)
      have hrow4 := ownsRow_far hrow3 F4 (fun g hg h => by have := (hrow3.lt g hg).1; omega)
      have hsz4 := F4.size
      have B4 := B3.trans (F4.below (by omega) (fun k hk e => by omega))
      clear F4 k43 k63 k73 hrow3 B3 c6 f6
      obtain ⟨rm, hrm, hrz⟩ : ∃ rm : Int, Int.tmod (i : Int) 16 = rm ∧ (rm = 0 ↔ i % 16 = 0) := ⟨_, rfl, by rw [Int.tmod_eq_emod_of_nonneg (by omega)]; omega⟩
      obtain ⟨x, hdv, hxv⟩ : ∃ x : Int, Int.tdiv (i : Int) 16 = x ∧ x = ((i / 16 : Nat) : Int) := ⟨_, rfl, by rw [Int.tdiv_eq_ediv_of_nonneg (by omega)]; omega⟩
      have hwq : wrap64 x = x := by unfold wrap64; omega
      rw [← hxv] at hstep
      clear hxv
      have hst3 := hstep.out
      by_cases hc : hg = true ∧ i % 16 = 0
      · rw [if_pos hc] at hst3
        obtain ⟨rfl, hm0⟩ := hc
        have hm1 : (rm == 0) = true := by rw [hrz.2 hm0]; rfl
        have hst4 := Lib.hid hst3
        clear hst3 hstep hrz hm0
        obtain ⟨ll, hl2⟩ : ∃ ll, l.length = ll := ⟨_, rfl⟩
        rw [hl2] at hrow4 hll
        obtain ⟨A', cap', rfl, _⟩ := own_RIx hrow4 hl2
        have c7 := k74.cell 2
        have kN := Blk.new w4 3 #[.int .i64 x]
        have hbN : Below w4.heap.size w4 (w4.alloc (.cells #[.int .i64 x] 3)) := (Below.refl _ _).alloc (Nat.le_refl _) _
        have k7N := k74.alloc (.cells #[.int .i64 x] 3)
        have hrl := hrow4.lt
        have hst5 := Lib.hid hst.out
        clear hst
        go_wp2_with (refine wpList_append_own _ rfl (.tmp 39) (.tmp 42) 47 rfl (s + 3) 3 i0 (.int .i64 0) 1 8 Tryz.underlying47 hi hz0 hz1 hz2 rfl (by decide) _ ll (l.map (Value.int .i64)) rfl (hrow4.alloc _) ⟨w4.heap.size, 0, none⟩ 1 1 [.int .i64 x] rfl rfl (news_i kN) ints_one (by unfold maxLen; omega) (by omega) (by simp; omega) ?_; intro v' w7 hown' hgrow _; rw [show l.map (Value.int .i64) ++ [Value.int .i64 x] = (l ++ [x]).map (Value.int .i64) by simp] at hown'; obtain ⟨A2, cap2, rfl, _⟩ := own_RIx hown' (by simp; omega); have k79 := k7N.grown hgrow (fun e => by have := (hrl (s + 2) e.symm).1; omega); have f79 := k79.frozen 2; have c79 := k79.cell 2)
        have k7b := k79.set_ 2 (.slice A2 (ll + 1) cap2)
        have F8 := Far.setCell (T := fun k => k = s + 2) (p := ⟨s + 2, 2, none⟩) (Far.refl _ w7) (fun _ => rfl) (.slice A2 (ll + 1) cap2)
        have F7 : Far (fun k => (Value.slice A' ll cap').ownBlock = some k) w4 w7 := (Far.of_below hbN).grown hgrow (fun g hg _ => hg)
        have k47 := F7.blk k44 (fun h => by have := (hrl s h).1; omega)
        have k67 := F7.blk k64 (fun h => by have := (hrl (s + 1) h).1; omega)
        have B7 := B4.trans (F7.below (by omega) (fun k hk h => by have := (hrl k h).1; omega))
        have hsz7 := F7.size
        go_roundw
        case rel => exact ⟨i + 1, _, _, l ++ [x], by omega, by go_num, F8.blk k47 (by show ¬ s = s + 2; omega), F8.blk k67 (by show ¬ s + 1 = s + 2; omega), hst5.out, k7b, hst4, by rw [List.length_append, List.length_singleton, hl2]; exact ownsRow_far hown' F8 (fun g hg h => by have := (hown'.lt g hg).1; omega), by have := F8.size; omega, B7.trans (F8.below (by have := B7.size; omega) (fun k hk e => by omega))⟩
        case measure => simp [intOf]; omega
      · rw [if_neg hc] at hst3
        have hst4 := Lib.hid hst3
        clear hst3 hstep
        cases hg with
        | false =>
          clear hc
          go_wp2_with fail
          go_roundw
          case rel => exact ⟨i + 1, _, v, l, by omega, by go_num, k44, k64, hst.out, k74, hst4, hrow4, by omega, B4⟩
          case measure => simp [intOf]; omega
        | true =>
          have hm0 : ¬ (rm = 0) := fun h => hc ⟨rfl, hrz.1 h⟩
          have hm1 : (rm == 0) = false := by simpa using hm0
          clear hc hm0 hrz
          go_wp2_with fail
          go_roundw
          case rel => exact ⟨i + 1, _, v, l, by omega, by go_num, k44, k64, hst.out, k74, hst4, hrow4, by omega, B4⟩
          case measure => simp [intOf]; omega
    · obtain rfl : i = 1024 := by omega
      have hlt' : decide (((1024 : Nat) : Int) < 1024) = false := by simp
      have hMM : MarksAre cs (comF V) := ⟨hM.size, fun k hk => by rw [hM.at_ k hk]; simp [comK, hk]⟩
      have HSet := Lib.hid (refSet_any cs (comF V) wr hMM)
      have HOf := Lib.hid (fun W h => refOf_any A n cap vs W hn hm h)
      have hcz := hM.size
      obtain ⟨L7, hL7⟩ : ∃ L7, (if ofE vs = 0 then setOf vs else []) = L7 := ⟨_, rfl⟩
      obtain ⟨er, her⟩ : ∃ er, ofE vs = er := ⟨_, rfl⟩
      obtain ⟨CS, hCS⟩ : ∃ CS, setA (comF V) = CS := ⟨_, rfl⟩
      have hL0 : Hid (er ≠ 0 → L7 = []) := Lib.hid (fun h => by rw [← hL7, if_neg (by rw [her]; exact h)])
      have hQ' : Hid (∀ S w', StIs w' S CS (combF 2 L7 CS) l → Below s w w' → FrS s S → StatedN V vs w (.returned (.tuple #[S, .bool (chkH CS (combF 2 L7 CS) l == 0)])) w') := Lib.hid (fun S w' h1 h2 h3 => by
        refine ⟨S, ?_, ?_, by rw [hs]; exact h2, by rw [hs]; exact h3⟩
        · unfold liveF; rw [hL7, hCS, hl.out]
        · unfold liveF; rw [hL7, hCS, hl.out]; exact h1)
      rw [hL7, her] at HOf
      rw [hCS] at HSet
      have hl' := hugesF_len V 1024
      rw [hl.out] at hl'
      clear hL7 her hCS hM hMM HK hl
      go_wp2_with (refine wpList_load_mid rfl 186 (.tmp 6) rfl (s + 1) 0 rfl cs.toList _ (rangeAt_blk k6) Tryz.underlying186 rfl (by rw [Array.length_toList, hcz]; kernel_rfl) ?_; rw [Array.toArray_toList])
      refine HSet.out.mono ?_
      rintro e w5 ⟨A5, c5, rfl, u5, m1, m2, m3, hb5⟩
      have k75 := k7.call hb5
      have k45 := k4.call hb5
      have hrow5 := ownsRow_call hrow hb5
      have B5 := hB.trans (hb5.mono (by omega))
      have hsz5 := hb5.size
      have c70 := k75.cell
      have f70 := k75.frozen
      clear HSet k4 k6 k7 hrow hb5 hB hcz
      go_upto_region 13 with fail
      have F6 := Far.setCell (T := fun k => k = s + 2) (p := ⟨s + 2, 0, none⟩) (Far.refl _ w5) (fun _ => rfl) (.slice A5 CS.length c5)
      have k76 := k75.set_ 0 (.slice A5 CS.length c5)
      generalize w5.setCell ⟨s + 2, 0, none⟩ _ = w6 at *
      have k46 := F6.blk k45 (by show ¬ s = s + 2; omega)
      have hrow6 := ownsRow_far hrow5 F6 (fun g hg h => by have := (hrow5.lt g hg).1; omega)
      have B6 := B5.trans (F6.below (by omega) (fun k hk e => by omega))
      have u6 := (F6.ru u5 (fun b o e h => by have := m3 b o e; omega)).more F6.size
      have hsz6 := F6.size
      have hlen5 : CS.length ≤ maxLen := by omega
      clear F6 k45 k75 hrow5 B5 u5 c70 f70
      have r6 : RU w6 w6.heap.size A vs := hr0.out.on (by rw [hs]; exact B6)
      go_wp2_with fail
      refine (HOf.out _ r6).mono ?_
      rintro e w7 ⟨A7, c7, rfl, u7, n1, n2, n3, hb7⟩
      have k77 := k76.call hb7
      have k47 := k46.call hb7
      have hrow7 := ownsRow_call hrow6 hb7
      have B7 := B6.trans (hb7.mono (by omega))
      have u57 := u6.on hb7
      have hsz7 := hb7.size
      have hlen7 : L7.length ≤ maxLen := Nat.le_trans n1 n2
      clear HOf k76 k46 hrow6 hb7 B6 u6 r6 hr0 hV0
      have hcs := k77.cell
      have HMt := Lib.hid (fun (Ax : Option Addr) (cx : Nat) (h : RU w7 w7.heap.size Ax L7) => rMeet_any Ax A5 L7.length cx CS.length c5 L7 CS w7 rfl hlen7 h rfl hlen5 u57)
      by_cases he : er = 0
      · have he' : (er != 0) = false := by simpa using he
        have HM := Lib.hid (HMt.out A7 c7 u7)
        clear HMt
        go_wp2_with fail
        refine HM.out.mono ?_
        rintro e w8 ⟨A8, c8, rfl, u8, p1, p2, p3, hb8⟩
        have k78 := k77.call hb8
        have k48 := k47.call hb8
        have hrow8 := ownsRow_call hrow7 hb8
        have B8 := B7.trans (hb8.mono (by omega))
        have u58 := u57.on hb8
        have hsz8 := hb8.size
        clear HM k77 k47 hrow7 hb8 B7 u57 hcs
        have c80 := k78.cell
        have f80 := k78.frozen
        go_upto_region 17 with fail
        generalize combF 2 _ CS = LL at *
        have F9 := Far.setCell (T := fun k => k = s + 2) (p := ⟨s + 2, 1, none⟩) (Far.refl _ w8) (fun _ => rfl) (.slice A8 LL.length c8)
        have k79 := k78.set_ 1 (.slice A8 LL.length c8)
        generalize w8.setCell ⟨s + 2, 1, none⟩ _ = w9 at *
        have k49 := F9.blk k48 (by show ¬ s = s + 2; omega)
        have hrow9 := ownsRow_far hrow8 F9 (fun g hg h => by have := (hrow8.lt g hg).1; omega)
        have B9 := B8.trans (F9.below (by omega) (fun k hk e => by omega))
        have u59 := (F9.ru u58 (fun b o e h => by have := m3 b o e; omega)).more F9.size
        have u89 := (F9.ru u8 (fun b o e h => by have := p3 b o e; omega)).more F9.size
        obtain ⟨A3, c3, rfl, hru, _, _, hfr9, _⟩ := own_Rd hrow9
        have hSt : StIs w9 (.agg #[.slice A5 CS.length c5, .slice A8 LL.length c8, .slice A3 l.length c3]) CS LL l := ⟨A5, A8, A3, _, _, _, _, _, _, rfl, rfl, hlen5, u59, rfl, Nat.le_trans p1 p2, u89, rfl, by unfold maxLen; omega, hru⟩
        have k79' : Blk w9 (s + 2) 94 #[.slice A5 CS.length c5, .slice A8 LL.length c8, .slice A3 l.length c3] := k79
        have HFS : ∀ W, Far (fun k => k = s) w9 W → RU W W.heap.size A5 CS ∧ RU W W.heap.size A8 LL ∧ RI W W.heap.size A3 l := fun W Fz => ⟨(Fz.ru u59 (fun b o e h => by have := m3 b o e; omega)).more Fz.size, (Fz.ru u89 (fun b o e h => by have := p3 b o e; omega)).more Fz.size, RI.more (Fz.ri hru (fun b o e h => by have := hfr9 b o e; omega)) Fz.size⟩
        have HCk := Lib.hid (fun W (Fz : Far (fun k => k = s) w9 W) => rcheck13_any (.agg #[.slice A5 CS.length c5, .slice A8 LL.length c8, .slice A3 l.length c3]) CS LL l W ⟨A5, A8, A3, _, _, _, _, _, _, rfl, rfl, hlen5, (HFS W Fz).1, rfl, Nat.le_trans p1 p2, (HFS W Fz).2.1, rfl, by unfold maxLen; omega, (HFS W Fz).2.2⟩)
        have HFS' := Lib.hid HFS
        clear F9 k78 k48 hrow8 B8 u58 u8 c80 f80 hSt hrow9 k79 HFS
        generalize chkH CS LL l = ck at *
        refine stated_last _ _ s A5 A8 A3 _ _ _ _ _ _ ck (Nat.le_of_ble_eq_true rfl) rfl rfl k49 k79' HCk.out ?_
        intro wz Fz kz
        simp only [sput, Act.put, List.setIfInBounds_toArray, List.set_cons_succ, List.set_cons_zero]
        have Bz := B9.trans (Fz.below (by have := B9.size; omega) (fun k hk e => by omega))
        obtain ⟨v5, v8, v3⟩ := HFS'.out wz Fz
        go_wp2_with fail
        have hl9 := run_loadVar_mid (P := Tryz.prog) wz s 0 94 [.slice A5 CS.length c5, .slice A8 LL.length c8, .slice A3 l.length c3] _ (fun j v hj => by rw [Nat.zero_add, kz.cell]; simpa using hj) Tryz.underlying94 rfl (by kernel_rfl)
        refine bodyPost_ret (v := .tuple #[.agg #[.slice A5 CS.length c5, .slice A8 LL.length c8, .slice A3 l.length c3], .bool (ck == 0)]) ?_ rfl ?_
        · exact z_results_cell_tmp Tryz.results40 rfl hl9
        exact hQ'.out _ _ ⟨A5, A8, A3, _, _, _, _, _, _, rfl, rfl, hlen5, v5, rfl, Nat.le_trans p1 p2, v8, rfl, by unfold maxLen; omega, v3⟩ Bz ⟨A5, A8, A3, _, _, _, _, _, _, rfl, fun g o e => by have := m3 g o e; omega, fun g o e => by have := p3 g o e; omega, fun g o e => by have := hfr9 g o e; omega⟩
      · have he' : (er != 0) = true := by simpa using he
        obtain rfl := hL0.out he
        have HM := Lib.hid (HMt.out none 0 RU.nil)
        clear HMt
        simp only [List.length_nil] at HM
        go_wp2_with fail
        refine HM.out.mono ?_
        rintro e w8 ⟨A8, c8, rfl, u8, p1, p2, p3, hb8⟩
        have k78 := k77.call hb8
        have k48 := k47.call hb8
        have hrow8 := ownsRow_call hrow7 hb8
        have B8 := B7.trans (hb8.mono (by omega))
        have u58 := u57.on hb8
        have hsz8 := hb8.size
        clear HM k77 k47 hrow7 hb8 B7 u57 hcs
        have c80 := k78.cell
        have f80 := k78.frozen
        go_upto_region 17 with fail
        generalize combF 2 _ CS = LL at *
        have F9 := Far.setCell (T := fun k => k = s + 2) (p := ⟨s + 2, 1, none⟩) (Far.refl _ w8) (fun _ => rfl) (.slice A8 LL.length c8)
        have k79 := k78.set_ 1 (.slice A8 LL.length c8)
        generalize w8.setCell ⟨s + 2, 1, none⟩ _ = w9 at *
        have k49 := F9.blk k48 (by show ¬ s = s + 2; omega)
        have hrow9 := ownsRow_far hrow8 F9 (fun g hg h => by have := (hrow8.lt g hg).1; omega)
        have B9 := B8.trans (F9.below (by omega) (fun k hk e => by omega))
        have u59 := (F9.ru u58 (fun b o e h => by have := m3 b o e; omega)).more F9.size
        have u89 := (F9.ru u8 (fun b o e h => by have := p3 b o e; omega)).more F9.size
        obtain ⟨A3, c3, rfl, hru, _, _, hfr9, _⟩ := own_Rd hrow9
        have hSt : StIs w9 (.agg #[.slice A5 CS.length c5, .slice A8 LL.length c8, .slice A3 l.length c3]) CS LL l := ⟨A5, A8, A3, _, _, _, _, _, _, rfl, rfl, hlen5, u59, rfl, Nat.le_trans p1 p2, u89, rfl, by unfold maxLen; omega, hru⟩
        have k79' : Blk w9 (s + 2) 94 #[.slice A5 CS.length c5, .slice A8 LL.length c8, .slice A3 l.length c3] := k79
        have HFS : ∀ W, Far (fun k => k = s) w9 W → RU W W.heap.size A5 CS ∧ RU W W.heap.size A8 LL ∧ RI W W.heap.size A3 l := fun W Fz => ⟨(Fz.ru u59 (fun b o e h => by have := m3 b o e; omega)).more Fz.size, (Fz.ru u89 (fun b o e h => by have := p3 b o e; omega)).more Fz.size, RI.more (Fz.ri hru (fun b o e h => by have := hfr9 b o e; omega)) Fz.size⟩
        have HCk := Lib.hid (fun W (Fz : Far (fun k => k = s) w9 W) => rcheck13_any (.agg #[.slice A5 CS.length c5, .slice A8 LL.length c8, .slice A3 l.length c3]) CS LL l W ⟨A5, A8, A3, _, _, _, _, _, _, rfl, rfl, hlen5, (HFS W Fz).1, rfl, Nat.le_trans p1 p2, (HFS W Fz).2.1, rfl, by unfold maxLen; omega, (HFS W Fz).2.2⟩)
        have HFS' := Lib.hid HFS
        clear F9 k78 k48 hrow8 B8 u58 u8 c80 f80 hSt hrow9 k79 HFS
        generalize chkH CS LL l = ck at *
        refine stated_last _ _ s A5 A8 A3 _ _ _ _ _ _ ck (Nat.le_of_ble_eq_true rfl) rfl rfl k49 k79' HCk.out ?_
        intro wz Fz kz
        simp only [sput, Act.put, List.setIfInBounds_toArray, List.set_cons_succ, List.set_cons_zero]
        have Bz := B9.trans (Fz.below (by have := B9.size; omega) (fun k hk e => by omega))
        obtain ⟨v5, v8, v3⟩ := HFS'.out wz Fz
        go_wp2_with fail
        have hl9 := run_loadVar_mid (P := Tryz.prog) wz s 0 94 [.slice A5 CS.length c5, .slice A8 LL.length c8, .slice A3 l.length c3] _ (fun j v hj => by rw [Nat.zero_add, kz.cell]; simpa using hj) Tryz.underlying94 rfl (by kernel_rfl)
        refine bodyPost_ret (v := .tuple #[.agg #[.slice A5 CS.length c5, .slice A8 LL.length c8, .slice A3 l.length c3], .bool (ck == 0)]) ?_ rfl ?_
        · exact z_results_cell_tmp Tryz.results40 rfl hl9
        exact hQ'.out _ _ ⟨A5, A8, A3, _, _, _, _, _, _, rfl, rfl, hlen5, v5, rfl, Nat.le_trans p1 p2, v8, rfl, by unfold maxLen; omega, v3⟩ Bz ⟨A5, A8, A3, _, _, _, _, _, _, rfl, fun g o e => by have := m3 g o e; omega, fun g o e => by have := p3 g o e; omega, fun g o e => by have := hfr9 g o e; omega⟩
end Go.Proofs.YtpabnbhbcphfiaaGreat
namespace Go.Pol
open Go Go.Proofs Go.RowKit

theorem refB_none {S : Rf} (h : S.rules = []) (k : Nat) : refB S k = false := by
  unfold refB
  split
  · rfl
  · show rfd S.rules k _ = false
    rw [h]; rfl
theorem makeF_none {V : Vm} (h : V.rf.rules = []) {a n : Int} {call : Nat} {pr : Pg → Bool} {fd : Pg → Pg} (h0 : 0 ≤ a) (h1 : 1 ≤ n) (h2 : a + n ≤ 1024) (hp : ∀ p : Nat, a ≤ p → (p : Int) < a + n → pr (V.pg p) = true) :
    makeF V a n call pr fd = (0, (V.ref call).eachP a.toNat n.toNat fd) := by
  unfold makeF
  rw [if_neg (by omega), if_neg (by rw [allP_iff.2 (fun q h3 h4 => hp q (by omega) (by omega))]; decide), if_neg (by rw [refB_none h]; decide)]
theorem grpF_full {C : List Sp} {g : Int} (h : grpF C g = 16) {q : Int} (h1 : 16 * g ≤ q) (h2 : q < 16 * g + 16) : mem q C = true :=
  cntN_full 16 (16 * g) (by simpa [grpF, cntF] using h) q h1 (by omega)
theorem hugesF_asc (V : Vm) : ∀ k, (hugesF V k).Pairwise (· < ·) ∧ ∀ x ∈ hugesF V k, 16 * x < k
  | 0 => ⟨.nil, fun x hx => by cases hx⟩
  | k + 1 => by
    obtain ⟨h1, h2⟩ := hugesF_asc V k
    unfold hugesF
    split
    · rename_i hc
      refine ⟨List.pairwise_append.2 ⟨h1, by simp, fun x hx y hy => ?_⟩, fun x hx => ?_⟩
      · have := h2 x hx; have := List.mem_singleton.1 hy; omega
      · rcases List.mem_append.1 hx with h3 | h3
        · have := h2 x h3; omega
        · have := List.mem_singleton.1 h3; omega
    · exact ⟨h1, fun x hx => by have := h2 x hx; omega⟩
theorem hugOk_of {C : List Sp} : ∀ (l : List Int) (e : Int), l.Pairwise (· < ·) → (∀ g ∈ l, e < g ∧ grpF C g = 16) → hugOk C e l = true
  | [], _, _, _ => rfl
  | g :: r, e, hp, h => by
    obtain ⟨p1, p2⟩ := List.pairwise_cons.1 hp
    obtain ⟨a, b⟩ := h g (by simp)
    exact hugOk_cons.2 ⟨by omega, a, hugOk_of r g p2 (fun x hx => ⟨p1 x hx, (h x (by simp [hx])).2⟩)⟩
theorem filt_add {α : Type} {p q : α → Bool} : ∀ (l : List α), (∀ x ∈ l, p x = true → q x = true → False) → (l.filter fun x => p x || q x).length = (l.filter p).length + (l.filter q).length
  | [], _ => rfl
  | x :: r, h => by
    have ih := filt_add r (fun y hy => h y (by simp [hy]))
    have hx := h x (by simp)
    cases hp : p x with
    | true =>
      cases hq : q x with
      | true => exact (hx hp hq).elim
      | false => simp [hp, hq, ih]; omega
    | false =>
      cases hq : q x with
      | true => simp [hp, hq, ih]; omega
      | false => simp [hp, hq, ih]
theorem groups_whole (C L : List Sp) (H : List Int) : groupsF C L H 0 = wholeF C H := by
  unfold groupsF
  rw [List.filter_eq_self]
  intro g _
  rw [decide_eq_true_eq]
  exact (grpF_bound L g).1
theorem whole_mem {C : List Sp} {H : List Int} {g : Int} : g ∈ wholeF C H ↔ (0 ≤ g ∧ g < 64) ∧ ¬ g ∈ H ∧ grpF C g = 16 := by
  unfold wholeF
  rw [List.mem_filter, mem_grps]
  simp
end Go.Pol
namespace Go.Pol
open Go Go.Proofs Go.RowKit
/-- what a change makes of the pages: nothing, or all that it names -/
theorem makeF_cases (V : Vm) (a n : Int) (call : Nat) (pr : Pg → Bool) (fd : Pg → Pg) :
    ((makeF V a n call pr fd).1 ≠ 0 ∧ (makeF V a n call pr fd).2.pg = V.pg) ∨
    ((makeF V a n call pr fd).1 = 0 ∧ 0 ≤ a ∧ 1 ≤ n ∧ a + n ≤ 1024 ∧ (∀ p : Nat, a ≤ p → (p : Int) < a + n → pr (V.pg p) = true) ∧
      ∀ p : Nat, (makeF V a n call pr fd).2.pg p = if a ≤ p ∧ (p : Int) < a + n then fd (V.pg p) else V.pg p) := by
  unfold makeF
  by_cases h1 : n < 1 ∨ a < 0 ∨ 1024 ≤ a ∨ 1024 - a < n
  · rw [if_pos h1]; exact .inl ⟨(by decide : (7 : Int) ≠ 0), rfl⟩
  · rw [if_neg h1]
    by_cases h2 : allP V a.toNat n.toNat pr = false
    · rw [if_pos h2]; exact .inl ⟨(by decide : (9 : Int) ≠ 0), rfl⟩
    · rw [if_neg h2]
      rw [Bool.not_eq_false] at h2
      by_cases h3 : refB V.rf call = true
      · rw [if_pos h3]; exact .inl ⟨(by decide : (60 : Int) ≠ 0), rfl⟩
      · rw [if_neg h3]
        refine .inr ⟨rfl, by omega, by omega, by omega, fun p p1 p2 => allP_iff.1 h2 p (by omega) (by omega), fun p => ?_⟩
        show (if _ then _ else _) = _
        by_cases h4 : a ≤ p ∧ (p : Int) < a + n
        · rw [if_pos h4, if_pos (by omega)]; rfl
        · rw [if_neg h4, if_neg (by omega)]; rfl
theorem writeF_hug (V : Vm) (a v : Int) (p : Nat) : ((writeF V a v).pg p).huge = (V.pg p).huge ∧ ((writeF V a v).pg p).kind = (V.pg p).kind := by
  unfold writeF
  split
  · show ((if _ then _ else _ : Pg)).huge = _ ∧ ((if _ then _ else _ : Pg)).kind = _
    split
    · rename_i e; subst e; exact ⟨rfl, rfl⟩
    · exact ⟨rfl, rfl⟩
  · exact ⟨rfl, rfl⟩
end Go.Pol
namespace Go.Pol
open Go
/-- fewer live pages, or as many and a lesser number -/
def ltX (x y : Gp) : Bool := decide (x.2.2.1 < y.2.2.1) || (decide (x.2.2.1 = y.2.2.1) && decide (x.1 < y.1))
/-- those with as many live pages are in the order of their numbers -/
def Inv (d : Array Gp) : Prop := ∀ i j, i < j → j < d.size → d[i]!.2.2.1 = d[j]!.2.2.1 → d[i]!.1 < d[j]!.1
theorem ltX_inv {d : Array Gp} (h : Inv d) {j : Nat} (hj : j + 1 < d.size) : ltX d[j + 1]! d[j]! = Go.Proofs.YtpabnbhbcphfiaaGreat.ltL d[j + 1]! d[j]! := by
  unfold ltX Go.Proofs.YtpabnbhbcphfiaaGreat.ltL
  have := h j (j + 1) (by omega) hj
  by_cases h1 : d[j + 1]!.2.2.1 = d[j]!.2.2.1
  · have := this h1.symm
    rw [decide_eq_false (show ¬ d[j + 1]!.1 < d[j]!.1 by omega)]; simp
  · simp [h1]
theorem inv_swp {d : Array Gp} (h : Inv d) {j : Nat} (hj : j + 1 < d.size) (hl : d[j + 1]!.2.2.1 < d[j]!.2.2.1) : Inv (Sort.swp d (j + 1) j) := by
  have g1 : (Sort.swp d (j + 1) j)[j + 1]! = d[j]! := Sort.swp_left d _ _ hj (by omega)
  have g2 : (Sort.swp d (j + 1) j)[j]! = d[j + 1]! := Sort.swp_right d _ _ (by omega)
  have g3 : ∀ k, k ≠ j + 1 → k ≠ j → (Sort.swp d (j + 1) j)[k]! = d[k]! := fun k a b => Sort.swp_other d _ _ k a b
  intro p q hpq hq he
  rw [Sort.size_swp] at hq
  by_cases p1 : p = j
  · subst p1
    by_cases q1 : q = p + 1
    · subst q1
      rw [g1, g2] at he
      omega
    · rw [g2, g3 q q1 (by omega)] at he ⊢
      exact h _ _ (by omega) hq he
  · by_cases p2 : p = j + 1
    · subst p2
      rw [g1, g3 q (by omega) (by omega)] at he ⊢
      exact h _ _ (by omega) hq he
    · rw [g3 p p2 p1] at he ⊢
      by_cases q1 : q = j + 1
      · subst q1
        rw [g1] at he ⊢
        exact h _ _ (by omega) (by omega) he
      · by_cases q2 : q = j
        · subst q2
          rw [g2] at he ⊢
          exact h _ _ (by omega) hj he
        · rw [g3 q q1 q2] at he ⊢
          exact h _ _ hpq hq he
theorem insInner_X (a : Nat) : ∀ (j : Nat) (d : Array Gp), j < d.size → Inv d → Sort.insInner ltX a j d = Sort.insInner Go.Proofs.YtpabnbhbcphfiaaGreat.ltL a j d ∧ Inv (Sort.insInner Go.Proofs.YtpabnbhbcphfiaaGreat.ltL a j d)
  | 0, d, _, h => ⟨rfl, h⟩
  | j + 1, d, hj, h => by
    rw [Sort.insInner, Sort.insInner, ltX_inv h hj]
    split
    · rename_i hc
      have hl : d[j + 1]!.2.2.1 < d[j]!.2.2.1 := by
        simp only [Bool.and_eq_true, Go.Proofs.YtpabnbhbcphfiaaGreat.ltL, decide_eq_true_eq] at hc
        exact hc.2
      exact insInner_X a j _ (by rw [Sort.size_swp]; omega) (inv_swp h hj hl)
    · exact ⟨rfl, h⟩
theorem insOuter_X (a b : Nat) : ∀ (k i : Nat) (d : Array Gp), b - i ≤ k → b ≤ d.size → Inv d → Sort.insOuter ltX a b i d = Sort.insOuter Go.Proofs.YtpabnbhbcphfiaaGreat.ltL a b i d
  | 0, i, d, h, _, _ => by rw [Sort.insOuter.eq_def ltX a b i d, Sort.insOuter.eq_def Go.Proofs.YtpabnbhbcphfiaaGreat.ltL a b i d, if_neg (by omega), if_neg (by omega)]
  | k + 1, i, d, h, hb, hI => by
    rw [Sort.insOuter.eq_def ltX a b i d, Sort.insOuter.eq_def Go.Proofs.YtpabnbhbcphfiaaGreat.ltL a b i d]
    by_cases hi : i < b
    · rw [if_pos hi, if_pos hi]
      obtain ⟨e, hI2⟩ := insInner_X a i d (by omega) hI
      rw [e]
      exact insOuter_X a b k (i + 1) _ (by omega) (by rw [insInner_size]; exact hb) hI2
    · rw [if_neg hi, if_neg hi]
theorem ltX_swo : Sort.SWO ltX where
  irrefl x := by simp [ltX]
  trans x y z h1 h2 := by
    simp only [ltX, Bool.or_eq_true, Bool.and_eq_true, decide_eq_true_eq] at *
    omega
  ntrans x y z h1 h2 := by
    simp only [ltX, Bool.or_eq_false_iff, Bool.and_eq_false_iff, decide_eq_false_iff_not] at *
    omega
/-- the sorted list -/
theorem insSort_X (l : List Gp) (h : l.Pairwise (fun a b => a.1 < b.1)) : (Sort.insertionSort Go.Proofs.YtpabnbhbcphfiaaGreat.ltL l.toArray 0 l.length).toList.Perm l ∧
    (Sort.insertionSort Go.Proofs.YtpabnbhbcphfiaaGreat.ltL l.toArray 0 l.length).toList.Pairwise (fun a b => ltX b a = false) := by
  have hI : Inv l.toArray := by
    intro i j hij hj _
    have hj' : j < l.length := by simpa using hj
    rw [getElem!_pos _ i (by simp; omega), getElem!_pos _ j (by simpa using hj)]
    exact List.pairwise_iff_getElem.1 h i j (by omega) hj' hij
  have he : Sort.insertionSort ltX l.toArray 0 l.length = Sort.insertionSort Go.Proofs.YtpabnbhbcphfiaaGreat.ltL l.toArray 0 l.length := by
    unfold Sort.insertionSort
    exact insOuter_X 0 l.length _ _ _ (Nat.le_refl _) (by simp) hI
  obtain ⟨hp, hs⟩ := Sort.insertionSort_holds ltX_swo l.toArray 0 l.length (Nat.zero_le _) (by simp)
  rw [he] at hp hs
  generalize Sort.insertionSort Go.Proofs.YtpabnbhbcphfiaaGreat.ltL l.toArray 0 l.length = d at *
  obtain ⟨d⟩ := d
  obtain ⟨h1, _, h3⟩ := hp
  have h1' : d.length = l.length := by simpa using h1
  refine ⟨?_, ?_⟩
  · have e1 : (d.toArray.extract 0 l.length).toList = d := by simp [← h1']
    have e2 : (l.toArray.extract 0 l.length).toList = l := by simp
    rw [e1, e2] at h3; exact h3
  · rw [List.pairwise_iff_getElem]
    intro i j hi hj hij
    have := hs i j (Nat.zero_le _) hij (by rw [← h1']; exact hj)
    rw [getElem!_pos _ j (by simpa using hj), getElem!_pos _ i (by simpa using hi)] at this
    simpa using this
end Go.Pol
namespace Go.Pol
open Go
def sumF (f : Int → Int) (l : List Int) : Int := (l.map f).sum
theorem sumF_cons (f : Int → Int) (a : Int) (l : List Int) : sumF f (a :: l) = f a + sumF f l := by simp [sumF]
theorem sumF_append (f : Int → Int) (a b : List Int) : sumF f (a ++ b) = sumF f a + sumF f b := by simp [sumF]
theorem sumF_perm {f : Int → Int} {a b : List Int} (h : a.Perm b) : sumF f a = sumF f b := by
  induction h with
  | nil => rfl
  | cons x _ ih => rw [sumF_cons, sumF_cons, ih]
  | swap x y l => rw [sumF_cons, sumF_cons, sumF_cons, sumF_cons]; omega
  | trans _ _ h1 h2 => rw [h1, h2]
theorem sub_min {f : Int → Int} {s os : List Int} (h : s.Sublist os) : os.Pairwise (fun a b => f a ≤ f b) → sumF f (os.take s.length) ≤ sumF f s := by
  induction h with
  | slnil => intro _; simp [sumF]
  | @cons s os a h ih =>
    intro hp
    obtain ⟨h1, h2⟩ := List.pairwise_cons.1 hp
    have hi := ih h2
    have hle := h.length_le
    cases hs : s.length with
    | zero =>
      have : s = [] := List.eq_nil_of_length_eq_zero hs
      subst this; simp [sumF]
    | succ k =>
      rw [hs] at hi hle
      have e : os.take (k + 1) = os.take k ++ [os[k]'(by omega)] := by
        rw [List.take_add_one, List.getElem?_eq_getElem (by omega)]; rfl
      rw [e, sumF_append] at hi
      rw [List.take_succ_cons, sumF_cons]
      have hk := h1 (os[k]'(by omega)) (List.getElem_mem _)
      have : sumF f [os[k]'(by omega)] = f (os[k]'(by omega)) := by simp [sumF]
      omega
  | @cons_cons s os a h ih =>
    intro hp
    obtain ⟨_, h2⟩ := List.pairwise_cons.1 hp
    have := ih h2
    rw [List.length_cons, List.take_succ_cons, sumF_cons, sumF_cons]
    omega
theorem perm_of_mem {a b : List Int} (ha : a.Nodup) (hb : b.Nodup) (h : ∀ x, x ∈ a ↔ x ∈ b) : a.Perm b := (List.perm_ext_iff_of_nodup ha hb).2 h
theorem set_min {f : Int → Int} {U os : List Int} (hp : os.Pairwise (fun a b => f a ≤ f b)) (hn : os.Nodup) (hU : U.Nodup) (hs : ∀ x ∈ U, x ∈ os) : sumF f (os.take U.length) ≤ sumF f U := by
  have hq : (os.filter fun x => decide (x ∈ U)).Perm U := perm_of_mem (hn.filter _) hU fun x => by
    rw [List.mem_filter, decide_eq_true_eq]
    exact ⟨fun h => h.2, fun h => ⟨hs x h, h⟩⟩
  have := sub_min (f := f) (List.filter_sublist (l := os) (p := fun x => decide (x ∈ U))) hp
  rw [hq.length_eq, sumF_perm hq] at this
  exact this
/-- fewer live pages, or as many and a lesser number -/
def ltG (f : Int → Int) (a b : Int) : Prop := f a < f b ∨ (f a = f b ∧ a < b)
theorem ltG_le {f : Int → Int} {os : List Int} (h : os.Pairwise (ltG f)) : os.Pairwise (fun a b => f a ≤ f b) := h.imp fun h => by rcases h with h | h <;> omega
theorem ltG_nodup {f : Int → Int} {os : List Int} (h : os.Pairwise (ltG f)) : os.Nodup := h.imp fun h => by
  rcases h with h | h
  · intro e; rw [e] at h; omega
  · omega
end Go.Pol
namespace Go.Pol
open Go
/-- the pages of a list -/
def inL (l : List Int) (p : Nat) : Bool := decide ((p : Int) ∈ l)
/-- what a choice costs -/
def liveS (L : List Sp) (l : List Int) : Int := (l.map fun g => grpF L g).sum
end Go.Pol
namespace Go.Pol
open Go Go.RowKit
theorem idle_can {C L : List Sp} (hC : Can C) (hL : Can L) : chk2 C L = 0 ∧ Can (combF 3 C L) := by
  have h := (minus_nil hC hL).1
  refine ⟨h, ?_⟩
  unfold combF; rw [if_pos h]; exact setA_can _
end Go.Pol
namespace Go.Proofs.YtpabnbhbcphfiaaGreat
open Go Go.Proofs Go.RowKit Go.Pol Go.Shelf
attribute [local go_sem] Oper.semAt_some Go.Pol.wide_fn Go.Pol.wide_depth Go.Pol.wide_fn' Go.Pol.wide_depth'

/-- what a best choice so far reads like -/
structure BestIs (n : Nat) (I : List Int) (b : Option (List Int)) (v fl : Value) (w : World) : Prop where
  ex : ∃ (A : Option Addr) (len cap : Nat), v = .slice A len cap ∧ (b.getD []).length = len ∧ RI w w.heap.size A (b.getD [])
  fl : fl = .bool b.isSome
  len : ∀ l, b = some l → l.length = n
  mem : ∀ p ∈ b.getD [], p ∈ I
theorem BestIs.on {n : Nat} {I : List Int} {b : Option (List Int)} {v fl : Value} {w w' : World} (h : BestIs n I b v fl w) (hb : Below w.heap.size w w') : BestIs n I b v fl w' := by
  obtain ⟨A, len, cap, h1, h2, h3⟩ := h.ex
  exact ⟨⟨A, len, cap, h1, h2, RI.on h3 hb⟩, h.fl, h.len, h.mem⟩
end Go.Proofs.YtpabnbhbcphfiaaGreat
namespace Go.Pol
open Go
def freeL (C L : List Sp) (H T : List Int) : List Nat := (List.range 1024).filter (freeP C L H T)
theorem filter_cnt (f : Int → Bool) : ∀ k : Nat, (((List.range k).filter fun (p : Nat) => f (p : Int)).length : Int) = cntN f k 0
  | 0 => rfl
  | k + 1 => by
    rw [List.range_succ, List.filter_append, List.length_append, cntN_snoc, ← filter_cnt f k, Int.zero_add]
    cases h : f (k : Int) <;> simp [h]
theorem cnt_blocks (f : Int → Bool) : ∀ k : Nat, cntN f (16 * k) 0 = ((List.range k).map fun (g : Nat) => cntN f 16 (16 * (g : Int))).sum
  | 0 => rfl
  | k + 1 => by
    rw [show 16 * (k + 1) = 16 * k + 16 by omega, cntN_split, cnt_blocks f k, List.range_succ, List.map_append, List.sum_append]
    have e : (0 : Int) + ((16 * k : Nat) : Int) = 16 * (k : Int) := by omega
    rw [e]; simp
theorem sum_if (f : Int → Int) (p : Int → Bool) : ∀ l : List Int, (l.map fun g => if p g = true then f g else 0).sum = sumF f (l.filter p)
  | [] => rfl
  | a :: r => by
    rw [List.map_cons, List.sum_cons, sum_if f p r, List.filter_cons]
    cases h : p a with
    | true => rw [if_pos rfl, if_pos rfl, sumF_cons]
    | false => rw [if_neg (by simp), if_neg (by simp)]; omega
def freeI (C L : List Sp) (H T : List Int) (q : Int) : Bool := mem q C && !mem q L && !(decide (q / 16 ∈ H) && !decide (q / 16 ∈ T))
theorem group_cnt {C L : List Sp} (hL : Can L) (hs : subF L C = true) (H T : List Int) (g : Int) :
    cntN (freeI C L H T) 16 (16 * g) = if (decide (g ∈ H) && !decide (g ∈ T)) = true then 0 else grpF C g - grpF L g := by
  by_cases hb : (decide (g ∈ H) && !decide (g ∈ T)) = true
  · rw [if_pos hb]
    refine cntN_none _ _ fun q h1 h2 => ?_
    unfold freeI
    rw [show q / 16 = g by omega, hb]; simp
  · rw [if_neg hb]
    have e1 : cntN (freeI C L H T) 16 (16 * g) = cntN (fun q => mem q C && !mem q L) 16 (16 * g) := cntN_congr _ _ fun q h1 h2 => by
      unfold freeI
      rw [show q / 16 = g by omega]
      simp only [Bool.not_eq_true] at hb
      rw [hb]; simp
    have hsub : ∀ q, mem q L = true → mem q C = true := fun q h => (subF_iff hL).1 hs q (mem_pagesOf.2 h)
    have e2 : grpF C g = grpF L g + cntN (fun q => mem q C && !mem q L) 16 (16 * g) := by
      unfold grpF cntF
      show cntN (fun q => mem q C) 16 (16 * g) = cntN (fun q => mem q L) 16 (16 * g) + _
      rw [← cntN_or]
      · refine cntN_congr _ _ fun q _ _ => ?_
        cases h1 : mem q L with
        | true => rw [hsub q h1]; rfl
        | false => simp
      · intro q h1 h2
        simp [h1] at h2
    omega
theorem haveF_sum (C L : List Sp) (H : List Int) : haveF (gsH C L H) = (grps.map fun g => if decide (g ∈ H) = true then 0 else grpF C g - grpF L g).sum := by
  rw [haveF, gsH_map, List.map_map]; rfl
theorem freeP_cnt (C L : List Sp) (H T : List Int) (k : Nat) : (((List.range k).filter (freeP C L H T)).length : Int) = cntN (freeI C L H T) k 0 := filter_cnt (freeI C L H T) k
theorem free_len {C L : List Sp} {H T : List Int} (h : chkH C L H = 0) (hT : T.Nodup) (hTH : ∀ g ∈ T, g ∈ H) :
    ((freeL C L H T).length : Int) = haveF (gsH C L H) + sumF (fun g => 16 - grpF L g) T := by
  obtain ⟨_, canL, hin, hsub, hok⟩ := chkH_zero.1 h
  have e1 : ((freeL C L H T).length : Int) = cntN (freeI C L H T) 1024 0 := freeP_cnt C L H T 1024
  have e2 := cnt_blocks (freeI C L H T) 64
  rw [e1, show (1024 : Nat) = 16 * 64 from rfl, e2, haveF_sum]
  have e3 : ((List.range 64).map fun (g : Nat) => cntN (freeI C L H T) 16 (16 * (g : Int))) = grps.map fun g => cntN (freeI C L H T) 16 (16 * g) := by
    unfold grps; rw [List.map_map]; rfl
  rw [e3]
  have hT2 : (grps.filter fun g => decide (g ∈ T)).Perm T := perm_of_mem ((grps_lt.imp (fun h => by omega)).filter _) hT fun x => by
    rw [List.mem_filter, decide_eq_true_eq]
    exact ⟨fun h => h.2, fun hx => ⟨mem_grps.2 (inG_iff.1 (hin x (hTH x hx))), hx⟩⟩
  rw [← sumF_perm hT2, ← sum_if]
  have hg : ∀ l : List Int, (l.map fun g => cntN (freeI C L H T) 16 (16 * g)).sum = (l.map fun g => if decide (g ∈ H) = true then 0 else grpF C g - grpF L g).sum + (l.map fun g => if decide (g ∈ T) = true then 16 - grpF L g else 0).sum := by
    intro l
    induction l with
    | nil => rfl
    | cons g r ih =>
      rw [List.map_cons, List.map_cons, List.map_cons, List.sum_cons, List.sum_cons, List.sum_cons, ih, group_cnt canL hsub]
      by_cases h1 : g ∈ H
      · have h16 := (hugOk_mem hok g h1).2
        by_cases h2 : g ∈ T
        · simp only [h1, h2, decide_true, Bool.not_true, Bool.and_false, Bool.false_eq_true, if_false, if_true, h16]; omega
        · simp only [h1, h2, decide_true, decide_false, Bool.not_false, Bool.and_true, if_true, Bool.false_eq_true, if_false]; omega
      · have h2 : g ∉ T := fun h => h1 (hTH g h)
        simp only [h1, h2, decide_false, Bool.false_and, Bool.false_eq_true, if_false]; omega
  exact hg grps
end Go.Pol
namespace Go.Pol
open Go
def castL (l : List Nat) : List Int := l.map fun (p : Nat) => (p : Int)
theorem mem_castL {l : List Nat} {x : Int} : x ∈ castL l ↔ ∃ p ∈ l, (p : Int) = x := by simp [castL]
/-- the huge groups that have a page of a list -/
def touI (H : List Int) (l : List Nat) : List Int := H.filter fun g => l.any fun p => decide ((p : Int) / 16 = g)
theorem mem_touI {H : List Int} {l : List Nat} {g : Int} : g ∈ touI H l ↔ g ∈ H ∧ ∃ p ∈ l, (p : Int) / 16 = g := by
  unfold touI
  rw [List.mem_filter, List.any_eq_true]; simp
theorem touch_touI (H : List Int) (l : List Nat) (hl : ∀ p ∈ l, p < 1024) : touchF (setA (inL (castL l))) H = touI H l := by
  unfold touchF touI
  refine List.filter_congr fun g _ => ?_
  rw [Bool.eq_iff_iff, decide_eq_true_eq, touch_iff (setA_can _), List.any_eq_true]
  constructor
  · rintro ⟨p, hp, e⟩
    obtain ⟨h1, h2⟩ := (mem_setA _ _).1 (mem_pagesOf.1 hp)
    simp only [inL, decide_eq_true_eq, mem_castL] at h2
    obtain ⟨q, hq, e2⟩ := h2
    exact ⟨q, hq, by rw [decide_eq_true_eq]; omega⟩
  · rintro ⟨p, hp, e⟩
    rw [decide_eq_true_eq] at e
    refine ⟨(p : Int), mem_pagesOf.2 ((mem_setA _ _).2 ⟨by have := hl p hp; omega, ?_⟩), e⟩
    simp only [inL, decide_eq_true_eq, mem_castL]
    exact ⟨p, hp, by omega⟩
end Go.Pol
namespace Go.Pol
open Go
theorem freeP_iff {C L : List Sp} {H T : List Int} {p : Nat} : freeP C L H T p = true ↔ (mem (p : Int) C = true ∧ mem (p : Int) L = false) ∧ ((p : Int) / 16 ∈ H → (p : Int) / 16 ∈ T) := by
  unfold freeP
  by_cases h1 : (p : Int) / 16 ∈ H <;> by_cases h2 : (p : Int) / 16 ∈ T <;> simp [h1, h2]
theorem freeL_lt {C L : List Sp} {H T : List Int} {p : Nat} (h : p ∈ freeL C L H T) : p < 1024 := by
  have := (List.mem_filter.1 h).1
  simpa using this
theorem sumI_eq (f : Int → Int) : ∀ V : List Int, sumF (fun g => 16 - f g) V = 16 * (V.length : Int) - sumF f V
  | [] => rfl
  | a :: r => by rw [sumF_cons, sumF_cons, sumI_eq f r, List.length_cons]; omega
theorem cand_in {C L : List Sp} {H T : List Int} {n : Nat} {g : Int} (h : g ∈ touI H ((freeL C L H T).take n)) : g ∈ T := by
  obtain ⟨h1, p, hp, e⟩ := mem_touI.1 h
  have := (freeP_iff.1 (List.mem_filter.1 (List.mem_of_mem_take hp)).2).2
  rw [e] at this
  exact this h1
theorem cand_free {C L : List Sp} {H T : List Int} (n : Nat) : ∃ r, freeL C L H (touI H ((freeL C L H T).take n)) = (freeL C L H T).take n ++ r := by
  generalize hl : (freeL C L H T).take n = l
  refine ⟨((freeL C L H T).drop n).filter (freeP C L H (touI H l)), ?_⟩
  have e1 : freeL C L H (touI H l) = (freeL C L H T).filter (freeP C L H (touI H l)) := by
    unfold freeL
    rw [List.filter_filter]
    refine List.filter_congr fun p _ => ?_
    rw [Bool.eq_iff_iff, Bool.and_eq_true]
    constructor
    · intro h
      refine ⟨h, ?_⟩
      obtain ⟨a, b⟩ := freeP_iff.1 h
      exact freeP_iff.2 ⟨a, fun x => by have := b x; rw [← hl] at this; exact cand_in this⟩
    · exact fun h => h.1
  have hm : ∀ p ∈ l, freeP C L H (touI H l) p = true := fun p hp => by
    have hp' := hp
    rw [← hl] at hp'
    obtain ⟨a, _⟩ := freeP_iff.1 (List.mem_filter.1 (List.mem_of_mem_take hp')).2
    exact freeP_iff.2 ⟨a, fun x => mem_touI.2 ⟨x, p, hp, rfl⟩⟩
  rw [e1]
  generalize freeL C L H T = F at *
  have e2 : F = l ++ F.drop n := by rw [← hl, List.take_append_drop]
  have e3 := congrArg (List.filter (freeP C L H (touI H l))) e2
  rw [List.filter_append, List.filter_eq_self.2 hm] at e3
  exact e3
/-- the situation of a greedy choice -/
structure Gr (C L : List Sp) (H os : List Int) (nn m : Nat) : Prop where
  hz : chkH C L H = 0
  perm : os.Perm H
  ord : os.Pairwise (ltG (grpF L))
  ml : m ≤ os.length
  enough : (nn : Int) ≤ haveF (gsH C L H) + sumF (fun g => 16 - grpF L g) (os.take m)
  few : ∀ j, j < m → haveF (gsH C L H) + sumF (fun g => 16 - grpF L g) (os.take j) < nn
section
variable {C L : List Sp} {H os : List Int} {nn m : Nat}
theorem Gr.nodupH (h : Gr C L H os nn m) : H.Nodup := (hugOk_lt (chkH_zero.1 h.hz).2.2.2.2).imp (fun h => by omega)
theorem Gr.nodup (h : Gr C L H os nn m) : os.Nodup := ltG_nodup h.ord
theorem Gr.touN (h : Gr C L H os nn m) (l : List Nat) : (touI H l).Nodup := h.nodupH.filter _
theorem Gr.touH {l : List Nat} {g : Int} (hg : g ∈ touI H l) : g ∈ H := (mem_touI.1 hg).1
/-- a choice of so many pages touches at least m groups -/
theorem Gr.least (h : Gr C L H os nn m) {T : List Int} (hlen : ((freeL C L H T).take nn).length = nn) : m ≤ (touI H ((freeL C L H T).take nn)).length := by
  generalize hU : touI H ((freeL C L H T).take nn) = U
  have hUn : U.Nodup := by rw [← hU]; exact h.touN _
  have hUH : ∀ g ∈ U, g ∈ H := fun g hg => by rw [← hU] at hg; exact Gr.touH hg
  obtain ⟨r, hr⟩ := cand_free (C := C) (L := L) (H := H) (T := T) nn
  have h1 : nn ≤ (freeL C L H U).length := by rw [← hU, hr, List.length_append, hlen]; omega
  have h2 := free_len h.hz hUn hUH
  have hmin := set_min (ltG_le h.ord) h.nodup hUn (fun x hx => (h.perm.mem_iff).2 (hUH x hx))
  rw [sumI_eq] at h2
  apply Nat.le_of_not_lt
  intro hlt
  have h3 := h.few U.length hlt
  rw [sumI_eq, List.length_take, Nat.min_eq_left (by have := h.ml; omega)] at h3
  omega
/-- the greedy choice -/
theorem Gr.len (h : Gr C L H os nn m) : ((freeL C L H (os.take m)).take nn).length = nn := by
  rw [List.length_take]
  have := free_len h.hz (h.nodup.sublist (List.take_sublist m os)) (fun g hg => h.perm.mem_iff.1 (List.mem_of_mem_take hg))
  have := h.enough
  omega
theorem Gr.touched (h : Gr C L H os nn m) : (touI H ((freeL C L H (os.take m)).take nn)).Perm (os.take m) := by
  have h1 := h.least h.len
  generalize hU : touI H ((freeL C L H (os.take m)).take nn) = U at *
  have hUn : U.Nodup := by rw [← hU]; exact h.touN _
  have hsub : ∀ g ∈ U, g ∈ os.take m := fun g hg => by rw [← hU] at hg; exact cand_in hg
  have hTn : (os.take m).Nodup := h.nodup.sublist (List.take_sublist m os)
  have hlen : (os.take m).length = m := by rw [List.length_take]; have := h.ml; omega
  have hq : ((os.take m).filter fun x => decide (x ∈ U)).Perm U := perm_of_mem (hTn.filter _) hUn fun x => by
    rw [List.mem_filter, decide_eq_true_eq]
    exact ⟨fun h => h.2, fun h => ⟨hsub x h, h⟩⟩
  have hl2 := hq.length_eq
  have hsl : ((os.take m).filter fun x => decide (x ∈ U)).Sublist (os.take m) := List.filter_sublist
  have := hsl.eq_of_length (by have := hsl.length_le; omega)
  rw [this] at hq
  exact hq.symm
end
end Go.Pol
namespace Go.Pol
open Go
theorem cutH_spec (n : Int) : ∀ (h : Int) (l : List Gp), ∃ m, m ≤ l.length ∧ cutH n h l = l.take m ∧ (∀ j, j < m → h + idleG (l.take j) < n) ∧ (n ≤ h + idleG (l.take m) ∨ m = l.length)
  | h, [] => ⟨0, by simp, rfl, by omega, .inr rfl⟩
  | h, g :: r => by
    by_cases hc : n ≤ h
    · exact ⟨0, by simp, by rw [cutH, if_pos hc]; rfl, by omega, .inl (by simpa [idleG] using hc)⟩
    · obtain ⟨m, h1, h2, h3, h4⟩ := cutH_spec n (h + (16 - g.2.2.1)) r
      have e : ∀ j, idleG ((g :: r).take (j + 1)) = (16 - g.2.2.1) + idleG (r.take j) := fun j => by simp [idleG]
      refine ⟨m + 1, by simp; omega, by rw [cutH, if_neg hc, h2, List.take_succ_cons], fun j hj => ?_, ?_⟩
      · cases j with
        | zero => simp [idleG]; omega
        | succ j => rw [e j]; have := h3 j (by omega); omega
      · rw [e m]
        rcases h4 with h4 | h4
        · left; omega
        · right; simp [h4]
theorem ones_setA (l : List Nat) : setOf (onesF l) = setA (inL (castL l)) := by
  unfold setOf
  congr 1
  funext k
  rw [Bool.eq_iff_iff]
  unfold mem inL onesF
  rw [List.any_eq_true, decide_eq_true_eq, mem_castL]
  constructor
  · rintro ⟨x, hx, h⟩
    obtain ⟨p, hp, rfl⟩ := List.mem_map.1 hx
    refine ⟨p, hp, ?_⟩
    simp only [Bool.and_eq_true, decide_eq_true_eq] at h
    omega
  · rintro ⟨p, hp, e⟩
    refine ⟨((p : Int), 1), List.mem_map.2 ⟨p, hp, rfl⟩, ?_⟩
    simp only [Bool.and_eq_true, decide_eq_true_eq]
    omega
/-- the order in which the program takes the huge groups -/
def OrdOk (C L : List Sp) (H : List Int) (ord : List Gp) : Prop := ord.Perm ((gsH C L H).filter hugeP) ∧ ord.Pairwise (fun a b => ltX b a = false)
theorem ord_ok {C L : List Sp} {H : List Int} : OrdOk C L H (Sort.insertionSort Go.Proofs.YtpabnbhbcphfiaaGreat.ltL ((gsH C L H).filter hugeP).toArray 0 ((gsH C L H).filter hugeP).length).toList := by
  refine insSort_X _ (List.Pairwise.filter _ ?_)
  rw [gsH_map, List.pairwise_map]
  exact grps_lt
end Go.Pol
namespace Go.Pol
open Go
/-- is a page idle? -/
def idlP (C L : List Sp) (p : Nat) : Bool := mem (p : Int) C && !mem (p : Int) L
theorem idle_setA {C L : List Sp} (hC : Can C) (hL : Can L) : combF 3 C L = setA (idlP C L) := by
  unfold combF
  rw [if_pos (idle_can hC hL).1]
  congr 1
theorem mem_setA' (f : Nat → Bool) {p : Nat} (hp : p < 1024) : mem (p : Int) (setA f) = f p := by
  rw [Bool.eq_iff_iff, mem_setA]
  simp; omega
/-- how many pages a set of marks has -/
theorem sumS_setA (f : Nat → Bool) : sumS (setA f) = (((List.range 1024).filter f).length : Int) := by
  rw [← count_law (setA_can f)]
  have h := filter_cnt (fun q => mem q (setA f)) 1024
  rw [List.filter_congr (fun p hp => mem_setA' f (List.mem_range.1 hp))] at h
  exact h.symm
theorem setA_list {f : Nat → Bool} : setA (inL (castL ((List.range 1024).filter f))) = setA f := by
  refine ((setA_can _).eq_setA f fun p hp => ?_)
  rw [mem_setA' _ hp]
  unfold inL
  rw [Bool.eq_iff_iff, decide_eq_true_eq, mem_castL]
  constructor
  · intro h
    exact ⟨p, List.mem_filter.2 ⟨List.mem_range.2 hp, h⟩, rfl⟩
  · rintro ⟨q, hq, e⟩
    have : q = p := by omega
    subst this
    exact (List.mem_filter.1 hq).2
theorem range_inL {l : List Nat} (hn : l.Pairwise (· < ·)) (hb : ∀ p ∈ l, p < 1024) : (List.range 1024).filter (inL (castL l)) = l := by
  have hm : ∀ p, inL (castL l) p = true ↔ p ∈ l := fun p => by
    unfold inL
    rw [decide_eq_true_eq, mem_castL]
    constructor
    · rintro ⟨q, hq, e⟩
      have : q = p := by omega
      rwa [← this]
    · exact fun h => ⟨p, h, rfl⟩
  have hp : ((List.range 1024).filter (inL (castL l))).Perm l := (List.perm_ext_iff_of_nodup (List.nodup_range.filter _) (hn.imp (fun h => by omega))).2 fun x => by
    rw [List.mem_filter, List.mem_range, hm]
    exact ⟨fun h => h.2, fun h => ⟨hb x h, h⟩⟩
  exact hp.eq_of_pairwise (fun a b _ _ h1 h2 => by omega) (List.pairwise_lt_range.filter _) hn
/-- what HugeFewest asks of an answer, where the state is one -/
def FewOk (C L : List Sp) (H : List Int) (n : Int) (R : List Sp × Int) : Prop :=
  (R.2 ≠ 0 ∧ R.1 = [] ∧ ((R.2 = 2 ∧ (n < 0 ∨ 1024 < n)) ∨ (R.2 = 4 ∧ 0 ≤ n ∧ n ≤ 1024 ∧ sumS (combF 3 C L) < n))) ∨
  (R.2 = 0 ∧ 0 ≤ n ∧ n ≤ 1024 ∧ Can R.1 ∧ sumS R.1 = n ∧ chk2 R.1 (combF 3 C L) = 0 ∧ combF 3 R.1 (combF 3 C L) = [] ∧
    ∀ B : Nat → Bool, (∀ p, p < 1024 → B p = true → idlP C L p = true) → (((List.range 1024).filter B).length : Int) = n →
      (touchF R.1 H).length < (touchF (setA B) H).length ∨ ((touchF R.1 H).length = (touchF (setA B) H).length ∧ liveS L (touchF R.1 H) ≤ liveS L (touchF (setA B) H)))
theorem liveS_sumF (L : List Sp) (l : List Int) : liveS L l = sumF (grpF L) l := rfl
theorem Gr.fewest {C L : List Sp} {H os : List Int} {nn m : Nat} (h : Gr C L H os nn m) {l : List Nat} (hl : l.Pairwise (· < ·)) (hb : ∀ p ∈ l, p < 1024) (hi : ∀ p ∈ l, idlP C L p = true) (hlen : l.length = nn) :
    m < (touI H l).length ∨ (m = (touI H l).length ∧ sumF (grpF L) (os.take m) ≤ sumF (grpF L) (touI H l)) := by
  have hUn := h.touN l
  have hUH : ∀ g ∈ touI H l, g ∈ H := fun g hg => Gr.touH hg
  have hsub : ∀ p ∈ l, p ∈ freeL C L H (touI H l) := fun p hp => by
    unfold freeL
    refine List.mem_filter.2 ⟨List.mem_range.2 (hb p hp), freeP_iff.2 ⟨?_, fun hx => mem_touI.2 ⟨hx, p, hp, rfl⟩⟩⟩
    have := hi p hp
    simpa [idlP] using this
  have h1 : nn ≤ (freeL C L H (touI H l)).length := by
    rw [← hlen]
    exact List.Nodup.length_le_of_subset (hl.imp (fun h => by omega)) (fun p hp => hsub p hp)
  generalize touI H l = U at *
  have h2 := free_len h.hz hUn hUH
  have hmin := set_min (ltG_le h.ord) h.nodup hUn (fun x hx => (h.perm.mem_iff).2 (hUH x hx))
  rw [sumI_eq] at h2
  have hle : m ≤ U.length := by
    apply Nat.le_of_not_lt
    intro hlt
    have h3 := h.few U.length hlt
    rw [sumI_eq, List.length_take, Nat.min_eq_left (by have := h.ml; omega)] at h3
    omega
  by_cases he : m = U.length
  · right
    refine ⟨he, ?_⟩
    rw [he]; exact hmin
  · left; omega
theorem fewest_law {C L : List Sp} {H : List Int} (n : Int) (ord : List Gp) (hz : chkH C L H = 0) (ho : OrdOk C L H ord) : FewOk C L H n (chooseA C L H n ord) := by
  by_cases hn : n < 0 ∨ 1024 < n
  case pos => exact .inl (by simp [chooseA, hz, hn])
  obtain ⟨hp, hs⟩ := ho
  obtain ⟨canC, canL, hin, hsub, hok⟩ := chkH_zero.1 hz
  have hnH : H.Nodup := (hugOk_lt hok).imp (fun h => by omega)
  rw [gsH_huge hz] at hp
  obtain ⟨nn, rfl⟩ : ∃ nn : Nat, n = (nn : Int) := ⟨n.toNat, by omega⟩
  have hlive : ∀ x ∈ ord, x.2.2.1 = grpF L x.1 := fun x hx => by
    obtain ⟨g, _, rfl⟩ := List.mem_map.1 (hp.mem_iff.1 hx); rfl
  obtain ⟨os, hos⟩ : ∃ os, ord.map (·.1) = os := ⟨_, rfl⟩
  have hperm : os.Perm H := by
    have := hp.map (·.1)
    rw [List.map_map, hos] at this
    have e : H.map ((fun x : Gp => x.1) ∘ fun g => (g, grpF C g, grpF L g, true)) = H := by
      rw [show ((fun x : Gp => x.1) ∘ fun g => (g, grpF C g, grpF L g, true)) = id from rfl, List.map_id]
    rw [e] at this; exact this
  have hon : os.Nodup := hperm.nodup_iff.2 hnH
  have hord : os.Pairwise (ltG (grpF L)) := by
    rw [← hos, List.pairwise_map]
    have hne : ord.Pairwise (fun a b => a.1 ≠ b.1) := by
      have := hon
      rw [← hos] at this
      exact List.pairwise_map.1 this
    refine List.Pairwise.imp_of_mem ?_ (hs.and hne)
    intro a b ha hb h
    obtain ⟨h1, h2⟩ := h
    have la := hlive a ha
    have lb := hlive b hb
    simp only [ltX, Bool.or_eq_false_iff, Bool.and_eq_false_iff, decide_eq_false_iff_not] at h1
    unfold ltG
    rw [← la, ← lb]
    omega
  have hidle : ∀ j, idleG (ord.take j) = sumF (fun g => 16 - grpF L g) (os.take j) := fun j => by
    rw [← hos, ← List.map_take]
    unfold idleG sumF
    rw [List.map_map]
    exact congrArg List.sum (List.map_congr_left fun x hx => by
      show 16 - x.2.2.1 = 16 - grpF L x.1
      rw [hlive x (List.mem_of_mem_take hx)])
  obtain ⟨m, m1, m2, m3, m4⟩ := cutH_spec (nn : Int) (haveF (gsH C L H)) ord
  have hnum : numsF (cutH (nn : Int) (haveF (gsH C L H)) ord) = os.take m := by
    rw [m2, ← hos, ← List.map_take]; rfl
  have hol : os.length = ord.length := by rw [← hos, List.length_map]
  have hcA : chooseA C L H (nn : Int) ord = if haveF (gsH C L H) + sumF (fun g => 16 - grpF L g) (os.take m) < nn then ([], 4) else (setA (inL (castL ((freeL C L H (os.take m)).take nn))), 0) := by
    unfold chooseA
    rw [if_neg (by simp [hz]), if_neg hn, hnum, m2, hidle m, ones_setA]
    rfl
  rw [hcA]
  have hidl : idlP C L = freeP C L H H := by
    funext p
    rw [Bool.eq_iff_iff, freeP_iff]
    simp [idlP]
  by_cases hlt : haveF (gsH C L H) + sumF (fun g => 16 - grpF L g) (os.take m) < nn
  · rw [if_pos hlt]
    have hm : m = os.length := by
      rcases m4 with h | h
      · rw [hidle m] at h; omega
      · rw [hol]; exact h
    rw [hm, List.take_length] at hlt
    refine .inl ⟨by decide, rfl, .inr ⟨rfl, by omega, by omega, ?_⟩⟩
    rw [idle_setA canC canL, sumS_setA, hidl]
    have h1 := free_len hz hnH (fun g hg => hg)
    unfold freeL at h1
    rw [h1, ← sumF_perm hperm]
    exact hlt
  · rw [if_neg hlt]
    have hG : Gr C L H os nn m := ⟨hz, hperm, hord, by omega, by omega, fun j hj => by rw [← hidle j]; exact m3 j hj⟩
    have hlen := hG.len
    have htou := hG.touched
    have hasc : ((freeL C L H (os.take m)).take nn).Pairwise (· < ·) := List.Pairwise.sublist (List.take_sublist _ _) (List.pairwise_lt_range.filter _)
    have hbd : ∀ p ∈ (freeL C L H (os.take m)).take nn, p < 1024 := fun p hp => freeL_lt (List.mem_of_mem_take hp)
    have hidx : ∀ p ∈ (freeL C L H (os.take m)).take nn, idlP C L p = true := fun p hp => by
      have := (freeP_iff.1 (List.mem_filter.1 (List.mem_of_mem_take hp)).2).1
      simp [idlP, this]
    generalize (freeL C L H (os.take m)).take nn = l at *
    have hcan := setA_can (inL (castL l))
    have hcan2 := (idle_can canC canL).2
    have hc2 : chk2 (setA (inL (castL l))) (combF 3 C L) = 0 := by
      unfold chk2
      rw [if_pos (chkS_zero.2 hcan)]; exact chkS_zero.2 hcan2
    refine .inr ⟨rfl, by omega, by omega, hcan, ?_, hc2, ?_, fun B hB hcnt => ?_⟩
    · show sumS (setA (inL (castL l))) = _
      rw [sumS_setA, range_inL hasc hbd, hlen]
    · show combF 3 (setA (inL (castL l))) (combF 3 C L) = []
      have hx : ∀ p : Nat, p < 1024 → mem (p : Int) (combF 3 C L) = idlP C L p := fun p hp => by rw [idle_setA canC canL, mem_setA' _ hp]
      generalize combF 3 C L = I at *
      unfold combF
      rw [if_pos hc2]
      refine ((show Can [] from ⟨by simp, rfl⟩).eq_setA _ fun p hp => ?_).symm
      rw [mem_nil]
      unfold combG
      rw [if_neg (by decide), if_neg (by decide), mem_setA' _ hp, hx p hp]
      cases h : inL (castL l) p with
      | false => rfl
      | true =>
        have : p ∈ l := by
          unfold inL at h
          rw [decide_eq_true_eq, mem_castL] at h
          obtain ⟨q, hq, e⟩ := h
          have : q = p := by omega
          rwa [← this]
        rw [hidx p this]; rfl
    · show (touchF (setA (inL (castL l))) H).length < _ ∨ _
      rw [touch_touI H l hbd, ← setA_list (f := B)]
      have hb2 : ∀ p ∈ (List.range 1024).filter B, p < 1024 := fun p hp => List.mem_range.1 (List.mem_filter.1 hp).1
      rw [touch_touI H _ hb2, liveS_sumF, liveS_sumF]
      rw [htou.length_eq, sumF_perm htou, List.length_take, Nat.min_eq_left (by omega)]
      exact hG.fewest (List.pairwise_lt_range.filter _) hb2 (fun p hp => hB p (hb2 p hp) (List.mem_filter.1 hp).2) (by omega)
end Go.Pol
namespace Go.Pol
open Go Go.Proofs Go.RowKit

theorem ref_pg (V : Vm) (k : Nat) : (V.ref k).pg = V.pg := rfl
/-- pages of huge groups are committed, and the pages of a group are all of a huge one, or none is -/
structure HugeV (V : Vm) : Prop where
  good : GoodV V
  grp : ∀ p q : Nat, p < 1024 → q < 1024 → p / 16 = q / 16 → (V.pg p).huge = (V.pg q).huge
theorem HugeV.bec {V : Vm} (h : HugeV V) (a n : Int) (call : Nat) (fr tk : Int) (ht : 0 ≤ tk ∧ tk ≤ 3) : HugeV (bec V a n call fr tk).2 := by
  refine ⟨h.good.bec a n call fr tk ht, fun p q hp hq e => ?_⟩
  unfold Go.Pol.bec
  rcases makeF_cases V a n call (fun g => g.kind == fr && !g.huge) (fun _ => newPg tk) with ⟨_, h2⟩ | ⟨_, h0, h1, h2, h3, h4⟩
  · rw [h2]; exact h.grp p q hp hq e
  · have hs := h.grp p q hp hq e
    have hx : ∀ x : Nat, ((makeF V a n call (fun g => g.kind == fr && !g.huge) (fun _ => newPg tk)).2.pg x).huge = (V.pg x).huge := fun x => by
      rw [h4]
      split
      · rename_i hc
        have := h3 x hc.1 hc.2
        simp only [Bool.and_eq_true, Bool.not_eq_true'] at this
        rw [this.2]; rfl
      · rfl
    rw [hx, hx]; exact hs
theorem fstB_iff {p : Int} : fstB p = true ↔ 0 ≤ p ∧ p < 1024 ∧ p % 16 = 0 := by simp [fstB, and_assoc]
theorem HugeV.join {V : Vm} (h : HugeV V) (g : Int) : HugeV (Go.Pol.joinF V g).2 := by
  refine ⟨h.good.join g, fun p q hp hq e => ?_⟩
  have hs := h.grp p q hp hq e
  unfold Go.Pol.joinF
  by_cases c1 : fstB g = false
  · rw [if_pos c1]; exact hs
  rw [if_neg c1]
  by_cases c2 : (V.pg g.toNat).huge = true
  · rw [if_pos c2]; exact hs
  rw [if_neg c2]
  rw [Bool.not_eq_false] at c1
  obtain ⟨f1, f2, f3⟩ := fstB_iff.1 c1
  rcases makeF_cases V g 16 5 (fun g => g.kind == 2) (fun g => g.hugeP true) with ⟨_, h2⟩ | ⟨_, h0, h1, h2, h3, h4⟩
  · rw [h2]; exact hs
  · rw [h4, h4]
    by_cases hc : g ≤ p ∧ (p : Int) < g + 16
    · rw [if_pos hc, if_pos (by omega)]; rfl
    · rw [if_neg hc, if_neg (by omega)]; exact hs
theorem HugeV.split {V : Vm} (h : HugeV V) (g : Int) : HugeV (splitF V g).2 := by
  refine ⟨h.good.split g, fun p q hp hq e => ?_⟩
  have hs := h.grp p q hp hq e
  unfold splitF
  by_cases c1 : fstB g = false
  · rw [if_pos c1]; exact hs
  rw [if_neg c1]
  rw [Bool.not_eq_false] at c1
  obtain ⟨f1, f2, f3⟩ := fstB_iff.1 c1
  rcases makeF_cases V g 16 6 (fun g => g.huge) (fun g => g.hugeP false) with ⟨_, h2⟩ | ⟨_, h0, h1, h2, h3, h4⟩
  · rw [h2]; exact hs
  · rw [h4, h4]
    by_cases hc : g ≤ p ∧ (p : Int) < g + 16
    · rw [if_pos hc, if_pos (by omega)]; rfl
    · rw [if_neg hc, if_neg (by omega)]; exact hs
theorem HugeV.of_pg {V U : Vm} (h : HugeV V) (e : U.pg = V.pg) : HugeV U := ⟨h.good.of_pg e, fun p q hp hq he => by rw [e]; exact h.grp p q hp hq he⟩
theorem HugeV.write {V : Vm} (h : HugeV V) (a v : Int) : HugeV (writeF V a v) :=
  ⟨h.good.write a v, fun p q hp hq e => by rw [(writeF_hug V a v p).1, (writeF_hug V a v q).1]; exact h.grp p q hp hq e⟩
theorem HugeV.new : HugeV newVm := ⟨GoodV.new, fun _ _ _ _ _ => rfl⟩
theorem HugeV.plan {V : Vm} (h : HugeV V) (l : List Ru) : HugeV (planF V l) := h.of_pg (by unfold planF; split <;> rfl)
theorem HugeV.lay {V : Vm} (h : HugeV V) (x : Int × Int) : HugeV (layS V x) := by
  unfold layS
  split
  · exact (h.bec _ _ _ _ _ (by omega)).bec _ _ _ _ _ (by omega)
  · exact h.bec _ _ _ _ _ (by omega)
theorem HugeV.hugS {V : Vm} (h : HugeV V) (g : Int) : HugeV (Go.Pol.hugS V g) := by
  unfold Go.Pol.hugS
  split
  · exact h.join _
  · exact h
theorem foldl_huge {α : Type} {f : Vm → α → Vm} (hf : ∀ V x, HugeV V → HugeV (f V x)) : ∀ (l : List α) (V : Vm), HugeV V → HugeV (l.foldl f V)
  | [], _, h => h
  | x :: r, V, h => foldl_huge hf r (f V x) (hf V x h)
theorem sysF_huge (us hs ws l) : HugeV (sysF us hs ws l) :=
  HugeV.plan (foldl_huge (fun _ x h => HugeV.hugS h x) hs _ (foldl_huge (fun _ x h => h.write x.1 x.2) ws _ (foldl_huge (fun _ x h => h.lay x) us newVm HugeV.new))) l
/-- the huge groups that the law sees -/
theorem hugesF_iff (V : Vm) (x : Int) : ∀ k, x ∈ hugesF V k ↔ ∃ j : Nat, x = j ∧ 16 * j < k ∧ (V.pg (16 * j)).huge = true
  | 0 => by
    constructor
    · intro hx; cases hx
    · rintro ⟨j, _, hj, _⟩; omega
  | k + 1 => by
    have ih := hugesF_iff V x k
    unfold hugesF
    by_cases hc : (V.pg k).huge = true ∧ k % 16 = 0
    · rw [if_pos hc, List.mem_append, List.mem_singleton, ih]
      constructor
      · rintro (⟨j, rfl, hj, h⟩ | rfl)
        · exact ⟨j, rfl, by omega, h⟩
        · exact ⟨k / 16, rfl, by omega, by rw [show 16 * (k / 16) = k by omega]; exact hc.1⟩
      · rintro ⟨j, rfl, hj, h⟩
        by_cases he : 16 * j < k
        · exact .inl ⟨j, rfl, he, h⟩
        · exact .inr (by omega)
    · rw [if_neg hc, ih]
      constructor
      · rintro ⟨j, rfl, hj, h⟩; exact ⟨j, rfl, by omega, h⟩
      · rintro ⟨j, rfl, hj, h⟩
        refine ⟨j, rfl, ?_, h⟩
        by_cases he : 16 * j < k
        · exact he
        · exfalso
          have hk : k = 16 * j := by omega
          subst hk
          exact hc ⟨h, by omega⟩
theorem comF_mem (V : Vm) {p : Nat} (hp : p < 1024) : mem (p : Int) (setA (comF V)) = comF V p := mem_setA' _ hp
theorem comb_can (how : Int) (us vs : List Sp) : Can (combF how us vs) := by
  unfold combF
  split
  · exact setA_can _
  · exact chkS_zero.1 rfl
theorem live_can (V : Vm) (vs : List Sp) : Can (liveF V vs) := comb_can _ _ _
theorem live_base (vs : List Sp) : Can (if ofE vs = 0 then setOf vs else []) := by
  split
  · exact setOf_can _
  · exact chkS_zero.1 rfl
theorem live_mem (V : Vm) (vs : List Sp) {p : Nat} (hp : p < 1024) : mem (p : Int) (liveF V vs) = (mem (p : Int) (if ofE vs = 0 then setOf vs else []) && comF V p) := by
  unfold liveF combF
  have hk : chk2 (if ofE vs = 0 then setOf vs else []) (setA (comF V)) = 0 := by
    unfold chk2
    rw [if_pos (chkS_zero.2 (live_base vs))]; exact chkS_zero.2 (setA_can _)
  rw [if_pos hk, mem_setA' _ hp, comF_mem V hp]; rfl
/-- what is said of such a system is a state -/
theorem stated_ok {V : Vm} (h : HugeV V) (vs : List Sp) : chkH (setA (comF V)) (liveF V vs) (hugesF V 1024) = 0 := by
  have hin : ∀ g ∈ hugesF V 1024, (0 ≤ g ∧ g < 64) ∧ grpF (setA (comF V)) g = 16 := fun g hg => by
    obtain ⟨j, rfl, hj, hh⟩ := (hugesF_iff V g 1024).1 hg
    refine ⟨by omega, ?_⟩
    unfold grpF cntF
    have := cntN_all (f := fun q => mem q (setA (comF V))) 16 (16 * (j : Int)) (fun q h1 h2 => by
      obtain ⟨p, rfl⟩ : ∃ p : Nat, q = (p : Int) := ⟨q.toNat, by omega⟩
      rw [comF_mem V (by omega)]
      unfold comF
      rw [h.good.hug p (by omega) (by rw [h.grp p (16 * j) (by omega) (by omega) (by omega)]; exact hh)]
      rfl)
    simpa using this
  refine chkH_zero.2 ⟨setA_can _, live_can V vs, fun g hg => inG_iff.2 (hin g hg).1, ?_, hugOk_of _ _ (hugesF_asc V 1024).1 (fun g hg => ⟨by have := (hin g hg).1.1; omega, (hin g hg).2⟩)⟩
  unfold subF
  rw [List.all_eq_true]
  intro p hp
  have hp' := List.mem_range.1 hp
  rw [live_mem V vs hp', comF_mem V hp']
  cases mem (p : Int) (if ofE vs = 0 then setOf vs else []) <;> cases comF V p <;> rfl
/-! how many groups are huge -/
def nHug (V : Vm) : List Nat := (List.range 64).filter fun j => (V.pg (16 * j)).huge
theorem huges_list (V : Vm) : hugesF V 1024 = (nHug V).map (fun j : Nat => (j : Int)) := by
  refine asc_eq (hugesF_asc V 1024).1 ?_ (fun x => ?_)
  · rw [List.pairwise_map]
    exact (List.pairwise_lt_range.filter _).imp (fun h => by omega)
  · rw [hugesF_iff, List.mem_map]
    unfold nHug
    constructor
    · rintro ⟨j, rfl, hj, h⟩
      exact ⟨j, List.mem_filter.2 ⟨List.mem_range.2 (by omega), h⟩, rfl⟩
    · rintro ⟨j, hj, rfl⟩
      obtain ⟨h1, h2⟩ := List.mem_filter.1 hj
      exact ⟨j, rfl, by have := List.mem_range.1 h1; omega, h2⟩
theorem huges_len (V : Vm) : (hugesF V 1024).length = (nHug V).length := by rw [huges_list, List.length_map]
/-- what may differ: which groups are huge -/
structure SameB (V U : Vm) : Prop where
  kind : ∀ p, (U.pg p).kind = (V.pg p).kind
  byt : ∀ p, (U.pg p).byt = (V.pg p).byt
theorem SameB.refl (V : Vm) : SameB V V := ⟨fun _ => rfl, fun _ => rfl⟩
theorem SameB.trans {V U W : Vm} (h : SameB V U) (k : SameB U W) : SameB V W := ⟨fun p => (k.kind p).trans (h.kind p), fun p => (k.byt p).trans (h.byt p)⟩
theorem join_same (V : Vm) (g : Int) : SameB V (Go.Pol.joinF V g).2 := by
  unfold Go.Pol.joinF
  split
  · exact .refl V
  · split
    · exact .refl V
    · rcases makeF_cases V g 16 5 (fun g => g.kind == 2) (fun g => g.hugeP true) with ⟨_, h2⟩ | ⟨_, h0, h1, h2, h3, h4⟩
      · exact ⟨fun p => by rw [h2], fun p => by rw [h2]⟩
      · exact ⟨fun p => by rw [h4]; split <;> rfl, fun p => by rw [h4]; split <;> rfl⟩
theorem join_num (V : Vm) (g : Int) : (nHug (Go.Pol.joinF V g).2).length = (nHug V).length + if (Go.Pol.joinF V g).1 = 0 then 1 else 0 := by
  unfold Go.Pol.joinF
  by_cases c1 : fstB g = false
  · rw [if_pos c1]; rfl
  rw [if_neg c1]
  by_cases c2 : (V.pg g.toNat).huge = true
  · rw [if_pos c2]; rfl
  rw [if_neg c2]
  rw [Bool.not_eq_false] at c1
  obtain ⟨f1, f2, f3⟩ := fstB_iff.1 c1
  rcases makeF_cases V g 16 5 (fun g => g.kind == 2) (fun g => g.hugeP true) with ⟨h1, h2⟩ | ⟨h1, h0, _, h2, h3, h4⟩
  · rw [if_neg h1]
    unfold nHug
    rw [h2]; rfl
  · rw [if_pos h1]
    obtain ⟨j, hj⟩ : ∃ j : Nat, g = 16 * (j : Int) := ⟨(g / 16).toNat, by omega⟩
    have e : nHug (makeF V g 16 5 (fun g => g.kind == 2) (fun g => g.hugeP true)).2 = (List.range 64).filter fun i => (V.pg (16 * i)).huge || decide (i = j) := by
      unfold nHug
      refine List.filter_congr (fun i hi => ?_)
      rw [h4]
      by_cases he : i = j
      · rw [if_pos (by omega)]
        simp [he, Pg.hugeP]
      · rw [if_neg (by omega)]
        simp [he]
    rw [e, filt_add _ (fun i _ p1 p2 => by
      rw [decide_eq_true_eq] at p2
      subst p2
      exact c2 (by rw [show g.toNat = 16 * i by omega]; exact p1))]
    have e2 : ((List.range 64).filter fun i => decide (i = j)).length = 1 := by
      have : (List.range 64).filter (fun i => decide (i = j)) = [j] := by
        refine List.Perm.eq_of_pairwise (le := fun a b => a < b) (fun a b _ _ h1 h2 => by omega) (List.pairwise_lt_range.filter _) (by simp) ((List.perm_ext_iff_of_nodup (List.nodup_range.filter _) (by simp)).2 fun x => ?_)
        rw [List.mem_filter, List.mem_range, decide_eq_true_eq, List.mem_singleton]
        constructor
        · exact fun h => h.2
        · rintro rfl; exact ⟨by omega, rfl⟩
      rw [this]; rfl
    rw [e2]; rfl
theorem hjs_keep : ∀ (l : List Int) (s : Vm × List Int × Int), HugeV s.1 → HugeV (l.foldl hjS s).1 ∧ SameB s.1 (l.foldl hjS s).1 ∧ (nHug (l.foldl hjS s).1).length + s.2.1.length = (nHug s.1).length + (l.foldl hjS s).2.1.length
  | [], s, h => ⟨h, .refl _, rfl⟩
  | g :: r, s, h => by
    obtain ⟨a, b, c⟩ := hjs_keep r (hjS s g) (h.join _)
    rw [List.foldl_cons]
    refine ⟨a, (join_same s.1 _).trans b, ?_⟩
    have hn := join_num s.1 (wrap64 (g * 16))
    have e1 : (hjS s g).1 = (Go.Pol.joinF s.1 (wrap64 (g * 16))).2 := rfl
    have e2 : (hjS s g).2.1 = if (Go.Pol.joinF s.1 (wrap64 (g * 16))).1 = 0 then s.2.1 ++ [g] else s.2.1 := rfl
    rw [e1, e2, hn] at c
    by_cases hz : (Go.Pol.joinF s.1 (wrap64 (g * 16))).1 = 0
    · rw [if_pos hz, if_pos hz, List.length_append, List.length_singleton] at c
      omega
    · rw [if_neg hz, if_neg hz] at c
      omega
/-- without rules all whole groups are joined -/
theorem hjs_free : ∀ (l : List Int) (V : Vm) (d : List Int), V.rf.rules = [] → l.Pairwise (· < ·) → (∀ g ∈ l, (0 ≤ g ∧ g < 64) ∧ (V.pg (16 * g).toNat).huge = false ∧ ∀ p : Nat, 16 * g ≤ p → (p : Int) < 16 * g + 16 → (V.pg p).kind = 2) →
    (l.foldl hjS (V, d, 0)).2.2 = 0
  | [], _, _, _, _, _ => rfl
  | g :: r, V, d, h, hp, hg => by
    obtain ⟨p1, p2⟩ := List.pairwise_cons.1 hp
    obtain ⟨⟨a, b⟩, c, k⟩ := hg g (by simp)
    have hw : wrap64 (g * 16) = 16 * g := by unfold wrap64; omega
    have e : Go.Pol.joinF V (16 * g) = (0, (V.ref 5).eachP (16 * g).toNat (16 : Int).toNat (fun p => p.hugeP true)) := by
      unfold Go.Pol.joinF
      rw [if_neg (by rw [fstB_iff.2 (by omega)]; decide), if_neg (by rw [c]; decide)]
      exact makeF_none h (by omega) (by omega) (by omega) (fun p h1 h2 => by rw [k p h1 (by omega)]; rfl)
    have e2 : hjS (V, d, 0) g = ((V.ref 5).eachP (16 * g).toNat (16 : Int).toNat (fun p => p.hugeP true), d ++ [g], 0) := by
      unfold hjS
      simp only [hw, e, if_true]
    rw [List.foldl_cons, e2]
    refine hjs_free r _ _ ((V.ref_rules 5).trans h) p2 (fun x hx => ?_)
    obtain ⟨q1, q2, q3⟩ := hg x (by simp [hx])
    have hgx := p1 x hx
    refine ⟨q1, ?_, fun p h1 h2 => ?_⟩
    · show ((if _ then _ else _ : Pg)).huge = false
      rw [if_neg (by omega)]; exact q2
    · show ((if _ then _ else _ : Pg)).kind = 2
      rw [← q3 p h1 h2]
      split <;> rfl
/-- what HugeKeeps asks of huge's Join -/
theorem keeps_join {V : Vm} (h : HugeV V) (vs : List Sp) (J : Vm × List Int × Int) (hJ : hjF V (groupsA (setA (comF V)) (liveF V vs) (hugesF V 1024) 0) = J) :
    HugeV J.1 ∧ SameB V J.1 ∧ (hugesF J.1 1024).length = (hugesF V 1024).length + J.2.1.length ∧ (V.rf.rules = [] → J.2.2 = 0) ∧ J.1.rf.rules = V.rf.rules := by
  have hz := stated_ok h vs
  have hGA : groupsA (setA (comF V)) (liveF V vs) (hugesF V 1024) 0 = (wholeF (setA (comF V)) (hugesF V 1024), 0) := by
    unfold groupsA
    rw [if_neg (by rw [hz]; simp), if_neg (by omega), groups_whole]
  rw [hGA] at hJ
  unfold hjF at hJ
  rw [if_neg (by simp)] at hJ
  subst hJ
  obtain ⟨a, b, c⟩ := hjs_keep (wholeF (setA (comF V)) (hugesF V 1024)) (V, [], 0) h
  refine ⟨a, b, by rw [huges_len, huges_len]; simpa using c, fun hr => ?_, hjS_rules _ _⟩
  refine hjs_free (wholeF (setA (comF V)) (hugesF V 1024)) V [] hr (grps_lt.filter _) (fun g hg => ?_)
  obtain ⟨w1, w2, w3⟩ := whole_mem.1 hg
  have hc : ∀ p : Nat, 16 * g ≤ p → (p : Int) < 16 * g + 16 → (V.pg p).kind = 2 := fun p h1 h2 => by
    have := grpF_full w3 (q := (p : Int)) h1 h2
    rw [comF_mem V (by omega)] at this
    simpa [comF] using this
  refine ⟨w1, ?_, hc⟩
  cases hh : (V.pg (16 * g).toNat).huge with
  | false => rfl
  | true => exact absurd ((hugesF_iff V g 1024).2 ⟨g.toNat, by omega, by omega, by rw [show 16 * g.toNat = (16 * g).toNat by omega]; exact hh⟩) w2
/-! Back -/
theorem split_same (V : Vm) (g : Int) : SameB V (splitF V g).2 := by
  unfold splitF
  split
  · exact .refl V
  · rcases makeF_cases V g 16 6 (fun g => g.huge) (fun g => g.hugeP false) with ⟨_, h2⟩ | ⟨_, h0, h1, h2, h3, h4⟩
    · exact ⟨fun p => by rw [h2], fun p => by rw [h2]⟩
    · exact ⟨fun p => by rw [h4]; split <;> rfl, fun p => by rw [h4]; split <;> rfl⟩
theorem splitF_rules (V : Vm) (p : Int) : (splitF V p).2.rf.rules = V.rf.rules := by
  unfold splitF
  split
  · rfl
  · exact makeF_rules ..
theorem spF_keep : ∀ (l : List Int) (V : Vm), HugeV V → HugeV (spF l V).2.2 ∧ SameB V (spF l V).2.2 ∧ (spF l V).2.2.rf.rules = V.rf.rules
  | [], V, h => ⟨h, .refl _, rfl⟩
  | g :: r, V, h => by
    unfold spF
    split
    · obtain ⟨a, b, c⟩ := spF_keep r (splitF V (wrap64 (g * 16))).2 (h.split _)
      exact ⟨a, (split_same V _).trans b, c.trans (splitF_rules V _)⟩
    · exact ⟨h.split _, split_same V _, splitF_rules V _⟩
/-- without rules huge groups are split, and are none then -/
theorem spF_free : ∀ (l : List Int) (V : Vm), HugeV V → V.rf.rules = [] → l.Nodup → (∀ g ∈ l, (0 ≤ g ∧ g < 64) ∧ (V.pg (16 * g).toNat).huge = true) →
    (spF l V).2.1 = 0 ∧ ∀ p : Nat, p < 1024 → ((spF l V).2.2.pg p).huge = ((V.pg p).huge && !decide (((p / 16 : Nat) : Int) ∈ l))
  | [], V, _, _, _, _ => ⟨rfl, fun p _ => by simp [spF]⟩
  | g :: r, V, h, hr, hn, hg => by
    obtain ⟨⟨a, b⟩, c⟩ := hg g (by simp)
    obtain ⟨n1, n2⟩ := List.nodup_cons.1 hn
    have hw : wrap64 (g * 16) = 16 * g := by unfold wrap64; omega
    have e : splitF V (16 * g) = (0, (V.ref 6).eachP (16 * g).toNat (16 : Int).toNat (fun p => p.hugeP false)) := by
      unfold splitF
      rw [if_neg (by rw [fstB_iff.2 (by omega)]; decide)]
      exact makeF_none hr (by omega) (by omega) (by omega) (fun p h1 h2 => by rw [h.grp p (16 * g).toNat (by omega) (by omega) (by omega)]; exact c)
    have h1 : HugeV ((V.ref 6).eachP (16 * g).toNat (16 : Int).toNat (fun p => p.hugeP false)) := by have := h.split (16 * g); rwa [e] at this
    have hpg : ∀ p : Nat, p < 1024 → (((V.ref 6).eachP (16 * g).toNat (16 : Int).toNat (fun p => p.hugeP false)).pg p).huge = ((V.pg p).huge && !decide (((p / 16 : Nat) : Int) = g)) := fun p hp => by
      show ((if _ then _ else _ : Pg)).huge = _
      by_cases hc : (16 * g).toNat ≤ p ∧ p < (16 * g).toNat + (16 : Int).toNat
      · rw [if_pos hc]
        have : ((p / 16 : Nat) : Int) = g := by omega
        simp [this, Pg.hugeP]
      · rw [if_neg hc]
        have : ¬ ((p / 16 : Nat) : Int) = g := by omega
        simp only [this, decide_false, Bool.not_false, Bool.and_true]; rfl
    unfold spF
    rw [hw, e, if_pos rfl]
    have hrl : ((V.ref 6).eachP (16 * g).toNat (16 : Int).toNat (fun p => p.hugeP false)).rf.rules = [] := (V.ref_rules 6).trans hr
    simp only
    generalize (V.ref 6).eachP (16 * g).toNat (16 : Int).toNat (fun p => p.hugeP false) = U at *
    obtain ⟨i1, i2⟩ := spF_free r U h1 hrl n2 (fun x hx => by
      obtain ⟨q1, q2⟩ := hg x (by simp [hx])
      refine ⟨q1, ?_⟩
      rw [hpg _ (by omega), q2]
      have : ¬ (((16 * x).toNat / 16 : Nat) : Int) = g := fun e => n1 (by
        have : x = g := by omega
        rw [← this]; exact hx)
      rw [decide_eq_false this]; rfl)
    refine ⟨i1, fun p hp => ?_⟩
    rw [i2 p hp, hpg p hp]
    simp only [List.mem_cons, Bool.decide_or, Bool.not_or, Bool.and_assoc]
/-- the spans that were given back, and no others -/
theorem dcF_pg : ∀ (ps : List Sp) (V : Vm), ∀ p : Nat, (dcF ps V).2.2.pg p = if mem (p : Int) (ps.take (dcF ps V).1) = true then newPg 1 else V.pg p
  | [], V, p => by simp [dcF, mem_nil]
  | x :: r, V, p => by
    unfold dcF
    rcases makeF_cases V x.1 x.2 3 (fun g => g.kind == 2 && !g.huge) (fun _ => newPg 1) with ⟨h1, h2⟩ | ⟨h1, h0, _, h2, h3, h4⟩
    · have h1' : ¬ (bec V x.1 x.2 3 2 1).1 = 0 := h1
      rw [if_neg h1']
      have e : mem (p : Int) (List.take 0 (x :: r)) = false := rfl
      show (bec V x.1 x.2 3 2 1).2.pg p = if mem (p : Int) (List.take 0 (x :: r)) = true then newPg 1 else V.pg p
      rw [if_neg (by rw [e]; decide)]
      unfold bec; rw [h2]
    · have h1' : (bec V x.1 x.2 3 2 1).1 = 0 := h1
      have h4' : ∀ p : Nat, (bec V x.1 x.2 3 2 1).2.pg p = if x.1 ≤ p ∧ (p : Int) < x.1 + x.2 then newPg 1 else V.pg p := h4
      rw [if_pos h1']
      simp only
      rw [dcF_pg r _ p, h4', List.take_succ_cons, mem_cons]
      by_cases c1 : mem (p : Int) (r.take (dcF r (bec V x.1 x.2 3 2 1).2).1) = true
      · rw [if_pos c1, if_pos (by rw [c1, Bool.or_true])]
      · rw [if_neg c1]
        rw [Bool.not_eq_true] at c1
        rw [c1, Bool.or_false]
        by_cases c2 : x.1 ≤ p ∧ (p : Int) < x.1 + x.2
        · rw [if_pos c2, if_pos (by simpa using c2)]
        · rw [if_neg c2, if_neg (by simpa using c2)]
theorem dcF_huge : ∀ (ps : List Sp) (V : Vm), HugeV V → HugeV (dcF ps V).2.2
  | [], _, h => h
  | x :: r, V, h => by
    unfold dcF
    split
    · exact dcF_huge r _ (h.bec _ _ _ _ _ (by omega))
    · exact h.bec _ _ _ _ _ (by omega)
theorem dcF_free : ∀ (ps : List Sp) (e : Int) (V : Vm), V.rf.rules = [] → formOk e ps = true → (∀ x ∈ ps, vld x = true) → (∀ p : Nat, p < 1024 → mem (p : Int) ps = true → (V.pg p).kind = 2 ∧ (V.pg p).huge = false) →
    (dcF ps V).2.1 = 0 ∧ (dcF ps V).1 = ps.length
  | [], _, _, _, _, _, _ => ⟨rfl, rfl⟩
  | x :: r, e, V, hr, hf, hv, hk => by
    obtain ⟨f1, f2⟩ := formOk_cons.1 hf
    obtain ⟨v1, v2, v3, v4⟩ := vld_iff.1 (hv x (by simp))
    have eb : bec V x.1 x.2 3 2 1 = (0, (V.ref 3).eachP x.1.toNat x.2.toNat (fun _ => newPg 1)) :=
      makeF_none hr v1 v3 (by omega) (fun p h1 h2 => by
        obtain ⟨a, b⟩ := hk p (by omega) (by rw [mem_cons, Bool.or_eq_true]; exact .inl (by simp; omega))
        rw [a, b]; rfl)
    unfold dcF
    rw [eb, if_pos rfl]
    simp only
    have := dcF_free r (x.1 + x.2) ((V.ref 3).eachP x.1.toNat x.2.toNat (fun _ => newPg 1)) ((V.ref_rules 3).trans hr) f2 (fun y hy => hv y (by simp [hy])) (fun p hp hm => by
      have hlo : x.1 + x.2 ≤ (p : Int) := Int.le_of_lt (mem_lt f2 (fun y hy => by have := (vld_iff.1 (hv y (by simp [hy]))).2.2.1; omega) hm)
      have : ((V.ref 3).eachP x.1.toNat x.2.toNat (fun _ => newPg 1)).pg p = V.pg p := by
        show (if _ then _ else _) = _
        rw [if_neg (by omega)]; rfl
      rw [this]
      exact hk p hp (by rw [mem_cons, Bool.or_eq_true]; exact .inr hm))
    exact ⟨this.1, by rw [this.2]; rfl⟩
end Go.Pol
namespace Go.Pol
open Go Go.Proofs Go.RowKit

theorem form_take : ∀ (l : List Sp) (e : Int) (n : Nat), formOk e l = true → formOk e (l.take n) = true
  | [], e, n, _ => by simp [formOk]
  | x :: r, e, 0, _ => by simp [formOk]
  | x :: r, e, n + 1, h => by
    obtain ⟨h1, h2⟩ := formOk_cons.1 h
    rw [List.take_succ_cons]
    exact formOk_cons.2 ⟨h1, form_take r _ n h2⟩
theorem Can.take {l : List Sp} (h : Can l) (n : Nat) : Can (l.take n) := ⟨fun x hx => h.1 x (List.mem_of_mem_take hx), form_take l _ n h.2⟩
theorem mem_take : ∀ {l : List Sp} {n : Nat} {p : Int}, mem p (l.take n) = true → mem p l = true
  | [], n, p, h => by simpa using h
  | x :: r, 0, p, h => by cases h
  | x :: r, n + 1, p, h => by
    rw [List.take_succ_cons] at h
    rcases mem_cons'.1 h with h | h
    · exact mem_cons'.2 (.inl h)
    · exact mem_cons'.2 (.inr (mem_take h))
/-- which pages Back gives back, and what it leaves as it was -/
theorem keeps_back {V : Vm} (h : HugeV V) (vs l : List Sp) (hl : Can l) (hi : ∀ p : Nat, p < 1024 → mem (p : Int) l = true → comF V p = true ∧ mem (p : Int) (liveF V vs) = false)
    (B : Nat × Nat × Int × Vm) (hB : hbF V (splitA (setA (comF V)) (liveF V vs) (hugesF V 1024) l) l = B) :
    HugeV B.2.2.2 ∧ (∀ p : Nat, p < 1024 → mem (p : Int) l = false → (B.2.2.2.pg p).byt = (V.pg p).byt) ∧ liveF B.2.2.2 vs = liveF V vs ∧ Can (l.take B.2.1) ∧
    combF 3 (setA (comF V)) (l.take B.2.1) = setA (comF B.2.2.2) ∧ (V.rf.rules = [] → B.2.2.1 = 0 ∧ l.take B.2.1 = l) := by
  have hz := stated_ok h vs
  have hsub : subF l (setA (comF V)) = true := by
    unfold subF
    rw [List.all_eq_true]
    intro p hp
    have hp' := List.mem_range.1 hp
    rw [comF_mem V hp']
    cases hm : mem (p : Int) l with
    | false => rfl
    | true => rw [(hi p hp' hm).1]; rfl
  have hSA : splitA (setA (comF V)) (liveF V vs) (hugesF V 1024) l = (splitG (hugesF V 1024) (pagesOf l), 0) := by
    unfold splitA
    rw [if_neg (by rw [hz]; simp), if_neg (by rw [chkS_zero.2 hl]; simp), if_neg (by rw [hsub]; decide)]
  rw [hSA] at hB
  unfold hbF at hB
  rw [if_neg (by simp)] at hB
  simp only at hB
  obtain ⟨sp1, sp2⟩ := splitG_spec (hugesF V 1024) (pagesOf l) [] (pages_lt hl) .nil (fun _ h => by cases h)
  have sp1' : (splitG (hugesF V 1024) (pagesOf l)).Pairwise (· < ·) := sp1
  have sp2' : ∀ g, g ∈ splitG (hugesF V 1024) (pagesOf l) ↔ g ∈ hugesF V 1024 ∧ ∃ p ∈ pagesOf l, p / 16 = g := fun g => by
    rw [show splitG (hugesF V 1024) (pagesOf l) = (pagesOf l).foldl (stepS (hugesF V 1024)) [] from rfl, sp2 g]
    simp
  have hfr := spF_free (splitG (hugesF V 1024) (pagesOf l)) V h
  generalize splitG (hugesF V 1024) (pagesOf l) = G at *
  obtain ⟨k1, k2, k3⟩ := spF_keep G V h
  have hfree : V.rf.rules = [] → (spF G V).2.1 = 0 ∧ ∀ p : Nat, p < 1024 → ((spF G V).2.2.pg p).huge = ((V.pg p).huge && !decide (((p / 16 : Nat) : Int) ∈ G)) := fun hr =>
    hfr hr (sp1'.imp (fun h => by omega)) (fun g hg => by
      obtain ⟨a, _⟩ := (sp2' g).1 hg
      obtain ⟨j, rfl, hj, hh⟩ := (hugesF_iff V g 1024).1 a
      exact ⟨by omega, by rw [show (16 * (j : Int)).toNat = 16 * j by omega]; exact hh⟩)
  generalize spF G V = S at *
  obtain ⟨n, er, U⟩ := S
  simp only at hB k1 k2 k3 hfree
  have hbase : ∀ (n : Nat) (W : Vm), (∀ p : Nat, W.pg p = if mem (p : Int) (l.take n) = true then newPg 1 else U.pg p) →
      (∀ p : Nat, p < 1024 → mem (p : Int) l = false → (W.pg p).byt = (V.pg p).byt) ∧ liveF W vs = liveF V vs ∧ combF 3 (setA (comF V)) (l.take n) = setA (comF W) := fun n W hW => by
    have hcom : ∀ p : Nat, p < 1024 → comF W p = (comF V p && !mem (p : Int) (l.take n)) := fun p hp => by
      unfold comF
      rw [hW]
      by_cases hm : mem (p : Int) (l.take n) = true
      · rw [if_pos hm, hm]
        show ((1 : Int) == 2) = _
        rw [Bool.not_true, Bool.and_false]; rfl
      · rw [if_neg hm, k2.kind]
        rw [Bool.not_eq_true] at hm
        rw [hm]; simp
    refine ⟨fun p hp hm => ?_, ?_, ?_⟩
    · rw [hW, if_neg (fun hc => by rw [mem_take hc] at hm; cases hm), k2.byt]
    · refine (live_can W vs).eq (live_can V vs) (fun q => ?_)
      by_cases hq : 0 ≤ q ∧ q < 1024
      · obtain ⟨p, rfl⟩ : ∃ p : Nat, q = (p : Int) := ⟨q.toNat, by omega⟩
        have hp : p < 1024 := by omega
        rw [live_mem W vs hp, live_mem V vs hp, hcom p hp]
        cases hm : mem (p : Int) (l.take n) with
        | false => simp
        | true =>
          have := (hi p hp (mem_take hm)).2
          rw [live_mem V vs hp] at this
          rw [this, Bool.not_true, Bool.and_false, Bool.and_false]
      · rw [Bool.eq_iff_iff]
        exact ⟨fun hc => absurd ((live_can W vs).range hc) hq, fun hc => absurd ((live_can V vs).range hc) hq⟩
    · unfold combF
      have hk : chk2 (setA (comF V)) (l.take n) = 0 := by
        unfold chk2
        rw [if_pos (chkS_zero.2 (setA_can _))]; exact chkS_zero.2 (hl.take n)
      rw [if_pos hk]
      refine (setA_can _).eq_setA _ (fun p hp => ?_)
      rw [mem_setA' _ hp, hcom p hp]
      show _ = combG 3 (mem (p : Int) (setA (comF V))) (mem (p : Int) (l.take n))
      rw [comF_mem V hp]; rfl
  by_cases he : er = 0
  · subst he
    rw [if_neg (by simp)] at hB
    subst hB
    simp only
    obtain ⟨b1, b2, b3⟩ := hbase (dcF l U).1 (dcF l U).2.2 (fun p => dcF_pg l U p)
    refine ⟨dcF_huge l U k1, b1, b2, hl.take _, b3, fun hr => ?_⟩
    obtain ⟨f1, f2⟩ := hfree hr
    have := dcF_free l (-1) U (k3.trans hr) hl.2 hl.1 (fun p hp hm => by
      obtain ⟨c1, _⟩ := hi p hp hm
      refine ⟨by rw [k2.kind]; simpa [comF] using c1, ?_⟩
      rw [f2 p hp]
      cases hh : (V.pg p).huge with
      | false => rfl
      | true =>
        have hin : ((p / 16 : Nat) : Int) ∈ G := (sp2' _).2 ⟨(hugesF_iff V _ 1024).2 ⟨p / 16, rfl, by omega, by rw [h.grp (16 * (p / 16)) p (by omega) hp (by omega)]; exact hh⟩, (p : Int), mem_pagesOf.2 hm, by omega⟩
        rw [decide_eq_true hin]; rfl)
    exact ⟨this.1, by rw [this.2, List.take_length]⟩
  · rw [if_pos (by simpa using he)] at hB
    subst hB
    simp only
    obtain ⟨b1, b2, b3⟩ := hbase 0 U (fun p => by rw [List.take_zero, mem_nil, if_neg (by decide)])
    exact ⟨k1, b1, b2, hl.take _, b3, fun hr => absurd (hfree hr).1 he⟩
end Go.Pol
namespace Go.Pol
open Go
/-- fewer live pages, or as many and no greater number -/
def LeX (x y : Gp) : Prop := x.2.2.1 < y.2.2.1 ∨ (x.2.2.1 = y.2.2.1 ∧ x.1 ≤ y.1)
theorem LeX.trans {x y z : Gp} (h : LeX x y) (k : LeX y z) : LeX x z := by unfold LeX at *; omega
theorem leX_iff {x y : Gp} : LeX x y ↔ ltX y x = false := by
  simp only [LeX, ltX, Bool.or_eq_false_iff, Bool.and_eq_false_iff, decide_eq_false_iff_not]
  omega
/-- as many live pages: in the order of their numbers -/
def TieX (x y : Gp) : Prop := x.2.2.1 = y.2.2.1 → x.1 ≤ y.1
theorem LeX.tie {x y : Gp} (h : LeX x y) : TieX x y := by unfold LeX at h; unfold TieX; omega
/-- an exchange -/
def sw (l : List Gp) (p q : Nat) : List Gp := (l.set p (l.getD q gp0)).set q (l.getD p gp0)
theorem sw_len (l : List Gp) (p q : Nat) : (sw l p q).length = l.length := by simp [sw]
theorem getD_sw {l : List Gp} {p q : Nat} (hp : p < l.length) (hq : q < l.length) (i : Nat) : (sw l p q).getD i gp0 = if i = q then l.getD p gp0 else if i = p then l.getD q gp0 else l.getD i gp0 := by
  unfold sw
  simp only [List.getD_eq_getElem?_getD, List.getElem?_set, List.length_set]
  by_cases h1 : q = i
  · subst h1; simp [hq]
  · rw [if_neg h1, if_neg (Ne.symm h1)]
    by_cases h2 : p = i
    · subst h2; simp [hp]
    · rw [if_neg h2, if_neg (Ne.symm h2)]
theorem ext_getD {a b : List Gp} (hl : a.length = b.length) (h : ∀ i, i < a.length → a.getD i gp0 = b.getD i gp0) : a = b := by
  apply List.ext_getElem hl
  intro i h1 h2
  have := h i h1
  rwa [List.getD_eq_getElem?_getD, List.getD_eq_getElem?_getD, List.getElem?_eq_getElem h1, List.getElem?_eq_getElem h2] at this
theorem getD_app (a b : List Gp) (i : Nat) : (a ++ b).getD i gp0 = if i < a.length then a.getD i gp0 else b.getD (i - a.length) gp0 := by
  simp only [List.getD_eq_getElem?_getD, List.getElem?_append]
  split <;> rfl
/-- exchanges, from below on -/
def swpL (a b : Nat) : Nat → List Gp → List Gp
  | 0, l => l
  | k + 1, l => sw (swpL a b k l) (a + k) (b + k)
theorem swpL_len (a b : Nat) : ∀ (k : Nat) (l : List Gp), (swpL a b k l).length = l.length
  | 0, _ => rfl
  | k + 1, l => by rw [swpL, sw_len, swpL_len a b k l]
theorem swpL_getD {a b : Nat} {l : List Gp} : ∀ {k : Nat}, a + k ≤ b → b + k ≤ l.length → ∀ i, (swpL a b k l).getD i gp0 =
    if a ≤ i ∧ i < a + k then l.getD (i - a + b) gp0 else if b ≤ i ∧ i < b + k then l.getD (i - b + a) gp0 else l.getD i gp0
  | 0, _, _, i => by rw [swpL, if_neg (by omega), if_neg (by omega)]
  | k + 1, h1, h2, i => by
    rw [swpL, getD_sw (by rw [swpL_len]; omega) (by rw [swpL_len]; omega), swpL_getD (by omega) (by omega), swpL_getD (by omega) (by omega), swpL_getD (by omega) (by omega)]
    by_cases e1 : i = b + k
    · subst e1
      rw [if_pos rfl, if_neg (by omega), if_neg (by omega), if_neg (by omega), if_pos (by omega)]
      congr 1; omega
    · rw [if_neg e1]
      by_cases e2 : i = a + k
      · subst e2
        rw [if_pos rfl, if_neg (by omega), if_neg (by omega), if_pos (by omega)]
        congr 1; omega
      · rw [if_neg e2]
        by_cases e3 : a ≤ i ∧ i < a + k
        · rw [if_pos e3, if_pos (by omega)]
        · rw [if_neg e3, if_neg (show ¬ (a ≤ i ∧ i < a + (k + 1)) by omega)]
          by_cases e4 : b ≤ i ∧ i < b + k
          · rw [if_pos e4, if_pos (by omega)]
          · rw [if_neg e4, if_neg (show ¬ (b ≤ i ∧ i < b + (k + 1)) by omega)]
/-- two runs of one length change places -/
theorem swpL_app (P A M B S : List Gp) (h : A.length = B.length) : swpL P.length (P.length + A.length + M.length) A.length (P ++ (A ++ (M ++ (B ++ S)))) = P ++ (B ++ (M ++ (A ++ S))) := by
  apply ext_getD
  · rw [swpL_len]; simp; omega
  intro i _
  rw [swpL_getD (by omega) (by simp; omega)]
  simp only [getD_app]
  by_cases h1 : i < P.length
  · rw [if_neg (by omega), if_neg (by omega), if_pos h1, if_pos h1]
  · by_cases h2 : i < P.length + A.length
    · rw [if_pos (by omega), if_neg (by omega), if_neg (by omega), if_neg (by omega), if_pos (by omega), if_neg h1, if_pos (by omega)]
      congr 1; omega
    · by_cases h3 : i < P.length + A.length + M.length
      · rw [if_neg (by omega), if_neg (by omega), if_neg h1, if_neg (by omega), if_pos (by omega), if_neg h1, if_neg (by omega), if_pos (by omega)]
        congr 1; omega
      · by_cases h4 : i < P.length + A.length + M.length + B.length
        · rw [if_neg (by omega), if_pos (by omega), if_neg (by omega), if_pos (by omega), if_neg h1, if_neg (by omega), if_neg (by omega), if_pos (by omega)]
          congr 1; omega
        · rw [if_neg (by omega), if_neg (by omega), if_neg h1, if_neg (by omega), if_neg (by omega), if_neg (by omega), if_neg h1, if_neg (by omega), if_neg (by omega), if_neg (by omega)]
          congr 1; omega
/-- what a rotation has in its hands: the list now, and the list that it shall be -/
def RotS (i j p : Nat) (cur tgt : List Gp) : Prop := ∃ P U V S, P.length = p ∧ U.length = i ∧ V.length = j ∧ cur = P ++ (U ++ (V ++ S)) ∧ tgt = P ++ (V ++ (U ++ S))
theorem RotS.len {i j p : Nat} {cur tgt : List Gp} (h : RotS i j p cur tgt) : p + i + j ≤ cur.length := by
  obtain ⟨P, U, V, S, h1, h2, h3, h4, _⟩ := h
  rw [h4]; simp; omega
theorem RotS.gtr {i j p : Nat} {cur tgt : List Gp} (h : RotS i j p cur tgt) (hij : j < i) : RotS (i - j) j (p + j) (swpL p (p + i) j cur) tgt := by
  obtain ⟨P, U, V, S, h1, h2, h3, h4, h5⟩ := h
  have hU : U = U.take j ++ U.drop j := (List.take_append_drop j U).symm
  refine ⟨P ++ V, U.drop j, U.take j, S, by simp; omega, by simp; omega, by simp; omega, ?_, ?_⟩
  · have := swpL_app P (U.take j) (U.drop j) V S (by simp; omega)
    have e1 : (U.take j).length = j := by simp; omega
    have e2 : (U.drop j).length = i - j := by simp; omega
    rw [e1, e2, h1] at this
    rw [h4]
    rw [show p + j + (i - j) = p + i by omega] at this
    rw [show P ++ (U ++ (V ++ S)) = P ++ (U.take j ++ (U.drop j ++ (V ++ S))) by rw [← List.append_assoc (U.take j), ← hU], this]
    simp
  · rw [h5, List.append_assoc, ← List.append_assoc (U.take j), ← hU]
theorem RotS.lss {i j p : Nat} {cur tgt : List Gp} (h : RotS i j p cur tgt) (hij : i < j) : RotS i (j - i) p (swpL p (p + j) i cur) tgt := by
  obtain ⟨P, U, V, S, h1, h2, h3, h4, h5⟩ := h
  have hV : V = V.take (j - i) ++ V.drop (j - i) := (List.take_append_drop (j - i) V).symm
  refine ⟨P, V.drop (j - i), V.take (j - i), U ++ S, h1, by simp; omega, by simp; omega, ?_, ?_⟩
  · have := swpL_app P U (V.take (j - i)) (V.drop (j - i)) S (by simp; omega)
    have e1 : (V.take (j - i)).length = j - i := by simp; omega
    rw [e1, h1, h2] at this
    rw [h4]
    rw [show p + i + (j - i) = p + j by omega] at this
    rw [show P ++ (U ++ (V ++ S)) = P ++ (U ++ (V.take (j - i) ++ (V.drop (j - i) ++ S))) by rw [← List.append_assoc (V.take (j - i)), ← hV], this]
  · rw [h5, ← List.append_assoc (V.take (j - i)), ← hV]
theorem RotS.eql {i p : Nat} {cur tgt : List Gp} (h : RotS i i p cur tgt) : swpL p (p + i) i cur = tgt := by
  obtain ⟨P, U, V, S, h1, h2, h3, h4, h5⟩ := h
  have := swpL_app P U [] V S (by omega)
  rw [h1, h2] at this
  simpa [h4, h5] using this
/-- one element on its way up through a run -/
def upL (P : List Gp) (x : Gp) (U S : List Gp) (k : Nat) : List Gp := P ++ (U.take k ++ (x :: (U.drop k ++ S)))
theorem upL_len (P : List Gp) (x : Gp) (U S : List Gp) (k : Nat) : (upL P x U S k).length = P.length + U.length + 1 + S.length := by
  simp [upL]; omega
theorem sw_at (A : List Gp) (x y : Gp) (B : List Gp) : sw (A ++ x :: y :: B) A.length (A.length + 1) = A ++ y :: x :: B := by
  unfold sw
  simp [List.getD_eq_getElem?_getD]
theorem sw_at' (A : List Gp) (x y : Gp) (B : List Gp) : sw (A ++ x :: y :: B) (A.length + 1) A.length = A ++ y :: x :: B := by
  unfold sw
  simp [List.getD_eq_getElem?_getD]
theorem upL_succ (P : List Gp) (x : Gp) (U S : List Gp) {k : Nat} (hk : k < U.length) : sw (upL P x U S k) (P.length + k) (P.length + k + 1) = upL P x U S (k + 1) := by
  have e1 : U.drop k = U[k] :: U.drop (k + 1) := List.drop_eq_getElem_cons hk
  have e2 : U.take (k + 1) = U.take k ++ [U[k]] := by rw [List.take_add_one, List.getElem?_eq_getElem hk]; rfl
  have := sw_at (P ++ U.take k) x U[k] (U.drop (k + 1) ++ S)
  unfold upL
  rw [e1, e2]
  have hl : (P ++ U.take k).length = P.length + k := by simp; omega
  rw [hl] at this
  simpa only [List.append_assoc, List.cons_append, List.singleton_append, List.nil_append] using this
theorem upL_pred (P : List Gp) (x : Gp) (U S : List Gp) {k : Nat} (hk : k < U.length) : sw (upL P x U S (k + 1)) (P.length + k + 1) (P.length + k) = upL P x U S k := by
  have e1 : U.drop k = U[k] :: U.drop (k + 1) := List.drop_eq_getElem_cons hk
  have e2 : U.take (k + 1) = U.take k ++ [U[k]] := by rw [List.take_add_one, List.getElem?_eq_getElem hk]; rfl
  have := sw_at' (P ++ U.take k) U[k] x (U.drop (k + 1) ++ S)
  unfold upL
  rw [e1, e2]
  have hl : (P ++ U.take k).length = P.length + k := by simp; omega
  rw [hl] at this
  simpa only [List.append_assoc, List.cons_append, List.singleton_append, List.nil_append] using this
end Go.Pol
namespace Go.Pol
open Go
/-- a piece of a list -/
def cut (l : List Gp) (a b : Nat) : List Gp := (l.take b).drop a
theorem cut_mid {A B C : List Gp} {a b : Nat} (ha : A.length = a) (hb : a + B.length = b) : cut (A ++ (B ++ C)) a b = B := by
  subst ha; subst hb
  unfold cut
  rw [← List.append_assoc, List.take_left' (by simp), List.drop_left]
theorem cut_len {l : List Gp} {a b : Nat} (h : b ≤ l.length) : (cut l a b).length = b - a := by simp [cut]; omega
theorem cut_split {l : List Gp} {a b : Nat} (hab : a ≤ b) : l = l.take a ++ (cut l a b ++ l.drop b) := by
  have h1 : l.take a = (l.take b).take a := by rw [List.take_take, Nat.min_eq_left hab]
  rw [← List.append_assoc, h1, cut, List.take_append_drop, List.take_append_drop]
/-- what a merge leaves -/
def MergeTo (a b : Nat) (l l' : List Gp) : Prop := ∃ Z : List Gp, Z.Perm (cut l a b) ∧ Z.Pairwise LeX ∧ l' = l.take a ++ (Z ++ l.drop b)
theorem MergeTo.len {a b : Nat} {l l' : List Gp} (h : MergeTo a b l l') (hab : a ≤ b) (hb : b ≤ l.length) : l'.length = l.length := by
  obtain ⟨Z, h1, _, h3⟩ := h
  have := h1.length_eq
  rw [cut_len hb] at this
  rw [h3]; simp; omega
theorem MergeTo.sorted {a b : Nat} {l : List Gp} (hab : a ≤ b) (h : (cut l a b).Pairwise LeX) : MergeTo a b l l := ⟨_, List.Perm.refl _, h, cut_split hab⟩
theorem le_last {X : List Gp} {z : Gp} (h : (X ++ [z]).Pairwise LeX) : ∀ x ∈ X ++ [z], LeX x z := by
  intro x hx
  rcases List.mem_append.1 hx with hx | hx
  · exact (List.pairwise_append.1 h).2.2 x hx z (by simp)
  · rw [List.mem_singleton.1 hx]; exact .inr ⟨rfl, Int.le_refl _⟩
theorem head_le {Y : List Gp} {z : Gp} (h : (z :: Y).Pairwise LeX) : ∀ y ∈ z :: Y, LeX z y := by
  intro y hy
  rcases List.mem_cons.1 hy with rfl | hy
  · exact .inr ⟨rfl, Int.le_refl _⟩
  · exact (List.pairwise_cons.1 h).1 y hy
/-- live pages of the element with a number -/
def lvd (l : List Gp) (k : Nat) : Int := (l.getD k gp0).2.2.1
theorem lvd_at (A : List Gp) (x : Gp) (B : List Gp) {k : Nat} (hk : A.length = k) : lvd (A ++ x :: B) k = x.2.2.1 := by
  subst hk; simp [lvd, List.getD_eq_getElem?_getD]
/-- a list taken apart where a merge looks -/
theorem five {l : List Gp} {a s m e b : Nat} (h1 : a ≤ s) (h2 : s ≤ m) (h3 : m ≤ e) (h4 : e ≤ b) (h5 : b ≤ l.length) :
    ∃ P X1 X2 Y1 Y2 S, P.length = a ∧ X1.length = s - a ∧ X2.length = m - s ∧ Y1.length = e - m ∧ Y2.length = b - e ∧ l = P ++ (X1 ++ (X2 ++ (Y1 ++ (Y2 ++ S)))) := by
  refine ⟨l.take a, cut l a s, cut l s m, cut l m e, cut l e b, l.drop b, by simp; omega, cut_len (by omega), cut_len (by omega), cut_len (by omega), cut_len (by omega), ?_⟩
  have g : ∀ {p q : Nat}, p ≤ q → l.drop p = cut l p q ++ l.drop q := fun {p q} hpq => by
    have h := cut_split (l := l) hpq
    have hlen : (l.take p ++ l.drop p) = l.take p ++ (cut l p q ++ l.drop q) := by rw [List.take_append_drop]; exact h
    exact List.append_cancel_left hlen
  rw [← g h4, ← g h3, ← g h2, ← g h1, List.take_append_drop]
/-- the two middle runs have changed places -/
def rotL (s m e : Nat) (l : List Gp) : List Gp := l.take s ++ (cut l m e ++ (cut l s m ++ l.drop e))
theorem rotL_none {s m e : Nat} {l : List Gp} (h1 : s ≤ m) (h2 : m ≤ e) (h : ¬ (s < m ∧ m < e)) : rotL s m e l = l := by
  unfold rotL
  by_cases h3 : s = m
  · subst h3
    rw [show cut l s s = [] by simp [cut], List.nil_append]
    exact (cut_split h2).symm
  · have : m = e := by omega
    subst this
    rw [show cut l m m = [] by simp [cut], List.nil_append]
    exact (cut_split h1).symm
theorem rotL_len {s m e : Nat} {l : List Gp} (h1 : s ≤ m) (h2 : m ≤ e) (h3 : e ≤ l.length) : (rotL s m e l).length = l.length := by
  unfold rotL
  simp [cut_len h3, cut_len (show m ≤ l.length by omega)]; omega
theorem rot_start {s m e : Nat} {l : List Gp} (h1 : s ≤ m) (h2 : m ≤ e) (h3 : e ≤ l.length) : RotS (m - s) (e - m) s l (rotL s m e l) := by
  refine ⟨l.take s, cut l s m, cut l m e, l.drop e, by simp; omega, cut_len (by omega), cut_len h3, ?_, rfl⟩
  have g : l.drop m = cut l m e ++ l.drop e := by
    have h := cut_split (l := l) h2
    have hlen : (l.take m ++ l.drop m) = l.take m ++ (cut l m e ++ l.drop e) := by rw [List.take_append_drop]; exact h
    exact List.append_cancel_left hlen
  rw [← g]
  exact cut_split h1
/-- THE LAW of one step of a merge: exchange the two middle runs, merge both halves -/
theorem sym_law {l l2 l3 : List Gp} {a s m e b mid : Nat} (h1 : a ≤ s) (h2 : s ≤ m) (h3 : m ≤ e) (h4 : e ≤ b) (h5 : b ≤ l.length) (hmid : mid = s + (e - m))
    (hX : (cut l a m).Pairwise LeX) (hY : (cut l m b).Pairwise LeX) (hT : ∀ x ∈ cut l a m, ∀ y ∈ cut l m b, TieX x y)
    (f1 : a < s → e < b → ¬ lvd l e < lvd l (s - 1)) (f2 : s < m → m < e → lvd l (e - 1) < lvd l s)
    (hM : MergeTo a mid (rotL s m e l) l2) (hN : MergeTo mid b l2 l3) : MergeTo a b l l3 := by
  obtain ⟨P, X1, X2, Y1, Y2, S, g0, g1, g2, g3, g4, rfl⟩ := five h1 h2 h3 h4 h5
  have cX : cut (P ++ (X1 ++ (X2 ++ (Y1 ++ (Y2 ++ S))))) a m = X1 ++ X2 := by
    rw [← List.append_assoc X1]; exact cut_mid g0 (by simp; omega)
  have cY : cut (P ++ (X1 ++ (X2 ++ (Y1 ++ (Y2 ++ S))))) m b = Y1 ++ Y2 := by
    rw [← List.append_assoc X1, ← List.append_assoc P, ← List.append_assoc Y1]; exact cut_mid (by simp; omega) (by simp; omega)
  have cA : cut (P ++ (X1 ++ (X2 ++ (Y1 ++ (Y2 ++ S))))) a b = X1 ++ (X2 ++ (Y1 ++ Y2)) := by
    rw [show P ++ (X1 ++ (X2 ++ (Y1 ++ (Y2 ++ S)))) = P ++ ((X1 ++ (X2 ++ (Y1 ++ Y2))) ++ S) by simp]; exact cut_mid g0 (by simp; omega)
  have cR : rotL s m e (P ++ (X1 ++ (X2 ++ (Y1 ++ (Y2 ++ S))))) = P ++ ((X1 ++ Y1) ++ (X2 ++ (Y2 ++ S))) := by
    unfold rotL
    have e1 : cut (P ++ (X1 ++ (X2 ++ (Y1 ++ (Y2 ++ S))))) m e = Y1 := by
      rw [← List.append_assoc X1, ← List.append_assoc P]; exact cut_mid (by simp; omega) (by omega)
    have e2 : cut (P ++ (X1 ++ (X2 ++ (Y1 ++ (Y2 ++ S))))) s m = X2 := by
      rw [← List.append_assoc P]; exact cut_mid (by simp; omega) (by omega)
    have e3 : (P ++ (X1 ++ (X2 ++ (Y1 ++ (Y2 ++ S))))).take s = P ++ X1 := by
      rw [← List.append_assoc P]; exact List.take_left' (by simp; omega)
    have e4 : (P ++ (X1 ++ (X2 ++ (Y1 ++ (Y2 ++ S))))).drop e = Y2 ++ S := by
      rw [show P ++ (X1 ++ (X2 ++ (Y1 ++ (Y2 ++ S)))) = (P ++ (X1 ++ (X2 ++ Y1))) ++ (Y2 ++ S) by simp]; exact List.drop_left' (by simp; omega)
    rw [e1, e2, e3, e4]; simp
  rw [cX] at hX hT
  rw [cY] at hY hT
  rw [cR] at hM
  obtain ⟨Z1, p1, q1, rfl⟩ := hM
  rw [cut_mid g0 (by simp; omega)] at p1
  rw [List.take_left' g0, show P ++ ((X1 ++ Y1) ++ (X2 ++ (Y2 ++ S))) = (P ++ (X1 ++ Y1)) ++ (X2 ++ (Y2 ++ S)) by simp, List.drop_left' (by simp; omega)] at hN
  obtain ⟨Z2, p2, q2, rfl⟩ := hN
  have hz1 := p1.length_eq
  rw [List.length_append] at hz1
  have cZ : cut (P ++ (Z1 ++ (X2 ++ (Y2 ++ S)))) mid b = X2 ++ Y2 := by
    rw [← List.append_assoc P, ← List.append_assoc X2]; exact cut_mid (by simp; omega) (by simp; omega)
  rw [cZ] at p2
  refine ⟨Z1 ++ Z2, ?_, ?_, ?_⟩
  · rw [cA]
    refine (p1.append p2).trans ?_
    rw [List.append_assoc]
    refine List.Perm.append_left _ ?_
    rw [← List.append_assoc, ← List.append_assoc]
    exact List.Perm.append_right _ List.perm_append_comm
  · refine List.pairwise_append.2 ⟨q1, q2, fun x hx y hy => ?_⟩
    have hx' := p1.mem_iff.1 hx
    have hy' := p2.mem_iff.1 hy
    rcases List.mem_append.1 hx' with hx' | hx'
    · rcases List.mem_append.1 hy' with hy' | hy'
      · exact (List.pairwise_append.1 hX).2.2 x hx' y hy'
      · rcases List.eq_nil_or_concat X1 with rfl | ⟨X0, z, rfl⟩
        · cases hx'
        · cases Y2 with
          | nil => cases hy'
          | cons t Y0 =>
            have r1 := le_last (by simpa using (List.pairwise_append.1 hX).1) x (by simpa using hx')
            have r2 := head_le (List.pairwise_append.1 hY).2.1 y hy'
            have r3 := hT z (by simp) t (by simp)
            simp only [List.length_append, List.length_cons, List.length_nil, List.concat_eq_append] at g1 g4
            have f := f1 (by omega) (by omega)
            have v1 : lvd (P ++ (X0.concat z ++ (X2 ++ (Y1 ++ (t :: Y0 ++ S))))) e = t.2.2.1 := by
              rw [show P ++ (X0.concat z ++ (X2 ++ (Y1 ++ (t :: Y0 ++ S)))) = (P ++ (X0.concat z ++ (X2 ++ Y1))) ++ t :: (Y0 ++ S) by simp]
              exact lvd_at _ _ _ (by simp; omega)
            have v2 : lvd (P ++ (X0.concat z ++ (X2 ++ (Y1 ++ (t :: Y0 ++ S))))) (s - 1) = z.2.2.1 := by
              rw [show P ++ (X0.concat z ++ (X2 ++ (Y1 ++ (t :: Y0 ++ S)))) = (P ++ X0) ++ z :: (X2 ++ (Y1 ++ (t :: Y0 ++ S))) by simp]
              exact lvd_at _ _ _ (by simp; omega)
            rw [v1, v2] at f
            refine r1.trans (LeX.trans ?_ r2)
            unfold TieX at r3
            unfold LeX
            omega
    · rcases List.mem_append.1 hy' with hy' | hy'
      · rcases List.eq_nil_or_concat Y1 with rfl | ⟨Y0, z, rfl⟩
        · cases hx'
        · cases X2 with
          | nil => cases hy'
          | cons t X0 =>
            have r1 := le_last (by simpa using (List.pairwise_append.1 hY).1) x (by simpa using hx')
            have r2 := head_le (List.pairwise_append.1 hX).2.1 y hy'
            simp only [List.length_append, List.length_cons, List.length_nil, List.concat_eq_append] at g2 g3
            have f := f2 (by omega) (by omega)
            have v1 : lvd (P ++ (X1 ++ (t :: X0 ++ (Y0.concat z ++ (Y2 ++ S))))) (e - 1) = z.2.2.1 := by
              rw [show P ++ (X1 ++ (t :: X0 ++ (Y0.concat z ++ (Y2 ++ S)))) = (P ++ (X1 ++ (t :: X0 ++ Y0))) ++ z :: (Y2 ++ S) by simp]
              exact lvd_at _ _ _ (by simp; omega)
            have v2 : lvd (P ++ (X1 ++ (t :: X0 ++ (Y0.concat z ++ (Y2 ++ S))))) s = t.2.2.1 := by
              rw [show P ++ (X1 ++ (t :: X0 ++ (Y0.concat z ++ (Y2 ++ S)))) = (P ++ X1) ++ t :: (X0 ++ (Y0.concat z ++ (Y2 ++ S))) by simp]
              exact lvd_at _ _ _ (by simp; omega)
            rw [v1, v2] at f
            exact r1.trans (LeX.trans (.inl f) r2)
      · exact (List.pairwise_append.1 hY).2.2 x hx' y hy'
  · have d1 : (P ++ (X1 ++ (X2 ++ (Y1 ++ (Y2 ++ S))))).drop b = S := by
      rw [show P ++ (X1 ++ (X2 ++ (Y1 ++ (Y2 ++ S)))) = (P ++ (X1 ++ (X2 ++ (Y1 ++ Y2)))) ++ S by simp]; exact List.drop_left' (by simp; omega)
    have d2 : (P ++ (Z1 ++ (X2 ++ (Y2 ++ S)))).drop b = S := by
      rw [show P ++ (Z1 ++ (X2 ++ (Y2 ++ S))) = (P ++ (Z1 ++ (X2 ++ Y2))) ++ S by simp]; exact List.drop_left' (by simp; omega)
    have d3 : (P ++ (Z1 ++ (X2 ++ (Y2 ++ S)))).take mid = P ++ Z1 := by
      rw [← List.append_assoc P]; exact List.take_left' (by simp; omega)
    rw [d1, d2, d3, List.take_left' g0]; simp
/-- a list with one element apart -/
theorem up_split {l : List Gp} {a b : Nat} (hab : a < b) (hb : b ≤ l.length) : l = upL (l.take a) (l.getD a gp0) (cut l (a + 1) b) (l.drop b) 0 := by
  have h := cut_split (l := l) (show a + 1 ≤ b by omega)
  unfold upL
  rw [List.take_zero, List.drop_zero, List.nil_append]
  have e : l.take (a + 1) = l.take a ++ [l.getD a gp0] := by
    rw [List.take_add_one, List.getD_eq_getElem?_getD, List.getElem?_eq_getElem (show a < l.length by omega)]; rfl
  rw [e, List.append_assoc] at h
  exact h
theorem up_split' {l : List Gp} {a m : Nat} (hab : a ≤ m) (hb : m < l.length) : l = upL (l.take a) (l.getD m gp0) (cut l a m) (l.drop (m + 1)) (m - a) := by
  have h := cut_split (l := l) hab
  have hc : (cut l a m).length = m - a := cut_len (by omega)
  unfold upL
  rw [List.take_of_length_le (show (cut l a m).length ≤ m - a by omega), List.drop_eq_nil_of_le (show (cut l a m).length ≤ m - a by omega), List.nil_append]
  have e : l.drop m = l.getD m gp0 :: l.drop (m + 1) := by
    rw [List.drop_eq_getElem_cons hb, List.getD_eq_getElem?_getD, List.getElem?_eq_getElem hb]; rfl
  rw [← e]
  exact h
theorem ins_sorted {x : Gp} {U : List Gp} {k : Nat} (hU : U.Pairwise LeX) (h1 : ∀ y ∈ U.take k, LeX y x) (h2 : ∀ y ∈ U.drop k, LeX x y) : (U.take k ++ x :: U.drop k).Pairwise LeX := by
  have hU' : (U.take k ++ U.drop k).Pairwise LeX := by rw [List.take_append_drop]; exact hU
  obtain ⟨p1, p2, p3⟩ := List.pairwise_append.1 hU'
  refine List.pairwise_append.2 ⟨p1, List.pairwise_cons.2 ⟨h2, p2⟩, fun y hy z hz => ?_⟩
  rcases List.mem_cons.1 hz with rfl | hz
  · exact h1 y hy
  · exact p3 y hy z hz
theorem getD_cut {l : List Gp} {a b i : Nat} (h1 : a ≤ i) (h2 : i < b) : (cut l a b).getD (i - a) gp0 = l.getD i gp0 := by
  unfold cut
  simp only [List.getD_eq_getElem?_getD, List.getElem?_drop, List.getElem?_take]
  rw [show a + (i - a) = i by omega, if_pos h2]
theorem take_le {U : List Gp} {k : Nat} (hU : U.Pairwise LeX) (hk : 0 < k) (hl : k ≤ U.length) : ∀ y ∈ U.take k, LeX y (U.getD (k - 1) gp0) := by
  have e : U.take k = U.take (k - 1) ++ [U.getD (k - 1) gp0] := by
    conv => lhs; rw [show k = k - 1 + 1 by omega]
    rw [List.take_add_one, List.getD_eq_getElem?_getD, List.getElem?_eq_getElem (show k - 1 < U.length by omega)]; rfl
  rw [e]
  refine le_last ?_
  rw [← e]
  exact hU.sublist (List.take_sublist _ _)
theorem drop_le {U : List Gp} {k : Nat} (hU : U.Pairwise LeX) (hl : k < U.length) : ∀ y ∈ U.drop k, LeX (U.getD k gp0) y := by
  have e : U.drop k = U.getD k gp0 :: U.drop (k + 1) := by
    rw [List.drop_eq_getElem_cons hl, List.getD_eq_getElem?_getD, List.getElem?_eq_getElem hl]; rfl
  rw [e]
  refine head_le ?_
  rw [← e]
  exact hU.sublist (List.drop_sublist _ _)
theorem one_x {l : List Gp} {a i b : Nat} (hi : a + 1 ≤ i) (hib : i ≤ b) (hb : b ≤ l.length) (hY : (cut l (a + 1) b).Pairwise LeX) (hT : ∀ y ∈ cut l (a + 1) b, TieX (l.getD a gp0) y)
    (f1 : a + 1 < i → lvd l (i - 1) < lvd l a) (f2 : i < b → ¬ lvd l i < lvd l a) : MergeTo a b l (upL (l.take a) (l.getD a gp0) (cut l (a + 1) b) (l.drop b) (i - (a + 1))) := by
  have hl : (cut l (a + 1) b).length = b - (a + 1) := cut_len hb
  refine ⟨(cut l (a + 1) b).take (i - (a + 1)) ++ l.getD a gp0 :: (cut l (a + 1) b).drop (i - (a + 1)), ?_, ins_sorted hY ?_ ?_, by simp [upL]⟩
  · refine List.perm_middle.trans ?_
    rw [List.take_append_drop]
    have h : cut l a b = l.getD a gp0 :: cut l (a + 1) b := by
      unfold cut
      rw [List.drop_eq_getElem_cons (show a < (l.take b).length by simp; omega), List.getD_eq_getElem?_getD, List.getElem?_eq_getElem (show a < l.length by omega)]
      simp
    rw [h]
  · intro y hy
    by_cases h0 : a + 1 < i
    · refine (take_le hY (by omega) (by omega) y hy).trans ?_
      rw [show i - (a + 1) - 1 = (i - 1) - (a + 1) by omega, getD_cut (by omega) (by omega)]
      exact .inl (f1 h0)
    · rw [show i - (a + 1) = 0 by omega] at hy; cases hy
  · intro y hy
    by_cases h0 : i < b
    · refine LeX.trans ?_ (drop_le hY (by omega) y hy)
      have ht := hT ((cut l (a + 1) b).getD (i - (a + 1)) gp0) (by rw [List.getD_eq_getElem?_getD, List.getElem?_eq_getElem (by omega)]; simp)
      rw [getD_cut (by omega) h0] at ht ⊢
      have := f2 h0
      unfold lvd at this
      unfold TieX at ht
      unfold LeX
      omega
    · rw [List.drop_eq_nil_of_le (by omega)] at hy; cases hy
theorem one_y {l : List Gp} {a i m : Nat} (hi : a ≤ i) (him : i ≤ m) (hb : m < l.length) (hX : (cut l a m).Pairwise LeX) (hT : ∀ x ∈ cut l a m, TieX x (l.getD m gp0))
    (f1 : a < i → ¬ lvd l m < lvd l (i - 1)) (f2 : i < m → lvd l m < lvd l i) : MergeTo a (m + 1) l (upL (l.take a) (l.getD m gp0) (cut l a m) (l.drop (m + 1)) (i - a)) := by
  have hl : (cut l a m).length = m - a := cut_len (by omega)
  refine ⟨(cut l a m).take (i - a) ++ l.getD m gp0 :: (cut l a m).drop (i - a), ?_, ins_sorted hX ?_ ?_, by simp [upL]⟩
  · refine List.perm_middle.trans ?_
    rw [List.take_append_drop]
    have h : cut l a (m + 1) = cut l a m ++ [l.getD m gp0] := by
      unfold cut
      rw [List.take_add_one, List.getD_eq_getElem?_getD, List.getElem?_eq_getElem hb, List.drop_append_of_le_length (by simp; omega)]
      simp
    rw [h]
    exact (List.perm_append_singleton _ _).symm
  · intro y hy
    by_cases h0 : a < i
    · refine (take_le hX (by omega) (by omega) y hy).trans ?_
      have ht := hT ((cut l a m).getD (i - a - 1) gp0) (by rw [List.getD_eq_getElem?_getD, List.getElem?_eq_getElem (by omega)]; simp)
      rw [show i - a - 1 = (i - 1) - a by omega, getD_cut (by omega) (by omega)] at ht ⊢
      have := f1 h0
      unfold lvd at this
      unfold TieX at ht
      unfold LeX
      omega
    · rw [show i - a = 0 by omega] at hy; cases hy
  · intro y hy
    by_cases h0 : i < m
    · refine LeX.trans ?_ (drop_le hX (by omega) y hy)
      rw [getD_cut (by omega) h0]
      exact .inl (f2 h0)
    · rw [List.drop_eq_nil_of_le (by omega)] at hy; cases hy
end Go.Pol
