/- Merged texts. Walks: the gaps of a set of spans in a span, Not. Walks: Guards, Count, Nth, Index of layer 11. Walks: Hit and Least of layer 11. Walks: bits.Len of small numbers, Least of layer 11. Walks: the examples of the document for layer 11. Walks: the reference's usable pages and guards as sets. Plain laws on plans of guards: the reference's sets are the program's; numbers of usable pages; what is hit. Plain law: the guards and the usable pages of a plan are disjoint, and together the range. Walks: slices.Grow of nil, slices.Concat of two sets, Union. Walks: slices.Clone of spans, Of; the reference's Marks and Of. A range over a function value whose function ranges over another one: what the body must leave, it must leave too where it ends the loop. What the struct 'look' of layer 13 holds, as cells; what a store into it makes of that. Walk: 'open' of layer 13. Walks of layer 13: Check; the groups of one kind as a function value that is ranged over. Walks of layer 13: Check, Groups. Walks over no system: Counts, and huge's Join, of a pointer that is nil. Walks of layer 11 over a system: ask. -/
import Derived.Lib.BitFns
import Derived.Lib.Strings
import Derived.Lib.Small
import Derived.Lib.Walk
import Derived.Deep.MidRow
import Derived.Test.YtdepkmpilipolaaGreatProg
import Derived.Shelf.SlSortCmp.WholeK
import Derived.Ground.SlsfProg
import Derived.Sort.OwnSortedInts
import Derived.Shelf.Spec.SlicesGrow
import Derived.Laws.AppendOwnNone
import Derived.Test.YtdepkmpilipolaaGreatA4
namespace Go.Pol
open Go Go.RowKit
/-- one round of 'gaps': what is out, and the next page -/
def gst (s : List Sp × Int) (x : Sp) : List Sp × Int := (if s.2 < x.1 then s.1 ++ [(s.2, x.1 - s.2)] else s.1, x.1 + x.2)
def gfold (n : Int) (l : List Sp) : List Sp × Int := l.foldl gst ([], n)
theorem gfold_snoc (n : Int) (l : List Sp) (x : Sp) : gfold n (l ++ [x]) = gst (gfold n l) x := by simp [gfold]
def gfin (s : List Sp × Int) (e : Int) : List Sp := s.1 ++ (if s.2 < e then [(s.2, e - s.2)] else [])
theorem gst_fold : ∀ (l : List Sp) (acc : List Sp) (n e : Int), gfin (l.foldl gst (acc, n)) e = acc ++ gapsL n e l
  | [], acc, n, e => rfl
  | x :: r, acc, n, e => by
    rw [List.foldl_cons, show gst (acc, n) x = (if n < x.1 then acc ++ [(n, x.1 - n)] else acc, x.1 + x.2) from rfl, gst_fold r, gapsL]
    split <;> simp
theorem gfold_gaps (l : List Sp) (n e : Int) : gfin (gfold n l) e = gapsL n e l := by
  rw [gfold, gst_fold, List.nil_append]
theorem gfold_next : ∀ (l : List Sp) (n : Int), 0 ≤ n ∧ n ≤ 1024 → (∀ x ∈ l, vld x = true) → 0 ≤ (gfold n l).2 ∧ (gfold n l).2 ≤ 1024 := by
  intro l n hn hv
  rcases List.eq_nil_or_concat l with rfl | ⟨r, x, rfl⟩
  · exact hn
  · rw [List.concat_eq_append, gfold_snoc]
    have := vld_iff.1 (hv x (by simp [List.concat_eq_append]))
    simp only [gst]; omega
theorem gfold_len : ∀ (l : List Sp) (acc : List Sp) (n : Int), (l.foldl gst (acc, n)).1.length ≤ acc.length + l.length
  | [], acc, n => by simp
  | x :: r, acc, n => by
    simp only [List.foldl_cons]
    refine Nat.le_trans (gfold_len r _ _) ?_
    show (if n < x.1 then acc ++ [(n, x.1 - n)] else acc).length + r.length ≤ _
    split <;> simp <;> omega
/-- a walk that cannot panic -/
def noPanic (Q : Exit → Act → World → Prop) (e : Exit) (a : Act) (w : World) : Prop := match e with | .panic _ => False | e => Q e a w
theorem noPanic_normal {Q : Exit → Act → World → Prop} {a : Act} {w : World} (h : Q .normal a w) : noPanic Q .normal a w := h
theorem wp_noPanic {P : Program} {c : Code} {Q : Exit → Act → World → Prop} {a : Act} {w : World} (h : c.wp P (noPanic Q) a w) : c.wp P Q a w :=
  (wpIn_wide (n := 0)).1 (wpIn_mono (wpIn_wide.2 h) fun e a w hq => by
    cases e with
    | panic c => exact hq.elim
    | _ => exact hq)
/-- what the region behind the loop of 'gaps' reads -/
def GapS (s : Nat) (p q nx : Int) (v : Value) (w : Go.World) : Prop :=
  w.cell? ⟨s, 0, none⟩ = some (.int .i64 p) ∧ w.cell? ⟨s, 1, none⟩ = some (.int .i64 q) ∧ w.cell? ⟨s + 2, 0, none⟩ = some (.int .i64 nx) ∧ w.cell? ⟨s + 1, 0, none⟩ = some v
theorem GapS.later {s : Nat} {p q nx : Int} {v : Value} {w w' : Go.World} {B : Nat} (h : GapS s p q nx v w) (hb : Below B w w') (hB : s + 2 < B) : GapS s p q nx v w' :=
  ⟨(hb.cell (p := ⟨s, 0, none⟩) (by show s < B; omega)).trans h.1, (hb.cell (p := ⟨s, 1, none⟩) (by show s < B; omega)).trans h.2.1, (hb.cell (p := ⟨s + 2, 0, none⟩) hB).trans h.2.2.1, (hb.cell (p := ⟨s + 1, 0, none⟩) (by show s + 1 < B; omega)).trans h.2.2.2⟩
theorem prefix_mem {α : Type} {pre xs : List α} (h : pre <+: xs) {x : α} (hx : x ∈ pre) : x ∈ xs := h.subset hx
end Go.Pol
namespace Go.Proofs.YtdepkmpilipolaaGreat
open Go Go.Proofs Go.RowKit Go.Pol Go.Shelf
attribute [local go_sem] Oper.semAt_some Go.Pol.wide_fn Go.Pol.wide_depth Go.Pol.wide_fn' Go.Pol.wide_depth'

set_option maxRecDepth 100000 in
set_option maxHeartbeats 1600000 in
theorem gaps_own (A : Option Addr) (n cap : Nat) (us : List Sp) (p q : Int) (w : World) (hn : us.length = n) (hm : n ≤ cap) (hc : cap ≤ maxLen) (hr : RU w w.heap.size A us) (hu : Go.Pol.Can us) (hv : vld (p, q) = true) :
    Calls Tryz.prog 65 #[.slice A n cap, .agg #[.int .i64 p, .int .i64 q]] w fun e w' => ∃ (A' : Option Addr) (cap' : Nat), e = .returned (.slice A' (gapsF us (p, q)).length cap') ∧ RU w' w'.heap.size A' (gapsF us (p, q)) ∧ (gapsF us (p, q)).length ≤ cap' ∧ cap' ≤ maxLen ∧ (∀ b o, A' = some ⟨b, o, none⟩ → w.heap.size ≤ b) ∧ Below w.heap.size w w' ∧ (A' = none → cap' = 0) := by
  obtain ⟨i0, hi, hz0, hz1, hz2⟩ := infoSp_parts
  obtain ⟨L, hL0⟩ : ∃ L, gapsF us (p, q) = L := ⟨_, rfl⟩
  rw [hL0]
  have hL := Lib.hid hL0
  clear hL0
  refine calls_of_marks Tryz.func65 rfl ?_
  simp only [Tryz.ntmps65, List.size_toArray, List.length_cons, List.length_nil, Nat.reduceAdd, Nat.reduceSub, Array.replicate_succ, Array.replicate_zero, List.push_toArray, List.append_toArray, List.nil_append, List.cons_append]
  go_wp2_with (go_at_call 88; refine (common_any _ _ _ _ _ _ _).mono ?_; rintro e w2 ⟨rfl, rfl⟩)
  obtain ⟨s, hs⟩ : ∃ s, w.heap.size = s := ⟨_, rfl⟩
  obtain ⟨W0, hW0⟩ : ∃ W0, (((((w.alloc (.cells #[.int .i64 p, .int .i64 q] 64)).alloc (.cells #[.slice none 0 0] 22)).alloc (.cells #[.int .i64 p] 3)).alloc (.cells #[.int .i64 p, .int .i64 q] 64)).alloc (.cells #[.slice A n cap] 22)).alloc (.cells #[.slice (some ⟨w.heap.size + 1 + 1 + 1, 0, none⟩) 1 1] 22) = W0 := ⟨_, rfl⟩
  have hs0 : W0.heap.size = s + 6 := by rw [← hW0, ← hs]; simp
  have kI : Blk W0 s 64 #[.int .i64 p, .int .i64 q] := by rw [← hW0, ← hs]; exact (((((Blk.new _ _ _).alloc _).alloc _).alloc _).alloc _).alloc _
  have kO : Blk W0 (s + 1) 22 #[.slice none 0 0] := by
    rw [← hW0, ← hs]; have := Blk.new (w.alloc (.cells #[.int .i64 p, .int .i64 q] 64)) 22 #[.slice none 0 0]
    rw [World.size_alloc] at this
    exact (((this.alloc _).alloc _).alloc _).alloc _
  have kN : Blk W0 (s + 2) 3 #[.int .i64 p] := by
    rw [← hW0, ← hs]; have := Blk.new ((w.alloc (.cells #[.int .i64 p, .int .i64 q] 64)).alloc (.cells #[.slice none 0 0] 22)) 3 #[.int .i64 p]
    simp only [World.size_alloc] at this
    exact ((this.alloc _).alloc _).alloc _
  have kS : Blk W0 (s + 3) 64 #[.int .i64 p, .int .i64 q] := by
    rw [← hW0, ← hs]; have := Blk.new (((w.alloc (.cells #[.int .i64 p, .int .i64 q] 64)).alloc (.cells #[.slice none 0 0] 22)).alloc (.cells #[.int .i64 p] 3)) 64 #[.int .i64 p, .int .i64 q]
    simp only [World.size_alloc] at this
    exact (this.alloc _).alloc _
  have kB1 : Blk W0 (s + 4) 22 #[.slice A n cap] := by
    rw [← hW0, ← hs]; have := Blk.new ((((w.alloc (.cells #[.int .i64 p, .int .i64 q] 64)).alloc (.cells #[.slice none 0 0] 22)).alloc (.cells #[.int .i64 p] 3)).alloc (.cells #[.int .i64 p, .int .i64 q] 64)) 22 #[.slice A n cap]
    simp only [World.size_alloc] at this
    exact this.alloc _
  have kB2 : Blk W0 (s + 5) 22 #[.slice (some ⟨s + 3, 0, none⟩) 1 1] := by
    rw [← hW0, ← hs]; have := Blk.new (((((w.alloc (.cells #[.int .i64 p, .int .i64 q] 64)).alloc (.cells #[.slice none 0 0] 22)).alloc (.cells #[.int .i64 p] 3)).alloc (.cells #[.int .i64 p, .int .i64 q] 64)).alloc (.cells #[.slice A n cap] 22)) 22 #[.slice (some ⟨w.heap.size + 1 + 1 + 1, 0, none⟩) 1 1]
    simp only [World.size_alloc] at this
    exact this
  have hB0 : Below s w W0 := by
    rw [← hW0, ← hs]
    exact ((((((Below.refl w.heap.size w).alloc (Nat.le_refl _) _).alloc (by simp) _).alloc (by simp; omega) _).alloc (by simp; omega) _).alloc (by simp; omega) _).alloc (by simp; omega) _
  simp only [hs] at hW0 hr ⊢
  simp only [Nat.add_assoc, Nat.reduceAdd] at hW0 ⊢
  rw [hW0]
  clear hW0
  have hxs : (commonF us [(p, q)]).length ≤ 512 := (hu.common (Can.one hv)).len
  have hvl := (hu.common (Can.one hv)).1
  have hp0 : 0 ≤ p ∧ p ≤ 1024 := by have := vld_iff.1 hv; simp only at this; omega
  have hseq := common1_seq A (some ⟨s + 3, 0, none⟩) n cap 1 1 us [(p, q)] (s + 4) (s + 5) (s + 6) (fun k => k < s ∨ k = s + 3 ∨ k = s + 4 ∨ k = s + 5) W0 (by omega) (by omega) (by omega) kB1 kB2
    ⟨hn, hm, hc, (hr.below hB0).more (by omega), fun h0 b o e => by
      obtain ⟨b', o', e', hb, _⟩ := hr 0 (by cases us; exact absurd rfl h0; simp)
      rw [e] at e'
      obtain ⟨rfl, rfl⟩ : b = b' ∧ o = o' := by simpa using e'
      exact ⟨.inl hb, by omega, by omega⟩, hu.1⟩
    ⟨rfl, Nat.le_refl _, by omega, (ru_blk1 kS).more (by omega), fun _ b o e => (by cases e; exact ⟨by omega, by omega, by omega⟩), by simpa using hv⟩
  refine rangeF (gf := 96) (lb := #[.pointer (some ⟨s + 4, 0, none⟩), .pointer (some ⟨s + 5, 0, none⟩)]) rfl common_enters hseq (fun _ => rfl) (fun k h => by omega) (fun k h => by omega)
    (fun pre W => BoxS W (s + 1) 22 64 (W0.heap.size + 2) (gfold p pre).1 ∧ Blk W (s + 2) 3 #[.int .i64 (gfold p pre).2] ∧ Blk W s 64 #[.int .i64 p, .int .i64 q] ∧ Below s w W) (fun _ _ _ => False)
    (fun pre A B h hf => ⟨h.1.far hf (by omega) (fun g hg => by omega), hf.blk h.2.1 (by omega), hf.blk h.2.2.1 (by omega), h.2.2.2.trans (hf.below (Nat.le_trans (by omega) h.2.2.2.size) (fun k hk => by omega))⟩)
    (fun _ _ _ _ h _ => h.elim) ⟨⟨_, kO, World.ownsRow_nil _ _ _ _, by simp [gfold]⟩, kN, kI, hB0⟩
    (fun N x a' W => ∃ Bx, N ≤ Bx ∧ W0.heap.size + 2 ≤ Bx ∧ Blk W Bx 64 #[.int .i64 x.1, .int .i64 x.2] ∧ a' = { tmps := #[.slice A n cap, .agg #[.int .i64 p, .int .i64 q], undef, .pointer (some ⟨s, 0, none⟩), .slice none 0 0, .pointer (some ⟨s + 1, 0, none⟩), .pointer (some ⟨s + 2, 0, none⟩), .pointer (some ⟨Bx, 0, none⟩), .pointer (some ⟨s, 0, none⟩), .int .i64 p, .slice A n cap, .agg #[.int .i64 p, .int .i64 q], .slice (some ⟨s + 3, 0, none⟩) 1 1, .func (.func 96) #[] #[.pointer (some ⟨s + 4, 0, none⟩), .pointer (some ⟨s + 5, 0, none⟩)], .agg #[.int .i64 x.1, .int .i64 x.2], undef, undef, undef, undef, undef, undef, undef, undef, undef, undef, undef, undef, undef, undef, undef, undef, undef, undef, undef, undef, undef, undef, undef, undef, undef, undef, undef, undef, undef], defers := [] })
    (fun N x a' A B ⟨Bx, h0, h1, h2, h3⟩ hf => ⟨Bx, h0, h1, hf.blk h2 (by omega), h3⟩) ?assign ?body ?done ?stop
  case assign =>
    intro m l x W C hs hC
    gi_wp2
    exact hC _ _ ((Far.refl _ W).alloc _) ⟨W.heap.size, Nat.le_refl _, hs, Blk.new _ _ _, rfl⟩
  case body =>
    rintro m l pre x a' Wa W hsz ⟨_, kN, kI, hB⟩ ⟨Bx, hBa, hBx, kx, rfl⟩ hpre ⟨hbox, _, _, _⟩ hfa
    have hvx := vld_iff.1 (hvl x (prefix_mem hpre (by simp)))
    have hnx := gfold_next pre p hp0 (fun y hy => hvl y (prefix_mem hpre (by simp [hy])))
    have hlen : pre.length + 1 ≤ 512 := by have := hpre.length_le; simp at this; omega
    have hol : (gfold p pre).1.length ≤ pre.length := by have := gfold_len pre [] p; simpa [gfold] using this
    have hgs := Lib.hid (gfold_snoc p pre x)
    generalize gfold p pre = st at *
    obtain ⟨out, nx⟩ := st
    obtain ⟨xa, xb⟩ := x
    dsimp only at hbox kN kx hvx hnx hol hgs ⊢
    obtain ⟨v, hv1, hrow, hnil⟩ := hbox.ex
    have hvx1 : v.ownBlock ≠ some Bx := fun e => by have := (hrow.lt _ e).2; omega
    have hvx2 : ∀ g, v.ownBlock = some g → W0.heap.size + 2 ≤ g := fun g e => (hrow.lt _ e).1
    replace hv1 := hfa.blk hv1 (by omega)
    replace hrow := ownsRow_far hrow hfa (fun g e => by have := hvx2 g e; omega)
    have cx := kx.cell
    have cv := hv1.cell
    have fv := hv1.frozen
    have cn := kN.cell
    have fn_ := kN.frozen
    have kW := Blk.new W 64 #[.int .i64 nx, .int .i64 (xa - nx)]
    by_cases hgt : nx < xa
    · have hgt' : decide (nx < xa) = true := by simpa using hgt
      have hG : Hid (gfold p (pre ++ [(xa, xb)]) = (out ++ [(nx, xa - nx)], xa + xb)) := Lib.hid (by rw [hgs.out, gst, if_pos hgt])
      clear hgs hgt
      gi_wp2_with (first
        | (gi_at_builtin; refine wpListIn_append_own _ rfl (.tmp 19) (.tmp 26) 22 rfl (W0.heap.size + 2) 64 i0 (.agg #[.int .i64 0, .int .i64 0]) 2 16 Tryz.underlying22 hi hz0 hz1 hz2 rfl (by decide) v out.length (spCells out) rfl (hrow.alloc _) ⟨W.heap.size, 0, none⟩ 1 1 [.int .i64 nx, .int .i64 (xa - nx)] rfl rfl (news_two kW) news_one2 (by unfold maxLen; omega) (by omega) (by simp; omega) ?_; intro v' w1 hown' hgrow _; rw [← spCells_snoc out (nx, xa - nx)] at hown'; obtain ⟨hv2, hb2, hf2⟩ := BoxS.appended hv1 (by decide) hrow hown' (by simp) (by simp) hgrow; obtain ⟨A', cap', rfl⟩ := own_nil_iff hown' (by simp); have cv1 := hv2.cell; have fv1 := hv2.frozen; have hf3 := hf2 (fun k => k = s + 1 ∨ v.ownBlock = some k) (.inl rfl) (fun g e => .inr e); have kN2 := hf3.blk kN (by rintro (h | h); omega; have := hvx2 _ h; omega); have kx2 := hf3.blk kx (by rintro (h | h); omega; exact hvx1 h); have kI2 := hf3.blk kI (by rintro (h | h); omega; have := hvx2 _ h; omega); have cn2 := kN2.cell; have cx2 := kx2.cell)
        | (gi_at_call 89; refine (CallsIn.inRound l (callsIn_wide.2 (end_any _ _ _ (by omega) (by omega)))).mono ?_; rintro e w3 ⟨rfl, hq3⟩; have kN3 := kN2.call hq3; have cn3 := kN3.cell; have fn3 := kN3.frozen))
      have kI3 := kI2.call hq3
      have hb3 := hb2.far (.of_below hq3 : Far (fun _ => False) _ _) id (fun _ _ h => h)
      have hf4 : Far (fun k => k = s + 2) w3 (w3.setCell ⟨s + 2, 0, none⟩ (.int .i64 (xa + xb))) := Far.setCell (T := fun k => k = s + 2) (p := ⟨s + 2, 0, none⟩) (Far.refl _ _) (fun _ => rfl) _
      have hf5 : Far (fun k => k = s + 1 ∨ k = s + 2 ∨ v.ownBlock = some k) W (w3.setCell ⟨s + 2, 0, none⟩ (.int .i64 (xa + xb))) := (Far.call (hf3.mono fun k _ h => by rcases h with h | h; exact .inl h; exact .inr (.inr h)) hq3).trans (hf4.mono fun k _ h => .inr (.inl h))
      show Far _ _ _ ∧ (BoxS _ _ _ _ _ (gfold p (pre ++ [(xa, xb)])).1 ∧ Blk _ _ _ #[.int .i64 (gfold p (pre ++ [(xa, xb)])).2] ∧ _ ∧ _)
      rw [hG.out]
      refine ⟨hf5.mono fun k _ h => ?_, hb3.far hf4 (by omega) (fun g hg => by omega), kN3.set_ 0 _, hf4.blk kI3 (by omega), hB.trans (hf5.below (by have := hB.size; omega) (fun k hk => ?_))⟩
      · rcases h with h | h | h
        · omega
        · omega
        · have := hvx2 k h; omega
      · rintro (h | h | h)
        · omega
        · omega
        · have := hvx2 k h; omega
    · have hgt' : decide (nx < xa) = false := by simpa using hgt
      have hG : Hid (gfold p (pre ++ [(xa, xb)]) = (out, xa + xb)) := Lib.hid (by rw [hgs.out, gst, if_neg hgt])
      clear hgs hgt
      gi_wp2_with (gi_at_call 89; refine (CallsIn.inRound l (callsIn_wide.2 (end_any _ _ _ (by omega) (by omega)))).mono ?_; rintro e w3 ⟨rfl, hq3⟩; have kN3 := kN.call hq3; have cn3 := kN3.cell; have fn3 := kN3.frozen)
      have kI3 := kI.call hq3
      have hb2 : BoxS W (s + 1) 22 64 (W0.heap.size + 2) out := ⟨v, hv1, hrow, hnil⟩
      have hb3 := hb2.far (.of_below hq3 : Far (fun _ => False) _ _) id (fun _ _ h => h)
      have hf4 : Far (fun k => k = s + 2) w3 (w3.setCell ⟨s + 2, 0, none⟩ (.int .i64 (xa + xb))) := Far.setCell (T := fun k => k = s + 2) (p := ⟨s + 2, 0, none⟩) (Far.refl _ _) (fun _ => rfl) _
      have hf5 : Far (fun k => k = s + 2) W (w3.setCell ⟨s + 2, 0, none⟩ (.int .i64 (xa + xb))) := (Far.of_below hq3).trans hf4
      show Far _ _ _ ∧ (BoxS _ _ _ _ _ (gfold p (pre ++ [(xa, xb)])).1 ∧ Blk _ _ _ #[.int .i64 (gfold p (pre ++ [(xa, xb)])).2] ∧ _ ∧ _)
      rw [hG.out]
      refine ⟨hf5.mono fun k _ h => by omega, hb3.far hf4 (by omega) (fun g hg => by omega), kN3.set_ 0 _, hf4.blk kI3 (by omega), hB.trans (hf5.below (by have := hB.size; omega) (fun k hk => by omega))⟩
  case done =>
    rintro W hsz ⟨hbox, kN, kI, hB⟩ hd
    rw [hs0] at hd hbox hsz
    have hfin := Lib.hid (gfold_gaps (commonF us [(p, q)]) p (p + q))
    have hnx := gfold_next (commonF us [(p, q)]) p hp0 (fun y hy => hvl y hy)
    have hol : (gfold p (commonF us [(p, q)])).1.length ≤ 512 := by have := gfold_len (commonF us [(p, q)]) [] p; simp only [List.length_nil] at this; unfold gfold; omega
    have hq0 : -100000 ≤ q ∧ q ≤ 100000 := by have := vld_iff.1 hv; simp only at this; omega
    have hq1 : 0 ≤ p + q ∧ p + q ≤ 1024 := by have := vld_iff.1 hv; simp only at this; omega
    have hgf : Hid (gfin (gfold p (commonF us [(p, q)])) (p + q) = L) := Lib.hid (by rw [hfin.out]; exact hL.out)
    clear hfin
    generalize gfold p (commonF us [(p, q)]) = st at *
    obtain ⟨out, nx⟩ := st
    dsimp only at hbox kN hnx hol
    obtain ⟨v, hv1, hrow, hnil⟩ := hbox.ex
    have hvx2 : ∀ g, v.ownBlock = some g → s + 6 + 2 ≤ g := fun g e => (hrow.lt _ e).1
    have HE : Hid (∀ z : Ext W, Calls Tryz.prog 89 #[.agg #[.int .i64 p, .int .i64 q]] z.w fun e w'' => e = .returned (.int .i64 (p + q)) ∧ ∃ t : Ext W, w'' = t.w) := Lib.hid (fun z => Ext.call (end_any p q _ (by omega) hq0))
    have e1 := fun z : Ext W => (z.blk kN).cell
    have e2 := fun z : Ext W => (z.blk kI).cell
    by_cases hlt : nx < p + q
    · have hlt' : decide (nx < p + q) = true := by simpa using hlt
      have hE : Hid (L = out ++ [(nx, p + q - nx)]) := Lib.hid (by rw [← hgf.out, gfin, if_pos hlt])
      go_upto_region 8 with fail
      refine region_ext (by kernel_rfl) (by kernel_rfl) ?_
      repeat (go_big_quiet_step ((go_at_call 89; exact HE.out _)))
      refine wpQuiet_nil ?_
      rintro w2 ⟨⟨_, hw2⟩, rfl⟩
      clear e1 e2 HE hgf
      have kN2 := kN.call hw2
      have kI2 := kI.call hw2
      have hv2 := hv1.call hw2
      have hrow2 := ownsRow_call hrow hw2
      have hd2 : w2.heap[s + 6]? = some (.deferred (some [])) := (Far.of_below (T := fun _ => False) hw2).same hd id
      have hB2 := hB.trans (hw2.mono (by have := hB.size; omega))
      have hS0 : GapS s p q nx v w2 := ⟨kI2.cell 0, kI2.cell 1, kN2.cell 0, hv2.cell 0⟩
      have HEW := Lib.hid (fun W => end_any p q W (by omega) hq0)
      have hsz2 : s + 6 + 2 ≤ w2.heap.size := Nat.le_trans hsz hw2.size
      go_upto_region 9 with fail
      refine wp_noPanic ?_
      refine wp_region_T (GapS s p q nx v) [9] (by kernel_rfl) ?_
      have hS : GapS s p q nx v w2.drew := hS0
      refine' wpAnyT_take (i := 0) (v := _) ?hiT0 (by kernel_rfl) ?hQT0 (Or.inl ⟨?hwT0, ?hyT0⟩) hS ?reT0
      case hiT0 => (simp only [List.getElem?_toArray, List.getElem?_cons_zero]; rfl)
      case hQT0 => exact fun _ _ _ h => h
      case hwT0 => rfl
      case hyT0 => (intro wS hSw; obtain ⟨_, _⟩ := hSw; go_simp; (try with_reducible rfl))
      try simp only [Act.put, List.setIfInBounds_toArray, List.set_cons_zero, List.set_cons_succ]
      refine' wpAnyT_take (i := 1) (v := _) ?hiT1 (by kernel_rfl) ?hQT1 (Or.inl ⟨?hwT1, ?hyT1⟩) hS ?reT1
      case hiT1 => (simp only [List.getElem?_toArray, List.getElem?_cons_succ, List.getElem?_cons_zero]; rfl)
      case hQT1 => exact fun _ _ _ h => h
      case hwT1 => rfl
      case hyT1 => (intro wS hSw; obtain ⟨_, _⟩ := hSw; go_simp; (try with_reducible rfl))
      try simp only [Act.put, List.setIfInBounds_toArray, List.set_cons_zero, List.set_cons_succ]
      refine' wpAnyT_take (i := 2) (v := _) ?hiT2 (by kernel_rfl) ?hQT2 (Or.inl ⟨?hwT2, ?hyT2⟩) hS ?reT2
      case hiT2 => (simp only [List.getElem?_toArray, List.getElem?_cons_succ, List.getElem?_cons_zero]; rfl)
      case hQT2 => exact fun _ _ _ h => h
      case hwT2 => rfl
      case hyT2 => (intro wS hSw; obtain ⟨_, _⟩ := hSw; go_simp; (try with_reducible rfl))
      try simp only [Act.put, List.setIfInBounds_toArray, List.set_cons_zero, List.set_cons_succ]
      refine' wpAnyT_take (i := 4) (v := _) ?hiT4 (by kernel_rfl) ?hQT4 (Or.inl ⟨?hwT4, ?hyT4⟩) hS ?reT4
      case hiT4 => (simp only [List.getElem?_toArray, List.getElem?_cons_succ, List.getElem?_cons_zero]; rfl)
      case hQT4 => exact fun _ _ _ h => h
      case hwT4 => rfl
      case hyT4 => (intro wS hSw; obtain ⟨_, _⟩ := hSw; go_simp; (try with_reducible rfl))
      try simp only [Act.put, List.setIfInBounds_toArray, List.set_cons_zero, List.set_cons_succ]
      refine wpAnyT_ready (rs := [3]) (by kernel_rfl) (by simp) ?_
      refine' AllReadyT.cons ?hi3 (fun K hK => ?st3) AllReadyT.nil
      case hi3 => (simp only [List.getElem?_toArray, List.getElem?_cons_succ, List.getElem?_cons_zero]; rfl)
      go_simp
      refine (HEW.out _).mono ?_
      rintro e w3 ⟨rfl, hq3⟩
      have hq3' : Below w2.heap.size w2 w3 := (Below.refl _ w2).drew.trans hq3
      refine hK.out _ _ (fun _ => hS0.later hq3' (by omega)) (fun hS => ?_)
      clear hK K
      replace hS := hS rfl
      try simp only [Act.put, List.setIfInBounds_toArray, List.set_cons_zero, List.set_cons_succ]
      refine' wpAnyT_take (i := 5) (v := _) ?hiT5g (by kernel_rfl) ?hQT5g (Or.inl ⟨?hwT5g, ?hyT5g⟩) hS ?reT5g
      case hiT5g => (simp only [List.getElem?_toArray, List.getElem?_cons_succ, List.getElem?_cons_zero]; rfl)
      case hQT5g => exact fun _ _ _ h => h
      case hwT5g => rfl
      case hyT5g => (intro wS hSw; obtain ⟨_, _⟩ := hSw; go_simp; (try with_reducible rfl))
      try simp only [Act.put, List.setIfInBounds_toArray, List.set_cons_zero, List.set_cons_succ]
      rw [IntWalk.i64_in (p + q - nx) (by omega)]
      refine' wpAnyT_take (i := 6) (v := _) ?hiT6g (by kernel_rfl) ?hQT6g (Or.inl ⟨?hwT6g, ?hyT6g⟩) hS ?reT6g
      case hiT6g => (simp only [List.getElem?_toArray, List.getElem?_cons_succ, List.getElem?_cons_zero]; rfl)
      case hQT6g => exact fun _ _ _ h => h
      case hwT6g => rfl
      case hyT6g => (intro wS hSw; obtain ⟨_, _⟩ := hSw; go_simp; (try with_reducible rfl))
      try simp only [Act.put, List.setIfInBounds_toArray, List.set_cons_zero, List.set_cons_succ]
      refine wpAnyT_ready (rs := [7]) (by kernel_rfl) (by simp) ?_
      refine' AllReadyT.cons ?hi7 (fun K hK => ?st7) AllReadyT.nil
      case hi7 => (simp only [List.getElem?_toArray, List.getElem?_cons_succ, List.getElem?_cons_zero]; rfl)
      go_simp
      have hq4 := hq3'.alloc hq3'.size (.cells #[.int .i64 nx, .int .i64 (p + q - nx)] 64)
      refine hK.out _ _ (fun _ => hS0.later hq4 (by omega)) (fun hS => ?_)
      clear hK K
      replace hS := hS rfl
      have kW := Blk.new w3 64 #[.int .i64 nx, .int .i64 (p + q - nx)]
      have hv3 := hv2.call hq3'
      have hrow3 := ownsRow_call hrow2 hq3'
      have hs3 : s + 6 + 2 ≤ w3.heap.size := Nat.le_trans hsz2 hq3'.size
      try simp only [Act.put, List.setIfInBounds_toArray, List.set_cons_zero, List.set_cons_succ]
      refine wpAnyT_ready (rs := [8]) (by kernel_rfl) (by simp) ?_
      refine' AllReadyT.cons ?hi8 (fun K hK => ?st8) AllReadyT.nil
      case hi8 => (simp only [List.getElem?_toArray, List.getElem?_cons_succ, List.getElem?_cons_zero]; rfl)
      rw [if_pos (by simp [Region.wanted])]
      refine wp_append_own _ (.tmp 34) (.tmp 41) 22 rfl (s + 6 + 2) 64 i0 (.agg #[.int .i64 0, .int .i64 0]) 2 16 Tryz.underlying22 hi hz0 hz1 hz2 rfl (by decide) v out.length (spCells out) rfl (hrow3.alloc _) ⟨w3.heap.size, 0, none⟩ 1 1 [.int .i64 nx, .int .i64 (p + q - nx)] rfl rfl (news_two kW) news_one2 (by unfold maxLen; omega) (by omega) (by simp; omega) ?_
      intro v' w4 hown' hgrow _
      rw [← spCells_snoc out (nx, p + q - nx)] at hown'
      obtain ⟨hv4, hb4, hf4⟩ := BoxS.appended hv3 (by decide) hrow3 hown' (by simp) (by simp) hgrow
      obtain ⟨A', cap', rfl⟩ := own_nil_iff hown' (by simp)
      have cv4 := hv4.cell
      have fv4 := hv4.frozen
      have hq5 : Below (s + 6 + 2) w2 w4 := (hq4.mono hsz2).grown hgrow (by simp; omega) (fun j hj => hvx2 j hj)
      refine hK.out _ _ (fun _ => hS0.later hq5 (by omega)) (fun hS => ?_)
      clear hK K
      replace hS := hS rfl
      try simp only [Act.put, List.setIfInBounds_toArray, List.set_cons_zero, List.set_cons_succ]
      refine wpAnyT_ready (rs := [9]) (by kernel_rfl) (by simp) ?_
      refine' AllReadyT.cons ?hi9 (fun K hK => ?st9) AllReadyT.nil
      case hi9 => (simp only [List.getElem?_toArray, List.getElem?_cons_succ, List.getElem?_cons_zero]; rfl)
      go_simp
      refine hK.out _ _ (fun h => absurd h (by decide)) (fun _ => ?_)
      clear hK K
      refine wpAnyT_done (by kernel_rfl) ?_ _
      refine noPanic_normal ?_
      obtain ⟨v5, k5, hrow5, _⟩ := hb4.ex
      have hf5 := hf4 (fun k => k = s + 1 ∨ v.ownBlock = some k) (.inl rfl) (fun g e => .inr e)
      have hB3 := hB2.trans (hq3'.mono (by have := hB2.size; have := hB.size; omega))
      generalize w4.setCell ⟨s + 1, 0, none⟩ (.slice A' (out.length + 1) cap') = w5 at *
      have hd5 : w5.heap[s + 6]? = some (.deferred (some [])) := hf5.same ((Far.of_below (T := fun _ => False) hq3').same hd2 id) (by rintro (h | h); omega; have := hvx2 _ h; omega)
      have hB5 := hB3.trans (hf5.below (by have := hB3.size; have := hB.size; omega) (fun k hk => by rintro (h | h); omega; have := hvx2 _ h; omega))
      have c5 := k5.cell
      obtain ⟨A5, cap5, rfl⟩ := own_nil_iff hrow5 rfl
      clear hv4 hb4 hf4 cv4 fv4 hown' hgrow
      go_wp2_with fail
      rw [hE.out]
      have hfp : Far (fun k => k = s + 6) w5 (w5.putObj (s + 6) (.deferred none)) := Far.putObj (T := fun k => k = s + 6) (Far.refl _ _) (fun _ => rfl) _
      have hrow6 := ownsRow_far hrow5 hfp (fun g hg h => by have := (hrow5.lt g hg).1; omega)
      obtain ⟨A6, cap6, he, hru, h1, h2, h3, _⟩ := own_RU hrow6 rfl
      cases he
      exact leave_mark (v := .slice A5 (out ++ [(nx, p + q - nx)]).length cap5) hd5 (by simp [results, Tryz.results65, go_sem]) ⟨A5, cap5, rfl, hru, h1, h2, fun b o e => by have := h3 b o e; omega, by rw [hs]; exact hB5.trans (hfp.below (by have := hB5.size; omega) (fun k hk => by omega)), own_cap hrow6⟩
    · have hlt' : decide (nx < p + q) = false := by simpa using hlt
      have hE : Hid (L = out) := Lib.hid (by rw [← hgf.out, gfin, if_neg hlt, List.append_nil])
      go_upto_region 8 with fail
      refine region_ext (by kernel_rfl) (by kernel_rfl) ?_
      repeat (go_big_quiet_step ((go_at_call 89; exact HE.out _)))
      refine wpQuiet_nil ?_
      rintro w2 ⟨⟨_, hw2⟩, rfl⟩
      have hv2 := hv1.call hw2
      have hrow2 := ownsRow_call hrow hw2
      have hd2 : w2.heap[s + 6]? = some (.deferred (some [])) := (Far.of_below (T := fun _ => False) hw2).same hd id
      have hB2 := hB.trans (hw2.mono (by have := hB.size; omega))
      have cv := hv2.cell
      obtain ⟨A', cap', rfl⟩ := own_nil_iff hrow2 rfl
      go_wp2_with fail
      rw [hE.out]
      have hfp : Far (fun k => k = s + 6) w2 (w2.putObj (s + 6) (.deferred none)) := Far.putObj (T := fun k => k = s + 6) (Far.refl _ _) (fun _ => rfl) _
      have hrow3 := ownsRow_far hrow2 hfp (fun g hg h => by have := (hrow2.lt g hg).1; omega)
      obtain ⟨A2, cap2, he, hru, h1, h2, h3, _⟩ := own_RU hrow3 rfl
      cases he
      exact leave_mark (v := .slice A' out.length cap') hd2 (by simp [results, Tryz.results65, go_sem]) ⟨A', cap', rfl, hru, h1, h2, fun b o e => by have := h3 b o e; omega, hB2.trans (hfp.below (by have := hB2.size; omega) (fun k hk => by omega)), own_cap hrow3⟩
  case stop => exact fun _ _ _ _ _ h _ => h.elim
/-- what hands back a slice of spans of its own and an error -/
def SpansOwn (w : World) (us : List Sp) (er : Int) (e : Ending) (w' : World) : Prop :=
  ∃ (A : Option Addr) (cap : Nat), e = .returned (.tuple #[.slice A us.length cap, .int .i64 er]) ∧ RU w' w'.heap.size A us ∧ us.length ≤ cap ∧ cap ≤ maxLen ∧ (∀ b o, A = some ⟨b, o, none⟩ → w.heap.size ≤ b) ∧ Below w.heap.size w w' ∧ (A = none → cap = 0)
theorem not_own (A : Option Addr) (n cap : Nat) (us : List Sp) (p q : Int) (w : World) (hn : us.length = n) (hm : n ≤ cap) (hc : cap ≤ maxLen) (hr : RU w w.heap.size A us) :
    Calls Tryz.prog 43 #[.slice A n cap, .agg #[.int .i64 p, .int .i64 q]] w (SpansOwn w (if askS us (p, q) = 0 then gapsF us (p, q) else []) (askS us (p, q))) := by
  have HA := Lib.hid (fun W h => ask_any A n cap us p q W hn (Nat.le_trans hm hc) h)
  have hb0 := (Below.refl w.heap.size w).alloc (Nat.le_refl _) (.cells #[.int .i64 p, .int .i64 q] 64)
  have k0 := Blk.new w 64 #[.int .i64 p, .int .i64 q]
  have hr0 : RU _ _ A us := (hr.below hb0).more hb0.size
  by_cases h0 : askS us (p, q) = 0
  · have h0' := h0
    unfold askS at h0'
    have hcu : Go.Pol.Can us := by
      by_cases hz : chkS us = 0
      · exact chkS_zero.1 hz
      · rw [if_neg hz] at h0'; exact absurd h0' hz
    have hv : vld (p, q) = true := by
      rw [if_pos (chkS_zero.2 hcu)] at h0'
      by_cases hz : vld (p, q) = true
      · exact hz
      · rw [if_neg hz] at h0'; cases h0'
    clear h0'
    rw [h0] at HA ⊢
    rw [if_pos rfl]
    have HG := Lib.hid (fun W h => gaps_own A n cap us p q W hn hm hc h hcu hv)
    obtain ⟨L, hL0⟩ : ∃ L, gapsF us (p, q) = L := ⟨_, rfl⟩
    rw [hL0] at HG ⊢
    clear hL0 h0
    go_enter Tryz.func43, Tryz.ntmps43
    go_wp2_with (first
      | (go_at_call 64; refine (HA.out _ hr0).mono ?_; rintro e w1 ⟨rfl, hq⟩; have k1 := k0.call hq; have c1 := k1.cell; have hb1 := hb0.trans (hq.mono hb0.size); have hr1 : RU _ _ A us := (hr0.below hq).more hq.size)
      | (go_at_call 65; refine (HG.out _ hr1).mono ?_; rintro e w2 ⟨A', cap', rfl, hru, h1, h2, h3, hq2, h4⟩))
    go_ret2
    exact ⟨A', cap', rfl, hru, h1, h2, fun b o e => by have := h3 b o e; have := hb1.size; omega, hb1.trans (hq2.mono hb1.size), h4⟩
  · rw [if_neg h0]
    generalize askS us (p, q) = er at *
    have hc' : (er != 0) = true := by simpa using h0
    clear h0
    go_enter Tryz.func43, Tryz.ntmps43
    go_wp2_with (go_at_call 64; refine (HA.out _ hr0).mono ?_; rintro e w1 ⟨rfl, hq⟩; have hb1 := hb0.trans (hq.mono hb0.size))
    go_ret2
    exact ⟨none, 0, rfl, RU.nil, by simp, by unfold maxLen; omega, fun b o e => (by cases e), hb1, fun _ => rfl⟩
end Go.Proofs.YtdepkmpilipolaaGreat
namespace Go.Proofs.YtdepkmpilipolaaGreat
open Go Go.Proofs Go.RowKit Go.Pol Go.Shelf
attribute [local go_sem] Oper.semAt_some Go.Pol.wide_fn Go.Pol.wide_depth Go.Pol.wide_fn' Go.Pol.wide_depth'

/-- what Guards answers -/
def guardsF (pg n f b ev : Int) : List Sp := if chkG pg n f b ev = 0 then gapsF (runsL pg n f b ev) (pg, n) else []
theorem ask_runs {pg n f b ev : Int} (hp : PlanOk pg n f b ev) : askS (runsL pg n f b ev) (pg, n) = 0 := by
  rw [askS, if_pos (chkS_zero.2 (runsL_can hp)), if_pos (vld_iff.2 ⟨hp.pg0, hp.pg1, hp.n0, hp.n1⟩)]

set_option maxHeartbeats 400000 in
theorem guards_own (pg n f b ev : Int) (w : World) :
    Calls Tryz.prog 16 #[planV pg n f b ev] w (SpansOwn w (guardsF pg n f b ev) (chkG pg n f b ev)) := by
  have HU := Lib.hid (fun W => usable_any pg n f b ev W)
  have hb0 := (Below.refl w.heap.size w).alloc (Nat.le_refl _) (.cells (planC pg n f b ev) 31)
  have k0 := Blk.new w 31 (planC pg n f b ev)
  have c0 := k0.cell
  unfold guardsF
  by_cases hc : chkG pg n f b ev = 0
  · have hp := chkG_zero.1 hc
    have ha := ask_runs hp
    rw [hc, if_pos rfl] at HU
    rw [hc, if_pos rfl]
    have HN := Lib.hid (fun A cap W h1 h2 h3 => not_own A (runsL pg n f b ev).length cap (runsL pg n f b ev) pg n W rfl h1 h2 h3)
    rw [ha, if_pos rfl] at HN
    clear ha hc hp
    generalize gapsF (runsL pg n f b ev) (pg, n) = G at *
    generalize runsL pg n f b ev = L at *
    go_enter Tryz.func16, Tryz.ntmps16
    go_wp2_with (first
      | (go_at_call 18; refine (HU.out _).mono ?_; rintro e w1 ⟨A1, c1, rfl, hr1, hl1, hm1, _, hq⟩; have k1 := k0.call hq; have cc := k1.cell; have hb1 := hb0.trans (hq.mono hb0.size))
      | (go_at_call 43; refine (HN.out _ _ _ hl1 hm1 hr1).mono ?_; rintro e w2 ⟨A2, c2, rfl, hr2, hl2, hm2, ho2, hq2, hz2⟩))
    go_ret2
    exact ⟨A2, c2, rfl, hr2, hl2, hm2, fun b o e => by have := ho2 b o e; have := hb1.size; omega, hb1.trans (hq2.mono hb1.size), hz2⟩
  · rw [if_neg hc] at HU ⊢
    generalize chkG pg n f b ev = er at *
    have hc' : (er != 0) = true := by simpa using hc
    clear hc
    go_enter Tryz.func16, Tryz.ntmps16
    go_wp2_with (go_at_call 18; refine (HU.out _).mono ?_; rintro e w1 ⟨A1, c1, rfl, hr1, hl1, hm1, _, hq⟩; have hb1 := hb0.trans (hq.mono hb0.size))
    go_ret2
    exact ⟨none, 0, rfl, RU.nil, by simp, by unfold maxLen; omega, fun b o e => (by cases e), hb1, fun _ => rfl⟩

theorem guards_any (pg n f b ev : Int) (w : World) :
    Calls Tryz.prog 16 #[planV pg n f b ev] w (SpansR w (guardsF pg n f b ev) (chkG pg n f b ev)) := by
  refine (guards_own pg n f b ev w).mono ?_
  rintro e w' ⟨A', cap', h1, h2, h3, h4, h5, h6, _⟩
  exact ⟨A', cap', h1, h2, h3, h4, h5, h6⟩

/-- the world in which the loop over the runs begins -/
theorem runs_start {w1 : World} {pg n f b ev : Int} (hp : PlanOk pg n f b ev) :
    SeqF Tryz.prog 68 #[.pointer (some ⟨w1.heap.size, 0, none⟩)] spV (fun _ => False) (fun k => k = w1.heap.size) (runsL pg n f b ev) (w1.alloc (.cells (planC pg n f b ev) 31)) :=
  runs1_seq pg n f b ev w1.heap.size _ hp (Blk.new w1 31 (planC pg n f b ev))

set_option maxRecDepth 100000 in
set_option maxHeartbeats 1600000 in
theorem nth_any (pg n f b ev i : Int) (w : World) (hi0 : -9223372036854775808 ≤ i) (hi1 : i ≤ 9223372036854775807) (R : Int × Int) (hR : (if chkG pg n f b ev = 0 then nthF (runsL pg n f b ev) i else (0, chkG pg n f b ev)) = R) :
    Calls Tryz.prog 19 #[planV pg n f b ev, .int .i64 i] w fun e w' => e = .returned (.tuple #[.int .i64 R.1, .int .i64 R.2]) ∧ Below w.heap.size w w' := by
  have HC := Lib.hid (fun W => gcheck_any pg n f b ev W)
  have HR := Lib.hid (fun W => runs_any pg n f b ev W)
  obtain ⟨s, hs⟩ : ∃ s, w.heap.size = s := ⟨_, rfl⟩
  obtain ⟨Wb, hWb⟩ : ∃ Wb, (((w.alloc (.cells (planC pg n f b ev) 31)).alloc (.cells #[.int .i64 i] 3)).alloc (.cells #[.int .i64 0] 3)).alloc (.cells #[.int .i64 0] 35) = Wb := ⟨_, rfl⟩
  have hb0 : Below s w Wb := by rw [← hWb, ← hs]; exact ((((Below.refl w.heap.size w).alloc (Nat.le_refl _) _).alloc (by simp) _).alloc (by simp; omega) _).alloc (by simp; omega) _
  have kP : Blk Wb s 31 (planC pg n f b ev) := by rw [← hWb, ← hs]; exact (((Blk.new _ _ _).alloc _).alloc _).alloc _
  have kI : Blk Wb (s + 1) 3 #[.int .i64 i] := by
    rw [← hWb, ← hs]; have := Blk.new (w.alloc (.cells (planC pg n f b ev) 31)) 3 #[.int .i64 i]
    rw [World.size_alloc] at this; exact (this.alloc _).alloc _
  have kO : Blk Wb (s + 2) 3 #[.int .i64 0] := by
    rw [← hWb, ← hs]; have := Blk.new ((w.alloc (.cells (planC pg n f b ev) 31)).alloc (.cells #[.int .i64 i] 3)) 3 #[.int .i64 0]
    simp only [World.size_alloc] at this; exact this.alloc _
  have kE : Blk Wb (s + 3) 35 #[.int .i64 0] := by
    rw [← hWb, ← hs]; have := Blk.new (((w.alloc (.cells (planC pg n f b ev) 31)).alloc (.cells #[.int .i64 i] 3)).alloc (.cells #[.int .i64 0] 3)) 35 #[.int .i64 0]
    simp only [World.size_alloc] at this; exact this
  have hW1 : Hid ((((w.alloc (.cells (planC pg n f b ev) 31)).alloc (.cells #[.int .i64 i] 3)).alloc (.cells #[.int .i64 0] 3)).alloc (.cells #[.int .i64 0] 35) = Wb) := Lib.hid hWb
  clear hWb
  have HR1 := Lib.hid hR
  clear hR
  by_cases hc : chkG pg n f b ev = 0
  case neg =>
    rw [if_neg hc] at HR1
    generalize chkG pg n f b ev = er at *
    have hc' : (er != 0) = true := by simpa using hc
    have hE1 : Hid (R = (0, er)) := Lib.hid HR1.out.symm
    clear hc HR1
    have cP := kP.cell
    refine calls_of_marks Tryz.func19 rfl ?_
    simp only [Tryz.ntmps19, List.size_toArray, List.length_cons, List.length_nil, Nat.reduceAdd, Nat.reduceSub, Array.replicate_succ, Array.replicate_zero, List.push_toArray, List.append_toArray, List.nil_append, List.cons_append]
    go_upto_region 1 with fail
    simp only [Nat.add_assoc, Nat.reduceAdd]
    rw [hW1.out]
    go_wp2_with (go_at_call 44; refine (HC.out _).mono ?_; rintro e w1 ⟨rfl, hq⟩; have kO1 := kO.call hq; have kE1 := kE.call hq; have cO1 := kO1.cell; have fO1 := kO1.frozen; have cE1 := kE1.cell; have fE1 := kE1.frozen; have hb1 := hb0.trans (hq.mono (by have := hb0.size; omega)))
    obtain ⟨k2, k3, hf2⟩ := two_set (by omega) kO1 kE1 (.int .i64 0) (.int .i64 er)
    have c2 := k2.cell
    have c3 := k3.cell
    exact leave_none (v := .tuple #[.int .i64 0, .int .i64 er]) (by simp [results, Tryz.results19, go_sem, c2, c3]) ⟨by rw [hE1.out], by rw [hs]; exact hb1.trans (hf2.below (by have := hb1.size; omega) (fun k hk => by omega))⟩
  case pos =>
    have hp := chkG_zero.1 hc
    rw [hc] at HC
    rw [if_pos hc] at HR1
    have HSQ := Lib.hid (fun w1 => runs_start (w1 := w1) hp)
    have hvl := (runsL_can hp).1
    have hlen := (runsL_can hp).len
    clear hc
    generalize runsL pg n f b ev = L at *
    have cP := kP.cell
    refine calls_of_marks Tryz.func19 rfl ?_
    simp only [Tryz.ntmps19, List.size_toArray, List.length_cons, List.length_nil, Nat.reduceAdd, Nat.reduceSub, Array.replicate_succ, Array.replicate_zero, List.push_toArray, List.append_toArray, List.nil_append, List.cons_append]
    go_upto_region 1 with fail
    simp only [Nat.add_assoc, Nat.reduceAdd]
    rw [hW1.out]
    go_wp2_with (first
      | (go_at_call 44; refine (HC.out _).mono ?_; rintro e w1 ⟨rfl, hq⟩; have kP1 := kP.call hq; have kI1 := kI.call hq; have kO1 := kO.call hq; have kE1 := kE.call hq; have cP1 := kP1.cell; have hb1 := hb0.trans (hq.mono (by have := hb0.size; omega)))
      | (go_at_call 46; refine (HR.out _).mono ?_; rintro e w2 ⟨rfl, rfl⟩))
    obtain ⟨W0, hW0⟩ : ∃ W0, w1.alloc (.cells (planC pg n f b ev) 31) = W0 := ⟨_, rfl⟩
    have hs0 : W0.heap.size = w1.heap.size + 1 := by rw [← hW0]; simp
    have hB0 : Below s w W0 := by rw [← hW0]; exact hb1.alloc (by have := hb1.size; omega) _
    have hF0 : Far (fun _ => False) w1 W0 := by rw [← hW0]; exact (Far.refl _ _).alloc _
    have hseq := HSQ.out w1
    rw [hW0] at hseq ⊢
    clear hW0
    have kI0 := hF0.blk kI1 id
    have kO0 := hF0.blk kO1 id
    have kE0 := hF0.blk kE1 id
    have ls1 := kE1.lt
    have hszw := hb1.size
    refine rangeFB 7 15 64 (gf := 68) (lb := #[.pointer (some ⟨w1.heap.size, 0, none⟩)]) rfl runs_enters hseq rfl (fun _ h => h.elim) (fun k h => by omega)
      (fun pre W => Blk W (s + 1) 3 #[.int .i64 (i - sumS pre)] ∧ Blk W (s + 2) 3 #[.int .i64 0] ∧ Blk W (s + 3) 35 #[.int .i64 0] ∧ Below s w W ∧ Hid ((pre ≠ [] → 0 ≤ i - sumS pre) ∧ ∀ rest, L = pre ++ rest → nthF L i = nthF rest (i - sumS pre)))
      (fun c pre W => ((c = .ret ∧ Blk W (s + 2) 3 #[.int .i64 R.1] ∧ Blk W (s + 3) 35 #[.int .i64 R.2]) ∨ (c = .exit 0 ∧ Blk W (s + 2) 3 #[.int .i64 0] ∧ Blk W (s + 3) 35 #[.int .i64 0] ∧ Hid (R = (0, 7)))) ∧ Below s w W)
      (fun pre A B h hf => ⟨hf.blk h.1 (by rintro (h | h | h) <;> omega), hf.blk h.2.1 (by rintro (h | h | h) <;> omega), hf.blk h.2.2.1 (by rintro (h | h | h) <;> omega), h.2.2.2.1.trans (hf.below (Nat.le_trans (by omega) h.2.2.2.1.size) (fun k hk => by rintro (h | h | h) <;> omega)), h.2.2.2.2⟩)
      (fun c pre A B h hf => ⟨h.1.imp (fun h => ⟨h.1, hf.blk h.2.1 (by rintro (h | h | h) <;> omega), hf.blk h.2.2 (by rintro (h | h | h) <;> omega)⟩) (fun h => ⟨h.1, hf.blk h.2.1 (by rintro (h | h | h) <;> omega), hf.blk h.2.2.1 (by rintro (h | h | h) <;> omega), h.2.2.2⟩), h.2.trans (hf.below (Nat.le_trans (by omega) h.2.size) (fun k hk => by rintro (h | h | h) <;> omega))⟩)
      ⟨by simpa [sumS] using kI0, kO0, kE0, hB0, Lib.hid ⟨fun h => absurd rfl h, fun rest h => by rw [h]; simp [sumS]⟩⟩ ?assign ?body ?done ?stop
    case assign =>
      intro m l x W C hC
      simp only [List.setIfInBounds_toArray, List.set_cons_succ, List.set_cons_zero] at hC ⊢
      gi_wp2
      exact hC
    case body =>
      rintro m l pre x Bx Wa W hsz ⟨kI, kO, kE, hB, hH⟩ hpre hBx kx _ _ _
      simp only [List.setIfInBounds_toArray, List.set_cons_succ, List.set_cons_zero]
      have hvx := vld_iff.1 (hvl x (prefix_mem hpre (by simp)))
      have hsb := sumS_bound pre (fun y hy => hvl y (prefix_mem hpre (by simp [hy])))
      have hpl : pre.length ≤ 512 := by have := hpre.length_le; simp at this; omega
      have hsn := Lib.hid (sumS_snoc pre x)
      obtain ⟨rest, hrest⟩ := prefix_cons hpre
      have hN := Lib.hid (hH.out.2 _ hrest)
      have hN' := hN
      have hL1 := Lib.hid hrest
      have hv0 := hH.out.1
      clear hrest hpre hH
      obtain ⟨v, hv⟩ : ∃ v, i - sumS pre = v := ⟨_, rfl⟩
      rw [hv] at hN hv0 kI
      have hvb : -9223372036854775808 ≤ v ∧ v ≤ 9223372036854775807 := by
        by_cases h : pre = []
        · subst h; simp [sumS] at hv; omega
        · have := hv0 h; omega
      have hv' := Lib.hid hv
      clear hv hv0 hsb hi0 hi1
      obtain ⟨xa, xb⟩ := x
      dsimp only at kx hvx hsn
      have cx := kx.cell
      have cI := kI.cell
      have fI := kI.frozen
      have cO := kO.cell
      have fO := kO.frozen
      have cE := kE.cell
      have fE := kE.frozen
      by_cases h1 : v < 0
      · have h1' : decide (v < 0) = true := by simpa using h1
        have hE : Hid (R = (0, 7)) := Lib.hid (by rw [← HR1.out, hN.out, nthF, if_pos h1])
        gi_wp2_with fail
        exact ⟨Far.refl _ _, .inr ⟨rfl, kO, kE, hE⟩, hB⟩
      · have h1' : decide (v < 0) = false := by simpa using h1
        by_cases h2 : v < xb
        · have h2' : decide (v < xb) = true := by simpa using h2
          have hE : Hid (R = (xa + v, 0)) := Lib.hid (by rw [← HR1.out, hN.out, nthF, if_neg h1, if_pos h2])
          gi_wp2_with fail
          obtain ⟨k2, k3, hf2⟩ := two_set (by omega) kO kE (.int .i64 (xa + v)) (.int .i64 0)
          exact ⟨hf2.mono fun k _ h => by omega, .inl ⟨rfl, by rw [hE.out]; exact k2, by rw [hE.out]; exact k3⟩, hB.trans (hf2.below (by have := hB.size; omega) (fun k hk => by omega))⟩
        · have h2' : decide (v < xb) = false := by simpa using h2
          have hN2 := Lib.hid (nthF_step hN'.out (by rw [hv'.out]; exact h1) (by rw [hv'.out]; exact h2))
          gi_wp2_with fail
          have hf4 : Far (fun k => k = s + 1) W (W.setCell ⟨s + 1, 0, none⟩ (.int .i64 (v - xb))) := Far.setCell (T := fun k => k = s + 1) (p := ⟨s + 1, 0, none⟩) (Far.refl _ _) (fun _ => rfl) _
          refine ⟨hf4.mono fun k _ h => by omega, ?_, hf4.blk kO (by omega), hf4.blk kE (by omega), hB.trans (hf4.below (by have := hB.size; omega) (fun k hk => by omega)), ?_⟩
          · rw [hsn.out, show i - (sumS pre + xb) = v - xb by have := hv'.out; omega]; exact kI.set_ 0 _
          · refine Lib.hid ⟨fun _ => by rw [hsn.out]; have := hv'.out; omega, fun rest2 h => ?_⟩
            have hr2 : rest2 = rest := by rw [hL1.out] at h; simpa using h.symm
            rw [hr2]; exact hN2.out
    case done =>
      rintro W hsz ⟨kI, kO, kE, hB, hH⟩ hd
      rw [hs0] at hd hsz
      have hE : Hid (R = (0, 7)) := Lib.hid (by rw [← HR1.out, hH.out.2 [] (by simp)]; rfl)
      have cO := kO.cell
      have fO := kO.frozen
      have cE := kE.cell
      have fE := kE.frozen
      go_wp2_with fail
      obtain ⟨k2, k3, hf2⟩ := two_set (by omega) kO kE (.int .i64 0) (.int .i64 7)
      have hd2 := hf2.same hd (by omega)
      have hB2 := hB.trans (hf2.below (by have := hB.size; omega) (fun k hk => by omega))
      generalize ((W.setCell ⟨s + 2, 0, none⟩ (.int .i64 0)).setCell ⟨s + 3, 0, none⟩ (.int .i64 7)) = w5 at *
      rw [hs0]
      have hfp : Far (fun k => k = w1.heap.size + 1) w5 (World.putObj w5 (w1.heap.size + 1) (.deferred none)) := Far.putObj (T := fun k => k = w1.heap.size + 1) (Far.refl _ _) (fun _ => rfl) _
      have c6 := (hfp.blk k2 (by omega)).cell
      have c7 := (hfp.blk k3 (by omega)).cell
      exact leave_mark (v := .tuple #[.int .i64 (((0 : Int), (7 : Int))).1, .int .i64 (((0 : Int), (7 : Int))).2]) hd2 (by simp [results, Tryz.results19, go_sem, c6, c7]) ⟨by rw [hE.out], (by rw [hs]; exact (hB2).trans (hfp.below (by have := (hB2).size; omega) (fun k hk => by omega)))⟩
    case stop =>
      rintro c pre W hsz hpre ⟨⟨rfl, kO, kE⟩ | ⟨rfl, kO, kE, hE⟩, hB⟩ hd
      · rw [hs0] at hd hsz
        go_wp2_with fail
        have hE : Hid (R = R) := Lib.hid rfl
        rw [hs0]
        have hfp : Far (fun k => k = w1.heap.size + 1) W (World.putObj W (w1.heap.size + 1) (.deferred none)) := Far.putObj (T := fun k => k = w1.heap.size + 1) (Far.refl _ _) (fun _ => rfl) _
        have c6 := (hfp.blk kO (by omega)).cell
        have c7 := (hfp.blk kE (by omega)).cell
        exact leave_mark (v := .tuple #[.int .i64 (R).1, .int .i64 (R).2]) hd (by simp [results, Tryz.results19, go_sem, c6, c7]) ⟨by rw [hE.out], (by rw [hs]; exact (hB).trans (hfp.below (by have := (hB).size; omega) (fun k hk => by omega)))⟩
      · rw [hs0] at hd hsz
        have cO := kO.cell
        have fO := kO.frozen
        have cE := kE.cell
        have fE := kE.frozen
        go_wp2_with fail
        obtain ⟨k2, k3, hf2⟩ := two_set (by omega) kO kE (.int .i64 0) (.int .i64 7)
        have hd2 := hf2.same hd (by omega)
        have hB2 := hB.trans (hf2.below (by have := hB.size; omega) (fun k hk => by omega))
        generalize ((W.setCell ⟨s + 2, 0, none⟩ (.int .i64 0)).setCell ⟨s + 3, 0, none⟩ (.int .i64 7)) = w5 at *
        rw [hs0]
        have hfp : Far (fun k => k = w1.heap.size + 1) w5 (World.putObj w5 (w1.heap.size + 1) (.deferred none)) := Far.putObj (T := fun k => k = w1.heap.size + 1) (Far.refl _ _) (fun _ => rfl) _
        have c6 := (hfp.blk k2 (by omega)).cell
        have c7 := (hfp.blk k3 (by omega)).cell
        exact leave_mark (v := .tuple #[.int .i64 (((0 : Int), (7 : Int))).1, .int .i64 (((0 : Int), (7 : Int))).2]) hd2 (by simp [results, Tryz.results19, go_sem, c6, c7]) ⟨by rw [hE.out], (by rw [hs]; exact (hB2).trans (hfp.below (by have := (hB2).size; omega) (fun k hk => by omega)))⟩

set_option maxRecDepth 100000 in
set_option maxHeartbeats 1600000 in
theorem index_any (pg n f b ev page : Int) (w : World) (R : Int × Int) (hR : (if chkG pg n f b ev = 0 then idxF page 0 (runsL pg n f b ev) else (0, chkG pg n f b ev)) = R) :
    Calls Tryz.prog 20 #[planV pg n f b ev, .int .i64 page] w fun e w' => e = .returned (.tuple #[.int .i64 R.1, .int .i64 R.2]) ∧ Below w.heap.size w w' := by
  have HC := Lib.hid (fun W => gcheck_any pg n f b ev W)
  have HR := Lib.hid (fun W => runs_any pg n f b ev W)
  obtain ⟨s, hs⟩ : ∃ s, w.heap.size = s := ⟨_, rfl⟩
  obtain ⟨Wb, hWb⟩ : ∃ Wb, (((w.alloc (.cells (planC pg n f b ev) 31)).alloc (.cells #[.int .i64 page] 3)).alloc (.cells #[.int .i64 0] 3)).alloc (.cells #[.int .i64 0] 35) = Wb := ⟨_, rfl⟩
  have hb0 : Below s w Wb := by rw [← hWb, ← hs]; exact ((((Below.refl w.heap.size w).alloc (Nat.le_refl _) _).alloc (by simp) _).alloc (by simp; omega) _).alloc (by simp; omega) _
  have kP : Blk Wb s 31 (planC pg n f b ev) := by rw [← hWb, ← hs]; exact (((Blk.new _ _ _).alloc _).alloc _).alloc _
  have kI : Blk Wb (s + 1) 3 #[.int .i64 page] := by
    rw [← hWb, ← hs]; have := Blk.new (w.alloc (.cells (planC pg n f b ev) 31)) 3 #[.int .i64 page]
    rw [World.size_alloc] at this; exact (this.alloc _).alloc _
  have kO : Blk Wb (s + 2) 3 #[.int .i64 0] := by
    rw [← hWb, ← hs]; have := Blk.new ((w.alloc (.cells (planC pg n f b ev) 31)).alloc (.cells #[.int .i64 page] 3)) 3 #[.int .i64 0]
    simp only [World.size_alloc] at this; exact this.alloc _
  have kE : Blk Wb (s + 3) 35 #[.int .i64 0] := by
    rw [← hWb, ← hs]; have := Blk.new (((w.alloc (.cells (planC pg n f b ev) 31)).alloc (.cells #[.int .i64 page] 3)).alloc (.cells #[.int .i64 0] 3)) 35 #[.int .i64 0]
    simp only [World.size_alloc] at this; exact this
  have hW1 : Hid ((((w.alloc (.cells (planC pg n f b ev) 31)).alloc (.cells #[.int .i64 page] 3)).alloc (.cells #[.int .i64 0] 3)).alloc (.cells #[.int .i64 0] 35) = Wb) := Lib.hid hWb
  clear hWb
  have HR1 := Lib.hid hR
  clear hR
  by_cases hc : chkG pg n f b ev = 0
  case neg =>
    rw [if_neg hc] at HR1
    generalize chkG pg n f b ev = er at *
    have hc' : (er != 0) = true := by simpa using hc
    have hE1 : Hid (R = (0, er)) := Lib.hid HR1.out.symm
    clear hc HR1
    have cP := kP.cell
    refine calls_of_marks Tryz.func20 rfl ?_
    simp only [Tryz.ntmps20, List.size_toArray, List.length_cons, List.length_nil, Nat.reduceAdd, Nat.reduceSub, Array.replicate_succ, Array.replicate_zero, List.push_toArray, List.append_toArray, List.nil_append, List.cons_append]
    go_upto_region 1 with fail
    simp only [Nat.add_assoc, Nat.reduceAdd]
    rw [hW1.out]
    go_wp2_with (go_at_call 44; refine (HC.out _).mono ?_; rintro e w1 ⟨rfl, hq⟩; have kO1 := kO.call hq; have kE1 := kE.call hq; have cO1 := kO1.cell; have fO1 := kO1.frozen; have cE1 := kE1.cell; have fE1 := kE1.frozen; have hb1 := hb0.trans (hq.mono (by have := hb0.size; omega)))
    obtain ⟨k2, k3, hf2⟩ := two_set (by omega) kO1 kE1 (.int .i64 0) (.int .i64 er)
    have c2 := k2.cell
    have c3 := k3.cell
    exact leave_none (v := .tuple #[.int .i64 0, .int .i64 er]) (by simp [results, Tryz.results20, go_sem, c2, c3]) ⟨by rw [hE1.out], by rw [hs]; exact hb1.trans (hf2.below (by have := hb1.size; omega) (fun k hk => by omega))⟩
  case pos =>
    have hp := chkG_zero.1 hc
    rw [hc] at HC
    rw [if_pos hc] at HR1
    have HSQ := Lib.hid (fun w1 => runs_start (w1 := w1) hp)
    have hvl := (runsL_can hp).1
    have hlen := (runsL_can hp).len
    clear hc
    generalize runsL pg n f b ev = L at *
    have cP := kP.cell
    refine calls_of_marks Tryz.func20 rfl ?_
    simp only [Tryz.ntmps20, List.size_toArray, List.length_cons, List.length_nil, Nat.reduceAdd, Nat.reduceSub, Array.replicate_succ, Array.replicate_zero, List.push_toArray, List.append_toArray, List.nil_append, List.cons_append]
    go_upto_region 1 with fail
    simp only [Nat.add_assoc, Nat.reduceAdd]
    rw [hW1.out]
    go_wp2_with (first
      | (go_at_call 44; refine (HC.out _).mono ?_; rintro e w0 ⟨rfl, hq⟩; have kP1 := (kP.call hq).alloc (.cells #[.int .i64 0] 3); have kI1 := (kI.call hq).alloc (.cells #[.int .i64 0] 3); have kO1 := (kO.call hq).alloc (.cells #[.int .i64 0] 3); have kE1 := (kE.call hq).alloc (.cells #[.int .i64 0] 3); have kN1 := Blk.new w0 3 #[.int .i64 0]; have cP1 := kP1.cell; have ls1 := (kE.call hq).lt; have hb1 := (hb0.trans (hq.mono (by have := hb0.size; omega))).alloc (by have := hb0.size; have := hq.size; omega) (.cells #[.int .i64 0] 3))
      | (go_at_call 46; refine (HR.out _).mono ?_; rintro e w2 ⟨rfl, rfl⟩))
    obtain ⟨w1, hw1⟩ : ∃ w1, w0.alloc (.cells #[.int .i64 0] 3) = w1 := ⟨_, rfl⟩
    have hsw : w1.heap.size = w0.heap.size + 1 := by rw [← hw1]; simp
    obtain ⟨nb, hnb⟩ : ∃ nb, w0.heap.size = nb := ⟨_, rfl⟩
    simp only [hnb] at hsw ls1 kN1 ⊢
    rw [hw1] at hb1 kP1 kI1 kO1 kE1 kN1 ⊢
    rw [show nb + 1 = w1.heap.size from hsw.symm]
    clear hw1 hnb
    obtain ⟨W0, hW0⟩ : ∃ W0, w1.alloc (.cells (planC pg n f b ev) 31) = W0 := ⟨_, rfl⟩
    have hs0 : W0.heap.size = w1.heap.size + 1 := by rw [← hW0]; simp
    have hB0 : Below s w W0 := by rw [← hW0]; exact hb1.alloc (by have := hb1.size; omega) _
    have hF0 : Far (fun _ => False) w1 W0 := by rw [← hW0]; exact (Far.refl _ _).alloc _
    have hseq := HSQ.out w1
    rw [hW0] at hseq ⊢
    clear hW0
    have kI0 := hF0.blk kI1 id
    have kO0 := hF0.blk kO1 id
    have kE0 := hF0.blk kE1 id
    have kN0 := hF0.blk kN1 id
    have hszw := hb1.size
    refine rangeFB 8 16 64 (gf := 68) (lb := #[.pointer (some ⟨w1.heap.size, 0, none⟩)]) rfl runs_enters hseq rfl (fun _ h => h.elim) (fun k h => by omega)
      (fun pre W => Blk W nb 3 #[.int .i64 (sumS pre)] ∧ Blk W (s + 1) 3 #[.int .i64 page] ∧ Blk W (s + 2) 3 #[.int .i64 0] ∧ Blk W (s + 3) 35 #[.int .i64 0] ∧ Below s w W ∧ Hid (∀ rest, L = pre ++ rest → idxF page 0 L = idxF page (sumS pre) rest))
      (fun c pre W => c = .ret ∧ Blk W (s + 2) 3 #[.int .i64 R.1] ∧ Blk W (s + 3) 35 #[.int .i64 R.2] ∧ Below s w W)
      (fun pre A B h hf => ⟨hf.blk h.1 (by rintro (h | h | h) <;> omega), hf.blk h.2.1 (by rintro (h | h | h) <;> omega), hf.blk h.2.2.1 (by rintro (h | h | h) <;> omega), hf.blk h.2.2.2.1 (by rintro (h | h | h) <;> omega), h.2.2.2.2.1.trans (hf.below (Nat.le_trans (by omega) h.2.2.2.2.1.size) (fun k hk => by rintro (h | h | h) <;> omega)), h.2.2.2.2.2⟩)
      (fun c pre A B h hf => ⟨h.1, hf.blk h.2.1 (by rintro (h | h | h) <;> omega), hf.blk h.2.2.1 (by rintro (h | h | h) <;> omega), h.2.2.2.trans (hf.below (Nat.le_trans (by omega) h.2.2.2.size) (fun k hk => by rintro (h | h | h) <;> omega))⟩)
      ⟨by simpa [sumS] using kN0, kI0, kO0, kE0, hB0, Lib.hid (fun rest h => by rw [h]; simp [sumS])⟩ ?assign ?body ?done ?stop
    case assign =>
      intro m l x W C hC
      simp only [List.setIfInBounds_toArray, List.set_cons_succ, List.set_cons_zero] at hC ⊢
      gi_wp2
      exact hC
    case body =>
      rintro m l pre x Bx Wa W hsz ⟨kN, kI, kO, kE, hB, hH⟩ hpre hBx kx _ _ _
      simp only [List.setIfInBounds_toArray, List.set_cons_succ, List.set_cons_zero]
      have hvx := vld_iff.1 (hvl x (prefix_mem hpre (by simp)))
      have hsb := sumS_bound pre (fun y hy => hvl y (prefix_mem hpre (by simp [hy])))
      have hpl : pre.length ≤ 512 := by have := hpre.length_le; simp at this; omega
      have hsn := Lib.hid (sumS_snoc pre x)
      obtain ⟨rest, hrest⟩ := prefix_cons hpre
      have hN := Lib.hid (hH.out _ hrest)
      have hL1 := Lib.hid hrest
      clear hrest hpre hH
      obtain ⟨v, hv⟩ : ∃ v, sumS pre = v := ⟨_, rfl⟩
      have hv' := Lib.hid hv
      rw [hv] at kN hsb
      clear hv
      obtain ⟨xa, xb⟩ := x
      dsimp only at kx hvx hsn
      have cx := kx.cell
      have cN := kN.cell
      have fN := kN.frozen
      have cI := kI.cell
      have cO := kO.cell
      have fO := kO.frozen
      have cE := kE.cell
      have fE := kE.frozen
      by_cases h1 : xa ≤ page
      · have h1' : decide (xa ≤ page) = true := by simpa using h1
        by_cases h2 : page < xa + xb
        · have h2' : decide (page < xa + xb) = true := by simpa using h2
          have hE : Hid (R = (v + page - xa, 0)) := Lib.hid (by rw [← HR1.out, hN.out, idxF, if_pos ⟨h1, h2⟩, hv'.out])
          gi_wp2_with fail
          obtain ⟨k2, k3, hf2⟩ := two_set (by omega) kO kE (.int .i64 (v + page - xa)) (.int .i64 0)
          exact ⟨hf2.mono fun k _ h => by omega, rfl, by rw [hE.out]; exact k2, by rw [hE.out]; exact k3, hB.trans (hf2.below (by have := hB.size; omega) (fun k hk => by omega))⟩
        · have h2' : decide (page < xa + xb) = false := by simpa using h2
          have hN2 := Lib.hid (idxF_step hN.out (fun h => h2 h.2))
          gi_wp2_with fail
          have hf4 : Far (fun k => k = nb) W (W.setCell ⟨nb, 0, none⟩ (.int .i64 (v + xb))) := Far.setCell (T := fun k => k = nb) (p := ⟨nb, 0, none⟩) (Far.refl _ _) (fun _ => rfl) _
          refine ⟨hf4.mono fun k _ h => by omega, ?_, hf4.blk kI (by omega), hf4.blk kO (by omega), hf4.blk kE (by omega), hB.trans (hf4.below (by have := hB.size; omega) (fun k hk => by omega)), ?_⟩
          · rw [hsn.out, hv'.out]; exact kN.set_ 0 _
          · refine Lib.hid (fun rest2 h => ?_)
            have hr2 : rest2 = rest := by rw [hL1.out] at h; simpa using h.symm
            rw [hr2]; exact hN2.out
      · have h1' : decide (xa ≤ page) = false := by simpa using h1
        have hN2 := Lib.hid (idxF_step hN.out (fun h => h1 h.1))
        gi_wp2_with fail
        have hf4 : Far (fun k => k = nb) W (W.setCell ⟨nb, 0, none⟩ (.int .i64 (v + xb))) := Far.setCell (T := fun k => k = nb) (p := ⟨nb, 0, none⟩) (Far.refl _ _) (fun _ => rfl) _
        refine ⟨hf4.mono fun k _ h => by omega, ?_, hf4.blk kI (by omega), hf4.blk kO (by omega), hf4.blk kE (by omega), hB.trans (hf4.below (by have := hB.size; omega) (fun k hk => by omega)), ?_⟩
        · rw [hsn.out, hv'.out]; exact kN.set_ 0 _
        · refine Lib.hid (fun rest2 h => ?_)
          have hr2 : rest2 = rest := by rw [hL1.out] at h; simpa using h.symm
          rw [hr2]; exact hN2.out
    case done =>
      rintro W hsz ⟨kN, kI, kO, kE, hB, hH⟩ hd
      rw [hs0] at hd hsz
      have hE : Hid (R = (0, 4)) := Lib.hid (by rw [← HR1.out, hH.out [] (by simp)]; rfl)
      have cO := kO.cell
      have fO := kO.frozen
      have cE := kE.cell
      have fE := kE.frozen
      go_wp2_with fail
      obtain ⟨k2, k3, hf2⟩ := two_set (by omega) kO kE (.int .i64 0) (.int .i64 4)
      have hd2 := hf2.same hd (by omega)
      have hB2 := hB.trans (hf2.below (by have := hB.size; omega) (fun k hk => by omega))
      generalize ((W.setCell ⟨s + 2, 0, none⟩ (.int .i64 0)).setCell ⟨s + 3, 0, none⟩ (.int .i64 4)) = w5 at *
      rw [hs0]
      have hfp : Far (fun k => k = w1.heap.size + 1) w5 (World.putObj w5 (w1.heap.size + 1) (.deferred none)) := Far.putObj (T := fun k => k = w1.heap.size + 1) (Far.refl _ _) (fun _ => rfl) _
      have c6 := (hfp.blk k2 (by omega)).cell
      have c7 := (hfp.blk k3 (by omega)).cell
      exact leave_mark (v := .tuple #[.int .i64 (((0 : Int), (4 : Int))).1, .int .i64 (((0 : Int), (4 : Int))).2]) hd2 (by simp [results, Tryz.results20, go_sem, c6, c7]) ⟨by rw [hE.out], (by rw [hs]; exact (hB2).trans (hfp.below (by have := (hB2).size; omega) (fun k hk => by omega)))⟩
    case stop =>
      rintro c pre W hsz hpre ⟨rfl, kO, kE, hB⟩ hd
      rw [hs0] at hd hsz
      go_wp2_with fail
      have hE : Hid (R = R) := Lib.hid rfl
      rw [hs0]
      have hfp : Far (fun k => k = w1.heap.size + 1) W (World.putObj W (w1.heap.size + 1) (.deferred none)) := Far.putObj (T := fun k => k = w1.heap.size + 1) (Far.refl _ _) (fun _ => rfl) _
      have c6 := (hfp.blk kO (by omega)).cell
      have c7 := (hfp.blk kE (by omega)).cell
      exact leave_mark (v := .tuple #[.int .i64 (R).1, .int .i64 (R).2]) hd (by simp [results, Tryz.results20, go_sem, c6, c7]) ⟨by rw [hE.out], (by rw [hs]; exact (hB).trans (hfp.below (by have := (hB).size; omega) (fun k hk => by omega)))⟩
end Go.Proofs.YtdepkmpilipolaaGreat
namespace Go.Pol
/-- what is hit at a page that is not usable -/
def hitK (pg n f b q : Int) : Int := if q < pg ∨ pg + n ≤ q then 4 else if q < pg + f then 1 else if pg + n - b ≤ q then 2 else 3
def badHit (a m : Int) : Prop := a < 0 ∨ 65536 < a ∨ m < 1 ∨ 65536 - a < m
instance badHitDec (a m : Int) : Decidable (badHit a m) := by unfold badHit; infer_instance
def hitF (pg n f b ev a m : Int) : Int × Int × Int :=
  if chkG pg n f b ev = 0 then
    if badHit a m then (0, 0, 2)
    else if (a + m - 1) / 64 < skipF (a / 64) (runsL pg n f b ev) then (0, -1, 0)
    else (hitK pg n f b (skipF (a / 64) (runsL pg n f b ev)), skipF (a / 64) (runsL pg n f b ev), 0)
  else (0, 0, chkG pg n f b ev)
theorem skipF_bound : ∀ (l : List Sp) (p : Int), (∀ x ∈ l, vld x = true) → 0 ≤ p ∧ p ≤ 1024 → 0 ≤ skipF p l ∧ skipF p l ≤ 1024
  | [], p, _, h => h
  | x :: r, p, hv, h => by
    have := vld_iff.1 (hv x (by simp))
    rw [skipF]; split
    · omega
    · exact skipF_bound r p (fun y hy => hv y (by simp [hy])) h
end Go.Pol
namespace Go.Proofs.YtdepkmpilipolaaGreat
open Go Go.Proofs Go.RowKit Go.Pol Go.Shelf
attribute [local go_sem] Oper.semAt_some Go.Pol.wide_fn Go.Pol.wide_depth Go.Pol.wide_fn' Go.Pol.wide_depth'

set_option maxRecDepth 100000 in
set_option maxHeartbeats 3200000 in
theorem hit_any (pg n f b ev a m : Int) (w : World) (R : Int × Int × Int) (hR : hitF pg n f b ev a m = R) :
    Calls Tryz.prog 21 #[planV pg n f b ev, .int .i64 a, .int .i64 m] w fun e w' => e = .returned (.tuple #[.int .i64 R.1, .int .i64 R.2.1, .int .i64 R.2.2]) ∧ Below w.heap.size w w' := by
  have HC := Lib.hid (fun W => gcheck_any pg n f b ev W)
  have HR := Lib.hid (fun W => runs_any pg n f b ev W)
  obtain ⟨s, hs⟩ : ∃ s, w.heap.size = s := ⟨_, rfl⟩
  obtain ⟨Wb, hWb⟩ : ∃ Wb, ((w.alloc (.cells (planC pg n f b ev) 31)).alloc (.cells #[.int .i64 0] 3)) = Wb := ⟨_, rfl⟩
  have hb0 : Below s w Wb := by rw [← hWb, ← hs]; exact ((Below.refl w.heap.size w).alloc (Nat.le_refl _) _).alloc (by simp) _
  have kP : Blk Wb s 31 (planC pg n f b ev) := by rw [← hWb, ← hs]; exact (Blk.new _ _ _).alloc _
  have kQ : Blk Wb (s + 1) 3 #[.int .i64 0] := by
    rw [← hWb, ← hs]; have := Blk.new (w.alloc (.cells (planC pg n f b ev) 31)) 3 #[.int .i64 0]
    rw [World.size_alloc] at this; exact this
  have hW1 : Hid (((w.alloc (.cells (planC pg n f b ev) 31)).alloc (.cells #[.int .i64 0] 3)) = Wb) := Lib.hid hWb
  clear hWb
  have HR1 := Lib.hid hR
  clear hR
  by_cases hc : chkG pg n f b ev = 0
  case neg =>
    have hE1 : Hid (R = (0, 0, chkG pg n f b ev)) := Lib.hid (by rw [← HR1.out, hitF, if_neg hc])
    generalize chkG pg n f b ev = er at *
    have hc' : (er != 0) = true := by simpa using hc
    clear hc HR1
    have cP := kP.cell
    refine calls_of_marks Tryz.func21 rfl ?_
    simp only [Tryz.ntmps21, List.size_toArray, List.length_cons, List.length_nil, Nat.reduceAdd, Nat.reduceSub, Array.replicate_succ, Array.replicate_zero, List.push_toArray, List.append_toArray, List.nil_append, List.cons_append]
    go_upto_region 1 with fail
    try simp only [Nat.add_assoc, Nat.reduceAdd]
    rw [hW1.out]
    go_wp2_with (go_at_call 44; refine (HC.out _).mono ?_; rintro e w1 ⟨rfl, hq⟩; have kO1 := kQ.call hq; have cO1 := kO1.cell; have fO1 := kO1.frozen; have hb1 := hb0.trans (hq.mono (by have := hb0.size; omega)))
    have k2 := kO1.set_ 0 (.int .i64 0)
    have c2 := k2.cell
    exact leave_none (v := .tuple #[.int .i64 0, .int .i64 0, .int .i64 er]) (by simp [results, Tryz.results21, go_sem, c2]) ⟨by rw [hE1.out], by rw [hs]; exact hb1.setCell (p := ⟨s + 1, 0, none⟩) (by simp) _⟩
  case pos =>
    have hp := chkG_zero.1 hc
    have HSQ := Lib.hid (fun w1 => runs_start (w1 := w1) hp)
    have HIN := Lib.hid (fun W => inner_any pg n f b ev W hp)
    have hvl := (runsL_can hp).1
    have hlen := (runsL_can hp).len
    rw [hc] at HC
    by_cases hbad : badHit a m
    · have hE1 : Hid (R = (0, 0, 2)) := Lib.hid (by rw [← HR1.out, hitF, if_pos hc, if_pos hbad])
      clear hc HR1
      have cP := kP.cell
      have kQ' := kQ
      by_cases b1 : a < 0
      · have b1' : decide (a < 0) = true := by simpa using b1
        refine calls_of_marks Tryz.func21 rfl ?_
        simp only [Tryz.ntmps21, List.size_toArray, List.length_cons, List.length_nil, Nat.reduceAdd, Nat.reduceSub, Array.replicate_succ, Array.replicate_zero, List.push_toArray, List.append_toArray, List.nil_append, List.cons_append]
        go_upto_region 1 with fail
        try simp only [Nat.add_assoc, Nat.reduceAdd]
        rw [hW1.out]
        go_wp2_with (go_at_call 44; refine (HC.out _).mono ?_; rintro e w1 ⟨rfl, hq⟩; have kO1 := kQ.call hq; have cO1 := kO1.cell; have fO1 := kO1.frozen; have hb1 := hb0.trans (hq.mono (by have := hb0.size; omega)))
        have k2 := kO1.set_ 0 (.int .i64 0)
        have c2 := k2.cell
        exact leave_none (v := .tuple #[.int .i64 0, .int .i64 0, .int .i64 2]) (by simp [results, Tryz.results21, go_sem, c2]) ⟨by rw [hE1.out], by rw [hs]; exact hb1.setCell (p := ⟨s + 1, 0, none⟩) (by simp) _⟩
      · have b1' : decide (a < 0) = false := by simpa using b1
        by_cases b2 : 65536 < a
        · have b2' : decide (65536 < a) = true := by simpa using b2
          refine calls_of_marks Tryz.func21 rfl ?_
          simp only [Tryz.ntmps21, List.size_toArray, List.length_cons, List.length_nil, Nat.reduceAdd, Nat.reduceSub, Array.replicate_succ, Array.replicate_zero, List.push_toArray, List.append_toArray, List.nil_append, List.cons_append]
          go_upto_region 1 with fail
          try simp only [Nat.add_assoc, Nat.reduceAdd]
          rw [hW1.out]
          go_wp2_with (go_at_call 44; refine (HC.out _).mono ?_; rintro e w1 ⟨rfl, hq⟩; have kO1 := kQ.call hq; have cO1 := kO1.cell; have fO1 := kO1.frozen; have hb1 := hb0.trans (hq.mono (by have := hb0.size; omega)))
          have k2 := kO1.set_ 0 (.int .i64 0)
          have c2 := k2.cell
          exact leave_none (v := .tuple #[.int .i64 0, .int .i64 0, .int .i64 2]) (by simp [results, Tryz.results21, go_sem, c2]) ⟨by rw [hE1.out], by rw [hs]; exact hb1.setCell (p := ⟨s + 1, 0, none⟩) (by simp) _⟩
        · have b2' : decide (65536 < a) = false := by simpa using b2
          by_cases b3 : m < 1
          · have b3' : decide (m < 1) = true := by simpa using b3
            refine calls_of_marks Tryz.func21 rfl ?_
            simp only [Tryz.ntmps21, List.size_toArray, List.length_cons, List.length_nil, Nat.reduceAdd, Nat.reduceSub, Array.replicate_succ, Array.replicate_zero, List.push_toArray, List.append_toArray, List.nil_append, List.cons_append]
            go_upto_region 1 with fail
            try simp only [Nat.add_assoc, Nat.reduceAdd]
            rw [hW1.out]
            go_wp2_with (go_at_call 44; refine (HC.out _).mono ?_; rintro e w1 ⟨rfl, hq⟩; have kO1 := kQ.call hq; have cO1 := kO1.cell; have fO1 := kO1.frozen; have hb1 := hb0.trans (hq.mono (by have := hb0.size; omega)))
            have k2 := kO1.set_ 0 (.int .i64 0)
            have c2 := k2.cell
            exact leave_none (v := .tuple #[.int .i64 0, .int .i64 0, .int .i64 2]) (by simp [results, Tryz.results21, go_sem, c2]) ⟨by rw [hE1.out], by rw [hs]; exact hb1.setCell (p := ⟨s + 1, 0, none⟩) (by simp) _⟩
          · have b3' : decide (m < 1) = false := by simpa using b3
            have b4 : 65536 - a < m := by unfold badHit at hbad; omega
            have b4' : decide (65536 - a < m) = true := by simpa using b4
            refine calls_of_marks Tryz.func21 rfl ?_
            simp only [Tryz.ntmps21, List.size_toArray, List.length_cons, List.length_nil, Nat.reduceAdd, Nat.reduceSub, Array.replicate_succ, Array.replicate_zero, List.push_toArray, List.append_toArray, List.nil_append, List.cons_append]
            go_upto_region 1 with fail
            try simp only [Nat.add_assoc, Nat.reduceAdd]
            rw [hW1.out]
            go_wp2_with (go_at_call 44; refine (HC.out _).mono ?_; rintro e w1 ⟨rfl, hq⟩; have kO1 := kQ.call hq; have cO1 := kO1.cell; have fO1 := kO1.frozen; have hb1 := hb0.trans (hq.mono (by have := hb0.size; omega)))
            have k2 := kO1.set_ 0 (.int .i64 0)
            have c2 := k2.cell
            exact leave_none (v := .tuple #[.int .i64 0, .int .i64 0, .int .i64 2]) (by simp [results, Tryz.results21, go_sem, c2]) ⟨by rw [hE1.out], by rw [hs]; exact hb1.setCell (p := ⟨s + 1, 0, none⟩) (by simp) _⟩
    · have hHR0 : R = if (a + m - 1) / 64 < skipF (a / 64) (runsL pg n f b ev) then (0, -1, 0) else (hitK pg n f b (skipF (a / 64) (runsL pg n f b ev)), skipF (a / 64) (runsL pg n f b ev), 0) := by rw [← HR1.out, hitF, if_pos hc, if_neg hbad]
      unfold badHit at hbad
      have b1 : 0 ≤ a := by omega
      have b2 : a ≤ 65536 := by omega
      have b3 : 1 ≤ m := by omega
      have b4 : m ≤ 65536 - a := by omega
      have b1' : decide (a < 0) = false := by simpa using b1
      have b2' : decide (65536 < a) = false := by simpa using b2
      have b3' : decide (m < 1) = false := by simp; omega
      have b4' : decide (65536 - a < m) = false := by simpa using b4
      have hd1 : Int.tdiv a 64 = a / 64 := Int.tdiv_eq_ediv_of_nonneg b1
      have hd2 : Int.tdiv (a + m - 1) 64 = (a + m - 1) / 64 := Int.tdiv_eq_ediv_of_nonneg (by omega)
      have hpa : 0 ≤ a / 64 ∧ a / 64 ≤ 1024 := by omega
      have hla : 0 ≤ (a + m - 1) / 64 ∧ (a + m - 1) / 64 ≤ 1024 := by omega
      clear hc HR1 hbad
      generalize runsL pg n f b ev = L at *
      have cP := kP.cell
      refine calls_of_marks Tryz.func21 rfl ?_
      simp only [Tryz.ntmps21, List.size_toArray, List.length_cons, List.length_nil, Nat.reduceAdd, Nat.reduceSub, Array.replicate_succ, Array.replicate_zero, List.push_toArray, List.append_toArray, List.nil_append, List.cons_append]
      go_upto_region 1 with fail
      try simp only [Nat.add_assoc, Nat.reduceAdd]
      rw [hW1.out]
      go_wp2_with (first
        | (go_at_call 44; refine (HC.out _).mono ?_; rintro e wc ⟨rfl, hq⟩; have kP1 := kP.call hq; have kQ1 := kQ.call hq; have cP1 := kP1.cell; have cQ1 := kQ1.cell; have fQ1 := kQ1.frozen; have hb1 := hb0.trans (hq.mono (by have := hb0.size; omega)))
        | (go_at_call 46; refine (HR.out _).mono ?_; rintro e w2 ⟨rfl, rfl⟩))
      have hf1 : Far (fun k => k = s + 1) wc (wc.setCell ⟨s + 1, 0, none⟩ (.int .i64 (a / 64))) := Far.setCell (T := fun k => k = s + 1) (p := ⟨s + 1, 0, none⟩) (Far.refl _ _) (fun _ => rfl) _
      have kQ2 : Blk (wc.setCell ⟨s + 1, 0, none⟩ (.int .i64 (a / 64))) (s + 1) 3 #[.int .i64 (a / 64)] := kQ1.set_ 0 _
      have kP2 := hf1.blk kP1 (by omega)
      have hb2 := hb1.trans (hf1.below (by have := hb1.size; omega) (fun k hk => by omega))
      have hsc : (wc.setCell ⟨s + 1, 0, none⟩ (.int .i64 (a / 64))).heap.size = wc.heap.size := by simp [World.setCell]
      rw [← hsc]
      generalize wc.setCell ⟨s + 1, 0, none⟩ (.int .i64 (a / 64)) = w1 at *
      replace hb1 := hb2
      clear hf1 hb2 hsc kQ1 kP1 cP1 cQ1 fQ1 kP kQ cP hb0
      obtain ⟨W0, hW0⟩ : ∃ W0, w1.alloc (.cells (planC pg n f b ev) 31) = W0 := ⟨_, rfl⟩
      have hs0 : W0.heap.size = w1.heap.size + 1 := by rw [← hW0]; simp
      have hB0 : Below s w W0 := by rw [← hW0]; exact hb1.alloc (by have := hb1.size; omega) _
      have hF0 : Far (fun _ => False) w1 W0 := by rw [← hW0]; exact (Far.refl _ _).alloc _
      have hseq := HSQ.out w1
      rw [hW0] at hseq ⊢
      clear hW0
      have kQ0 := hF0.blk kQ2 id
      have kP0 := hF0.blk kP2 id
      have ls1 := kQ2.lt
      have hszw := hb1.size
      obtain ⟨pa, hpa0⟩ : ∃ pa, a / 64 = pa := ⟨_, rfl⟩
      obtain ⟨la, hla0⟩ : ∃ la, (a + m - 1) / 64 = la := ⟨_, rfl⟩
      rw [hpa0] at kQ0 hpa hHR0 ⊢
      rw [hla0] at hla hHR0 ⊢
      have hHR := Lib.hid hHR0
      have hsk := skipF_bound L pa hvl hpa
      clear hHR0 hd1 hd2 hpa0 hla0 kQ2
      refine rangeFB 11 44 64 (gf := 68) (lb := #[.pointer (some ⟨w1.heap.size, 0, none⟩)]) rfl runs_enters hseq rfl (fun _ h => h.elim) (fun k h => by omega)
        (fun pre W => Blk W (s + 1) 3 #[.int .i64 pa] ∧ Blk W s 31 (planC pg n f b ev) ∧ Below s w W ∧ Hid (∀ rest, L = pre ++ rest → skipF pa L = skipF pa rest))
        (fun c pre W => c = .exit 0 ∧ Blk W (s + 1) 3 #[.int .i64 (skipF pa L)] ∧ Blk W s 31 (planC pg n f b ev) ∧ Below s w W)
        (fun pre A B h hf => ⟨hf.blk h.1 (by rintro (h | h | h) <;> omega), hf.blk h.2.1 (by rintro (h | h | h) <;> omega), h.2.2.1.trans (hf.below (Nat.le_trans (by omega) h.2.2.1.size) (fun k hk => by rintro (h | h | h) <;> omega)), h.2.2.2⟩)
        (fun c pre A B h hf => ⟨h.1, hf.blk h.2.1 (by rintro (h | h | h) <;> omega), hf.blk h.2.2.1 (by rintro (h | h | h) <;> omega), h.2.2.2.trans (hf.below (Nat.le_trans (by omega) h.2.2.2.size) (fun k hk => by rintro (h | h | h) <;> omega))⟩)
        ⟨kQ0, kP0, hB0, Lib.hid (fun rest h => by rw [h]; rfl)⟩ ?assign ?body ?done ?stop
      case assign =>
        intro m l x W C hC
        simp only [List.setIfInBounds_toArray, List.set_cons_succ, List.set_cons_zero] at hC ⊢
        gi_wp2
        exact hC
      case body =>
        rintro mm l pre x Bx Wa W hsz ⟨kQ, kP, hB, hH⟩ hpre hBx kx _ _ _
        simp only [List.setIfInBounds_toArray, List.set_cons_succ, List.set_cons_zero]
        have hvx := vld_iff.1 (hvl x (prefix_mem hpre (by simp)))
        obtain ⟨rest, hrest⟩ := prefix_cons hpre
        have hN := Lib.hid (hH.out _ hrest)
        have hL1 := Lib.hid hrest
        clear hrest hpre hH
        obtain ⟨xa, xb⟩ := x
        dsimp only at kx hvx
        have cx := kx.cell
        have cQ := kQ.cell
        have fQ := kQ.frozen
        by_cases h1 : xa ≤ pa
        · have h1' : decide (xa ≤ pa) = true := by simpa using h1
          by_cases h2 : pa < xa + xb
          · have h2' : decide (pa < xa + xb) = true := by simpa using h2
            have hE : Hid (skipF pa L = xa + xb) := Lib.hid (by rw [hN.out, skipF, if_pos ⟨h1, h2⟩])
            clear h1 h2
            gi_wp2_with fail
            have hf4 : Far (fun k => k = s + 1) W (W.setCell ⟨s + 1, 0, none⟩ (.int .i64 (xa + xb))) := Far.setCell (T := fun k => k = s + 1) (p := ⟨s + 1, 0, none⟩) (Far.refl _ _) (fun _ => rfl) _
            exact ⟨hf4.mono fun k _ h => by omega, rfl, by rw [hE.out]; exact kQ.set_ 0 _, hf4.blk kP (by omega), hB.trans (hf4.below (by have := hB.size; omega) (fun k hk => by omega))⟩
          · have h2' : decide (pa < xa + xb) = false := by simpa using h2
            have hN2 := Lib.hid (skipF_step hN.out (fun h => h2 h.2))
            gi_wp2_with fail
            exact ⟨Far.refl _ _, kQ, kP, hB, Lib.hid (fun rest2 h => by
              have hr2 : rest2 = rest := by rw [hL1.out] at h; simpa using h.symm
              rw [hr2]; exact hN2.out)⟩
        · have h1' : decide (xa ≤ pa) = false := by simpa using h1
          have hN2 := Lib.hid (skipF_step hN.out (fun h => h1 h.1))
          gi_wp2_with fail
          exact ⟨Far.refl _ _, kQ, kP, hB, Lib.hid (fun rest2 h => by
            have hr2 : rest2 = rest := by rw [hL1.out] at h; simpa using h.symm
            rw [hr2]; exact hN2.out)⟩
      case done =>
        rintro W hsz ⟨kQ, kP, hB, hH⟩ hd
        have hq0 : skipF pa L = pa := by rw [hH.out [] (by simp)]; rfl
        obtain ⟨q, hq⟩ : ∃ q, skipF pa L = q := ⟨_, rfl⟩
        rw [← hq0, hq] at kQ
        rw [hq] at hHR hsk
        clear hq hq0 hH
        have g1 := hp.pg0
        have g2 := hp.pg1
        have g3 := hp.n0
        have g4 := hp.n1
        have g5 := hp.f0
        have g6 := hp.f1
        have g7 := hp.b0
        have g8 := hp.b1
        have cQ := kQ.cell
        have fQ := kQ.frozen
        have cP := kP.cell
        rw [hs0] at hd hsz
        by_cases hgt : la < q
        · have hgt' : decide (la < q) = true := by simpa using hgt
          have hE : Hid (R = (0, -1, 0)) := Lib.hid (by rw [hHR.out, if_pos hgt])
          go_wp2_with fail
          have hf5 : Far (fun k => k = s + 1) W (W.setCell ⟨s + 1, 0, none⟩ (.int .i64 (-1))) := Far.setCell (T := fun k => k = s + 1) (p := ⟨s + 1, 0, none⟩) (Far.refl _ _) (fun _ => rfl) _
          have kQ5 : Blk (W.setCell ⟨s + 1, 0, none⟩ (.int .i64 (-1))) (s + 1) 3 #[.int .i64 (-1)] := kQ.set_ 0 _
          have hd5 := hf5.same hd (by omega)
          have hB5 := hB.trans (hf5.below (by have := hB.size; omega) (fun k hk => by omega))
          generalize W.setCell ⟨s + 1, 0, none⟩ (.int .i64 (-1)) = w5 at *
          rw [hs0]
          have hfp : Far (fun k => k = w1.heap.size + 1) w5 (w5.putObj (w1.heap.size + 1) (.deferred none)) := Far.putObj (T := fun k => k = w1.heap.size + 1) (Far.refl _ _) (fun _ => rfl) _
          have c6 := (hfp.blk kQ5 (by omega)).cell
          exact leave_mark (v := .tuple #[.int .i64 0, .int .i64 (-1), .int .i64 0]) hd5 (by simp [results, Tryz.results21, go_sem, c6]) ⟨by rw [hE.out], (by rw [hs]; exact (hB5).trans (hfp.below (by have := (hB5).size; omega) (fun k hk => by omega)))⟩
        · have hgt' : decide (la < q) = false := by simpa using hgt
          have hE2 : Hid (R = (hitK pg n f b q, q, 0)) := Lib.hid (by rw [hHR.out, if_neg hgt])
          rw [hs0]
          by_cases d1 : q < pg
          · have d1' : decide (q < pg) = true := by simpa using d1
            have hE : Hid (R = (4, q, 0)) := Lib.hid (by rw [hE2.out, hitK, if_pos (.inl d1)])
            clear d1
            go_wp2_with (go_at_call 47; refine (HIN.out _).mono ?_; rintro e w3 ⟨rfl, hq3⟩; have kQ3 := kQ.call hq3; have kP3 := kP.call hq3; have cQ3 := kQ3.cell; have fQ3 := kQ3.frozen; have cP3 := kP3.cell; have hd3 := (Far.of_below (T := fun _ => False) hq3).same hd id; have hB3 := hB.trans (hq3.mono (by have := hB.size; omega)))
            have ez := fun z : Ext w3 => (z.blk kQ3).cell
            go_upto_region 15 with fail
            refine region_ext_tail 2 (by kernel_rfl) (by kernel_rfl) ?_
            simp only [List.take_succ_cons, List.take_zero, List.drop_succ_cons, List.drop_zero]
            repeat (go_big_quiet_step (fail))
            refine wpQuiet_nil ?_
            intro x
            have kQx := x.blk kQ3
            have cQx := kQx.cell
            have fQx := kQx.frozen
            go_wp2_with fail
            have hf5 : Far (fun k => k = s + 1) w3 (x.w.setCell ⟨s + 1, 0, none⟩ (.int .i64 q)) := Far.setCell (T := fun k => k = s + 1) (p := ⟨s + 1, 0, none⟩) (.of_below x.le) (fun _ => rfl) _
            have kQ5 : Blk (x.w.setCell ⟨s + 1, 0, none⟩ (.int .i64 q)) (s + 1) 3 #[.int .i64 q] := kQx.set_ 0 _
            have hd5 := hf5.same hd3 (by omega)
            have hB5 := hB3.trans (hf5.below (by have := hB3.size; omega) (fun k hk => by omega))
            generalize x.w.setCell ⟨s + 1, 0, none⟩ (.int .i64 q) = w5 at *
            have hfp : Far (fun k => k = w1.heap.size + 1) w5 (w5.putObj (w1.heap.size + 1) (.deferred none)) := Far.putObj (T := fun k => k = w1.heap.size + 1) (Far.refl _ _) (fun _ => rfl) _
            have c6 := (hfp.blk kQ5 (by omega)).cell
            exact leave_mark (v := .tuple #[.int .i64 4, .int .i64 q, .int .i64 0]) hd5 (by simp [results, Tryz.results21, go_sem, c6]) ⟨by rw [hE.out], (by rw [hs]; exact (hB5).trans (hfp.below (by have := (hB5).size; omega) (fun k hk => by omega)))⟩
          · have d1' : decide (q < pg) = false := by simpa using d1
            by_cases d2 : pg + n ≤ q
            · have d2' : decide (pg + n ≤ q) = true := by simpa using d2
              have hE : Hid (R = (4, q, 0)) := Lib.hid (by rw [hE2.out, hitK, if_pos (.inr d2)])
              clear d1 d2
              go_wp2_with (go_at_call 47; refine (HIN.out _).mono ?_; rintro e w3 ⟨rfl, hq3⟩; have kQ3 := kQ.call hq3; have kP3 := kP.call hq3; have cQ3 := kQ3.cell; have fQ3 := kQ3.frozen; have cP3 := kP3.cell; have hd3 := (Far.of_below (T := fun _ => False) hq3).same hd id; have hB3 := hB.trans (hq3.mono (by have := hB.size; omega)))
              have ez := fun z : Ext w3 => (z.blk kQ3).cell
              go_upto_region 15 with fail
              refine region_ext_tail 2 (by kernel_rfl) (by kernel_rfl) ?_
              simp only [List.take_succ_cons, List.take_zero, List.drop_succ_cons, List.drop_zero]
              repeat (go_big_quiet_step (fail))
              refine wpQuiet_nil ?_
              intro x
              have kQx := x.blk kQ3
              have cQx := kQx.cell
              have fQx := kQx.frozen
              go_wp2_with fail
              have hf5 : Far (fun k => k = s + 1) w3 (x.w.setCell ⟨s + 1, 0, none⟩ (.int .i64 q)) := Far.setCell (T := fun k => k = s + 1) (p := ⟨s + 1, 0, none⟩) (.of_below x.le) (fun _ => rfl) _
              have kQ5 : Blk (x.w.setCell ⟨s + 1, 0, none⟩ (.int .i64 q)) (s + 1) 3 #[.int .i64 q] := kQx.set_ 0 _
              have hd5 := hf5.same hd3 (by omega)
              have hB5 := hB3.trans (hf5.below (by have := hB3.size; omega) (fun k hk => by omega))
              generalize x.w.setCell ⟨s + 1, 0, none⟩ (.int .i64 q) = w5 at *
              have hfp : Far (fun k => k = w1.heap.size + 1) w5 (w5.putObj (w1.heap.size + 1) (.deferred none)) := Far.putObj (T := fun k => k = w1.heap.size + 1) (Far.refl _ _) (fun _ => rfl) _
              have c6 := (hfp.blk kQ5 (by omega)).cell
              exact leave_mark (v := .tuple #[.int .i64 4, .int .i64 q, .int .i64 0]) hd5 (by simp [results, Tryz.results21, go_sem, c6]) ⟨by rw [hE.out], (by rw [hs]; exact (hB5).trans (hfp.below (by have := (hB5).size; omega) (fun k hk => by omega)))⟩
            · have d2' : decide (pg + n ≤ q) = false := by simpa using d2
              by_cases d3 : q < pg + f
              · have d3' : decide (q < pg + f) = true := by simpa using d3
                have hE : Hid (R = (1, q, 0)) := Lib.hid (by rw [hE2.out, hitK, if_neg (by omega), if_pos d3])
                clear d1 d2 d3
                go_wp2_with (go_at_call 47; refine (HIN.out _).mono ?_; rintro e w3 ⟨rfl, hq3⟩; have kQ3 := kQ.call hq3; have kP3 := kP.call hq3; have cQ3 := kQ3.cell; have fQ3 := kQ3.frozen; have cP3 := kP3.cell; have hd3 := (Far.of_below (T := fun _ => False) hq3).same hd id; have hB3 := hB.trans (hq3.mono (by have := hB.size; omega)))
                have ez := fun z : Ext w3 => (z.blk kQ3).cell
                go_upto_region 17 with fail
                refine region_ext_tail 2 (by kernel_rfl) (by kernel_rfl) ?_
                simp only [List.take_succ_cons, List.take_zero, List.drop_succ_cons, List.drop_zero]
                repeat (go_big_quiet_step (fail))
                refine wpQuiet_nil ?_
                intro x
                have kQx := x.blk kQ3
                have cQx := kQx.cell
                have fQx := kQx.frozen
                go_wp2_with fail
                have hf5 : Far (fun k => k = s + 1) w3 (x.w.setCell ⟨s + 1, 0, none⟩ (.int .i64 q)) := Far.setCell (T := fun k => k = s + 1) (p := ⟨s + 1, 0, none⟩) (.of_below x.le) (fun _ => rfl) _
                have kQ5 : Blk (x.w.setCell ⟨s + 1, 0, none⟩ (.int .i64 q)) (s + 1) 3 #[.int .i64 q] := kQx.set_ 0 _
                have hd5 := hf5.same hd3 (by omega)
                have hB5 := hB3.trans (hf5.below (by have := hB3.size; omega) (fun k hk => by omega))
                generalize x.w.setCell ⟨s + 1, 0, none⟩ (.int .i64 q) = w5 at *
                have hfp : Far (fun k => k = w1.heap.size + 1) w5 (w5.putObj (w1.heap.size + 1) (.deferred none)) := Far.putObj (T := fun k => k = w1.heap.size + 1) (Far.refl _ _) (fun _ => rfl) _
                have c6 := (hfp.blk kQ5 (by omega)).cell
                exact leave_mark (v := .tuple #[.int .i64 1, .int .i64 q, .int .i64 0]) hd5 (by simp [results, Tryz.results21, go_sem, c6]) ⟨by rw [hE.out], (by rw [hs]; exact (hB5).trans (hfp.below (by have := (hB5).size; omega) (fun k hk => by omega)))⟩
              · have d3' : decide (q < pg + f) = false := by simpa using d3
                by_cases d4 : pg + n - b ≤ q
                · have d4' : decide (pg + n - b ≤ q) = true := by simpa using d4
                  have hE : Hid (R = (2, q, 0)) := Lib.hid (by rw [hE2.out, hitK, if_neg (by omega), if_neg d3, if_pos d4])
                  clear d1 d2 d3 d4
                  go_wp2_with (go_at_call 47; refine (HIN.out _).mono ?_; rintro e w3 ⟨rfl, hq3⟩; have kQ3 := kQ.call hq3; have kP3 := kP.call hq3; have cQ3 := kQ3.cell; have fQ3 := kQ3.frozen; have cP3 := kP3.cell; have hd3 := (Far.of_below (T := fun _ => False) hq3).same hd id; have hB3 := hB.trans (hq3.mono (by have := hB.size; omega)))
                  have ez := fun z : Ext w3 => (z.blk kQ3).cell
                  go_upto_region 19 with fail
                  refine region_ext_tail 2 (by kernel_rfl) (by kernel_rfl) ?_
                  simp only [List.take_succ_cons, List.take_zero, List.drop_succ_cons, List.drop_zero]
                  repeat (go_big_quiet_step (fail))
                  refine wpQuiet_nil ?_
                  intro x
                  have kQx := x.blk kQ3
                  have cQx := kQx.cell
                  have fQx := kQx.frozen
                  go_wp2_with fail
                  have hf5 : Far (fun k => k = s + 1) w3 (x.w.setCell ⟨s + 1, 0, none⟩ (.int .i64 q)) := Far.setCell (T := fun k => k = s + 1) (p := ⟨s + 1, 0, none⟩) (.of_below x.le) (fun _ => rfl) _
                  have kQ5 : Blk (x.w.setCell ⟨s + 1, 0, none⟩ (.int .i64 q)) (s + 1) 3 #[.int .i64 q] := kQx.set_ 0 _
                  have hd5 := hf5.same hd3 (by omega)
                  have hB5 := hB3.trans (hf5.below (by have := hB3.size; omega) (fun k hk => by omega))
                  generalize x.w.setCell ⟨s + 1, 0, none⟩ (.int .i64 q) = w5 at *
                  have hfp : Far (fun k => k = w1.heap.size + 1) w5 (w5.putObj (w1.heap.size + 1) (.deferred none)) := Far.putObj (T := fun k => k = w1.heap.size + 1) (Far.refl _ _) (fun _ => rfl) _
                  have c6 := (hfp.blk kQ5 (by omega)).cell
                  exact leave_mark (v := .tuple #[.int .i64 2, .int .i64 q, .int .i64 0]) hd5 (by simp [results, Tryz.results21, go_sem, c6]) ⟨by rw [hE.out], (by rw [hs]; exact (hB5).trans (hfp.below (by have := (hB5).size; omega) (fun k hk => by omega)))⟩
                · have d4' : decide (pg + n - b ≤ q) = false := by simpa using d4
                  have hE : Hid (R = (3, q, 0)) := Lib.hid (by rw [hE2.out, hitK, if_neg (by omega), if_neg d3, if_neg d4])
                  clear d1 d2 d3 d4
                  go_wp2_with (go_at_call 47; refine (HIN.out _).mono ?_; rintro e w3 ⟨rfl, hq3⟩; have kQ3 := kQ.call hq3; have kP3 := kP.call hq3; have cQ3 := kQ3.cell; have fQ3 := kQ3.frozen; have cP3 := kP3.cell; have hd3 := (Far.of_below (T := fun _ => False) hq3).same hd id; have hB3 := hB.trans (hq3.mono (by have := hB.size; omega)))
                  have ez := fun z : Ext w3 => (z.blk kQ3).cell
                  go_upto_region 20 with fail
                  refine region_ext_tail 2 (by kernel_rfl) (by kernel_rfl) ?_
                  simp only [List.take_succ_cons, List.take_zero, List.drop_succ_cons, List.drop_zero]
                  repeat (go_big_quiet_step (fail))
                  refine wpQuiet_nil ?_
                  intro x
                  have kQx := x.blk kQ3
                  have cQx := kQx.cell
                  have fQx := kQx.frozen
                  go_wp2_with fail
                  have hf5 : Far (fun k => k = s + 1) w3 (x.w.setCell ⟨s + 1, 0, none⟩ (.int .i64 q)) := Far.setCell (T := fun k => k = s + 1) (p := ⟨s + 1, 0, none⟩) (.of_below x.le) (fun _ => rfl) _
                  have kQ5 : Blk (x.w.setCell ⟨s + 1, 0, none⟩ (.int .i64 q)) (s + 1) 3 #[.int .i64 q] := kQx.set_ 0 _
                  have hd5 := hf5.same hd3 (by omega)
                  have hB5 := hB3.trans (hf5.below (by have := hB3.size; omega) (fun k hk => by omega))
                  generalize x.w.setCell ⟨s + 1, 0, none⟩ (.int .i64 q) = w5 at *
                  have hfp : Far (fun k => k = w1.heap.size + 1) w5 (w5.putObj (w1.heap.size + 1) (.deferred none)) := Far.putObj (T := fun k => k = w1.heap.size + 1) (Far.refl _ _) (fun _ => rfl) _
                  have c6 := (hfp.blk kQ5 (by omega)).cell
                  exact leave_mark (v := .tuple #[.int .i64 3, .int .i64 q, .int .i64 0]) hd5 (by simp [results, Tryz.results21, go_sem, c6]) ⟨by rw [hE.out], (by rw [hs]; exact (hB5).trans (hfp.below (by have := (hB5).size; omega) (fun k hk => by omega)))⟩
      case stop =>
        rintro c pre W hsz hpre ⟨rfl, kQ, kP, hB⟩ hd
        obtain ⟨q, hq⟩ : ∃ q, skipF pa L = q := ⟨_, rfl⟩
        rw [hq] at kQ hHR hsk
        clear hq
        have g1 := hp.pg0
        have g2 := hp.pg1
        have g3 := hp.n0
        have g4 := hp.n1
        have g5 := hp.f0
        have g6 := hp.f1
        have g7 := hp.b0
        have g8 := hp.b1
        have cQ := kQ.cell
        have fQ := kQ.frozen
        have cP := kP.cell
        rw [hs0] at hd hsz
        by_cases hgt : la < q
        · have hgt' : decide (la < q) = true := by simpa using hgt
          have hE : Hid (R = (0, -1, 0)) := Lib.hid (by rw [hHR.out, if_pos hgt])
          go_wp2_with fail
          have hf5 : Far (fun k => k = s + 1) W (W.setCell ⟨s + 1, 0, none⟩ (.int .i64 (-1))) := Far.setCell (T := fun k => k = s + 1) (p := ⟨s + 1, 0, none⟩) (Far.refl _ _) (fun _ => rfl) _
          have kQ5 : Blk (W.setCell ⟨s + 1, 0, none⟩ (.int .i64 (-1))) (s + 1) 3 #[.int .i64 (-1)] := kQ.set_ 0 _
          have hd5 := hf5.same hd (by omega)
          have hB5 := hB.trans (hf5.below (by have := hB.size; omega) (fun k hk => by omega))
          generalize W.setCell ⟨s + 1, 0, none⟩ (.int .i64 (-1)) = w5 at *
          rw [hs0]
          have hfp : Far (fun k => k = w1.heap.size + 1) w5 (w5.putObj (w1.heap.size + 1) (.deferred none)) := Far.putObj (T := fun k => k = w1.heap.size + 1) (Far.refl _ _) (fun _ => rfl) _
          have c6 := (hfp.blk kQ5 (by omega)).cell
          exact leave_mark (v := .tuple #[.int .i64 0, .int .i64 (-1), .int .i64 0]) hd5 (by simp [results, Tryz.results21, go_sem, c6]) ⟨by rw [hE.out], (by rw [hs]; exact (hB5).trans (hfp.below (by have := (hB5).size; omega) (fun k hk => by omega)))⟩
        · have hgt' : decide (la < q) = false := by simpa using hgt
          have hE2 : Hid (R = (hitK pg n f b q, q, 0)) := Lib.hid (by rw [hHR.out, if_neg hgt])
          rw [hs0]
          by_cases d1 : q < pg
          · have d1' : decide (q < pg) = true := by simpa using d1
            have hE : Hid (R = (4, q, 0)) := Lib.hid (by rw [hE2.out, hitK, if_pos (.inl d1)])
            clear d1
            go_wp2_with (go_at_call 47; refine (HIN.out _).mono ?_; rintro e w3 ⟨rfl, hq3⟩; have kQ3 := kQ.call hq3; have kP3 := kP.call hq3; have cQ3 := kQ3.cell; have fQ3 := kQ3.frozen; have cP3 := kP3.cell; have hd3 := (Far.of_below (T := fun _ => False) hq3).same hd id; have hB3 := hB.trans (hq3.mono (by have := hB.size; omega)))
            have ez := fun z : Ext w3 => (z.blk kQ3).cell
            go_upto_region 15 with fail
            refine region_ext_tail 2 (by kernel_rfl) (by kernel_rfl) ?_
            simp only [List.take_succ_cons, List.take_zero, List.drop_succ_cons, List.drop_zero]
            repeat (go_big_quiet_step (fail))
            refine wpQuiet_nil ?_
            intro x
            have kQx := x.blk kQ3
            have cQx := kQx.cell
            have fQx := kQx.frozen
            go_wp2_with fail
            have hf5 : Far (fun k => k = s + 1) w3 (x.w.setCell ⟨s + 1, 0, none⟩ (.int .i64 q)) := Far.setCell (T := fun k => k = s + 1) (p := ⟨s + 1, 0, none⟩) (.of_below x.le) (fun _ => rfl) _
            have kQ5 : Blk (x.w.setCell ⟨s + 1, 0, none⟩ (.int .i64 q)) (s + 1) 3 #[.int .i64 q] := kQx.set_ 0 _
            have hd5 := hf5.same hd3 (by omega)
            have hB5 := hB3.trans (hf5.below (by have := hB3.size; omega) (fun k hk => by omega))
            generalize x.w.setCell ⟨s + 1, 0, none⟩ (.int .i64 q) = w5 at *
            have hfp : Far (fun k => k = w1.heap.size + 1) w5 (w5.putObj (w1.heap.size + 1) (.deferred none)) := Far.putObj (T := fun k => k = w1.heap.size + 1) (Far.refl _ _) (fun _ => rfl) _
            have c6 := (hfp.blk kQ5 (by omega)).cell
            exact leave_mark (v := .tuple #[.int .i64 4, .int .i64 q, .int .i64 0]) hd5 (by simp [results, Tryz.results21, go_sem, c6]) ⟨by rw [hE.out], (by rw [hs]; exact (hB5).trans (hfp.below (by have := (hB5).size; omega) (fun k hk => by omega)))⟩
          · have d1' : decide (q < pg) = false := by simpa using d1
            by_cases d2 : pg + n ≤ q
            · have d2' : decide (pg + n ≤ q) = true := by simpa using d2
              have hE : Hid (R = (4, q, 0)) := Lib.hid (by rw [hE2.out, hitK, if_pos (.inr d2)])
              clear d1 d2
              go_wp2_with (go_at_call 47; refine (HIN.out _).mono ?_; rintro e w3 ⟨rfl, hq3⟩; have kQ3 := kQ.call hq3; have kP3 := kP.call hq3; have cQ3 := kQ3.cell; have fQ3 := kQ3.frozen; have cP3 := kP3.cell; have hd3 := (Far.of_below (T := fun _ => False) hq3).same hd id; have hB3 := hB.trans (hq3.mono (by have := hB.size; omega)))
              have ez := fun z : Ext w3 => (z.blk kQ3).cell
              go_upto_region 15 with fail
              refine region_ext_tail 2 (by kernel_rfl) (by kernel_rfl) ?_
              simp only [List.take_succ_cons, List.take_zero, List.drop_succ_cons, List.drop_zero]
              repeat (go_big_quiet_step (fail))
              refine wpQuiet_nil ?_
              intro x
              have kQx := x.blk kQ3
              have cQx := kQx.cell
              have fQx := kQx.frozen
              go_wp2_with fail
              have hf5 : Far (fun k => k = s + 1) w3 (x.w.setCell ⟨s + 1, 0, none⟩ (.int .i64 q)) := Far.setCell (T := fun k => k = s + 1) (p := ⟨s + 1, 0, none⟩) (.of_below x.le) (fun _ => rfl) _
              have kQ5 : Blk (x.w.setCell ⟨s + 1, 0, none⟩ (.int .i64 q)) (s + 1) 3 #[.int .i64 q] := kQx.set_ 0 _
              have hd5 := hf5.same hd3 (by omega)
              have hB5 := hB3.trans (hf5.below (by have := hB3.size; omega) (fun k hk => by omega))
              generalize x.w.setCell ⟨s + 1, 0, none⟩ (.int .i64 q) = w5 at *
              have hfp : Far (fun k => k = w1.heap.size + 1) w5 (w5.putObj (w1.heap.size + 1) (.deferred none)) := Far.putObj (T := fun k => k = w1.heap.size + 1) (Far.refl _ _) (fun _ => rfl) _
              have c6 := (hfp.blk kQ5 (by omega)).cell
              exact leave_mark (v := .tuple #[.int .i64 4, .int .i64 q, .int .i64 0]) hd5 (by simp [results, Tryz.results21, go_sem, c6]) ⟨by rw [hE.out], (by rw [hs]; exact (hB5).trans (hfp.below (by have := (hB5).size; omega) (fun k hk => by omega)))⟩
            · have d2' : decide (pg + n ≤ q) = false := by simpa using d2
              by_cases d3 : q < pg + f
              · have d3' : decide (q < pg + f) = true := by simpa using d3
                have hE : Hid (R = (1, q, 0)) := Lib.hid (by rw [hE2.out, hitK, if_neg (by omega), if_pos d3])
                clear d1 d2 d3
                go_wp2_with (go_at_call 47; refine (HIN.out _).mono ?_; rintro e w3 ⟨rfl, hq3⟩; have kQ3 := kQ.call hq3; have kP3 := kP.call hq3; have cQ3 := kQ3.cell; have fQ3 := kQ3.frozen; have cP3 := kP3.cell; have hd3 := (Far.of_below (T := fun _ => False) hq3).same hd id; have hB3 := hB.trans (hq3.mono (by have := hB.size; omega)))
                have ez := fun z : Ext w3 => (z.blk kQ3).cell
                go_upto_region 17 with fail
                refine region_ext_tail 2 (by kernel_rfl) (by kernel_rfl) ?_
                simp only [List.take_succ_cons, List.take_zero, List.drop_succ_cons, List.drop_zero]
                repeat (go_big_quiet_step (fail))
                refine wpQuiet_nil ?_
                intro x
                have kQx := x.blk kQ3
                have cQx := kQx.cell
                have fQx := kQx.frozen
                go_wp2_with fail
                have hf5 : Far (fun k => k = s + 1) w3 (x.w.setCell ⟨s + 1, 0, none⟩ (.int .i64 q)) := Far.setCell (T := fun k => k = s + 1) (p := ⟨s + 1, 0, none⟩) (.of_below x.le) (fun _ => rfl) _
                have kQ5 : Blk (x.w.setCell ⟨s + 1, 0, none⟩ (.int .i64 q)) (s + 1) 3 #[.int .i64 q] := kQx.set_ 0 _
                have hd5 := hf5.same hd3 (by omega)
                have hB5 := hB3.trans (hf5.below (by have := hB3.size; omega) (fun k hk => by omega))
                generalize x.w.setCell ⟨s + 1, 0, none⟩ (.int .i64 q) = w5 at *
                have hfp : Far (fun k => k = w1.heap.size + 1) w5 (w5.putObj (w1.heap.size + 1) (.deferred none)) := Far.putObj (T := fun k => k = w1.heap.size + 1) (Far.refl _ _) (fun _ => rfl) _
                have c6 := (hfp.blk kQ5 (by omega)).cell
                exact leave_mark (v := .tuple #[.int .i64 1, .int .i64 q, .int .i64 0]) hd5 (by simp [results, Tryz.results21, go_sem, c6]) ⟨by rw [hE.out], (by rw [hs]; exact (hB5).trans (hfp.below (by have := (hB5).size; omega) (fun k hk => by omega)))⟩
              · have d3' : decide (q < pg + f) = false := by simpa using d3
                by_cases d4 : pg + n - b ≤ q
                · have d4' : decide (pg + n - b ≤ q) = true := by simpa using d4
                  have hE : Hid (R = (2, q, 0)) := Lib.hid (by rw [hE2.out, hitK, if_neg (by omega), if_neg d3, if_pos d4])
                  clear d1 d2 d3 d4
                  go_wp2_with (go_at_call 47; refine (HIN.out _).mono ?_; rintro e w3 ⟨rfl, hq3⟩; have kQ3 := kQ.call hq3; have kP3 := kP.call hq3; have cQ3 := kQ3.cell; have fQ3 := kQ3.frozen; have cP3 := kP3.cell; have hd3 := (Far.of_below (T := fun _ => False) hq3).same hd id; have hB3 := hB.trans (hq3.mono (by have := hB.size; omega)))
                  have ez := fun z : Ext w3 => (z.blk kQ3).cell
                  go_upto_region 19 with fail
                  refine region_ext_tail 2 (by kernel_rfl) (by kernel_rfl) ?_
                  simp only [List.take_succ_cons, List.take_zero, List.drop_succ_cons, List.drop_zero]
                  repeat (go_big_quiet_step (fail))
                  refine wpQuiet_nil ?_
                  intro x
                  have kQx := x.blk kQ3
                  have cQx := kQx.cell
                  have fQx := kQx.frozen
                  go_wp2_with fail
                  have hf5 : Far (fun k => k = s + 1) w3 (x.w.setCell ⟨s + 1, 0, none⟩ (.int .i64 q)) := Far.setCell (T := fun k => k = s + 1) (p := ⟨s + 1, 0, none⟩) (.of_below x.le) (fun _ => rfl) _
                  have kQ5 : Blk (x.w.setCell ⟨s + 1, 0, none⟩ (.int .i64 q)) (s + 1) 3 #[.int .i64 q] := kQx.set_ 0 _
                  have hd5 := hf5.same hd3 (by omega)
                  have hB5 := hB3.trans (hf5.below (by have := hB3.size; omega) (fun k hk => by omega))
                  generalize x.w.setCell ⟨s + 1, 0, none⟩ (.int .i64 q) = w5 at *
                  have hfp : Far (fun k => k = w1.heap.size + 1) w5 (w5.putObj (w1.heap.size + 1) (.deferred none)) := Far.putObj (T := fun k => k = w1.heap.size + 1) (Far.refl _ _) (fun _ => rfl) _
                  have c6 := (hfp.blk kQ5 (by omega)).cell
                  exact leave_mark (v := .tuple #[.int .i64 2, .int .i64 q, .int .i64 0]) hd5 (by simp [results, Tryz.results21, go_sem, c6]) ⟨by rw [hE.out], (by rw [hs]; exact (hB5).trans (hfp.below (by have := (hB5).size; omega) (fun k hk => by omega)))⟩
                · have d4' : decide (pg + n - b ≤ q) = false := by simpa using d4
                  have hE : Hid (R = (3, q, 0)) := Lib.hid (by rw [hE2.out, hitK, if_neg (by omega), if_neg d3, if_neg d4])
                  clear d1 d2 d3 d4
                  go_wp2_with (go_at_call 47; refine (HIN.out _).mono ?_; rintro e w3 ⟨rfl, hq3⟩; have kQ3 := kQ.call hq3; have kP3 := kP.call hq3; have cQ3 := kQ3.cell; have fQ3 := kQ3.frozen; have cP3 := kP3.cell; have hd3 := (Far.of_below (T := fun _ => False) hq3).same hd id; have hB3 := hB.trans (hq3.mono (by have := hB.size; omega)))
                  have ez := fun z : Ext w3 => (z.blk kQ3).cell
                  go_upto_region 20 with fail
                  refine region_ext_tail 2 (by kernel_rfl) (by kernel_rfl) ?_
                  simp only [List.take_succ_cons, List.take_zero, List.drop_succ_cons, List.drop_zero]
                  repeat (go_big_quiet_step (fail))
                  refine wpQuiet_nil ?_
                  intro x
                  have kQx := x.blk kQ3
                  have cQx := kQx.cell
                  have fQx := kQx.frozen
                  go_wp2_with fail
                  have hf5 : Far (fun k => k = s + 1) w3 (x.w.setCell ⟨s + 1, 0, none⟩ (.int .i64 q)) := Far.setCell (T := fun k => k = s + 1) (p := ⟨s + 1, 0, none⟩) (.of_below x.le) (fun _ => rfl) _
                  have kQ5 : Blk (x.w.setCell ⟨s + 1, 0, none⟩ (.int .i64 q)) (s + 1) 3 #[.int .i64 q] := kQx.set_ 0 _
                  have hd5 := hf5.same hd3 (by omega)
                  have hB5 := hB3.trans (hf5.below (by have := hB3.size; omega) (fun k hk => by omega))
                  generalize x.w.setCell ⟨s + 1, 0, none⟩ (.int .i64 q) = w5 at *
                  have hfp : Far (fun k => k = w1.heap.size + 1) w5 (w5.putObj (w1.heap.size + 1) (.deferred none)) := Far.putObj (T := fun k => k = w1.heap.size + 1) (Far.refl _ _) (fun _ => rfl) _
                  have c6 := (hfp.blk kQ5 (by omega)).cell
                  exact leave_mark (v := .tuple #[.int .i64 3, .int .i64 q, .int .i64 0]) hd5 (by simp [results, Tryz.results21, go_sem, c6]) ⟨by rw [hE.out], (by rw [hs]; exact (hB5).trans (hfp.below (by have := (hB5).size; omega) (fun k hk => by omega)))⟩
end Go.Proofs.YtdepkmpilipolaaGreat
namespace Go.Pol
def badLeast (u f b ev : Int) : Prop := u < 1 ∨ 1024 < u ∨ wrongG f b ev = true
instance badLeastDec (u f b ev : Int) : Decidable (badLeast u f b ev) := by unfold badLeast; infer_instance
def leastP (u f b ev : Int) : Int := u + f + b + (if 0 < ev then (u - 1) / ev else 0)
def leastF (u f b ev : Int) : Int × Int × Int :=
  if badLeast u f b ev then (0, 0, 7) else if 1024 < leastP u f b ev then (0, 0, 7) else (leastP u f b ev, (Lib.bitLen (leastP u f b ev - 1).toNat : Int), 0)
theorem tab_size : Lib.len8tab.size = 256 := by decide +kernel
theorem tab_fin : ∀ i : Fin 256, ((Lib.len8tab[i.val]?).map UInt8.toNat).getD 0 = Lib.bitLen i.val := by decide +kernel
theorem tab_get (i : Nat) (h : i < Lib.len8tab.size) : (Lib.len8tab[i]'h).toNat = Lib.bitLen i := by
  have h2 : i < 256 := by rw [← tab_size]; exact h
  have := tab_fin ⟨i, h2⟩
  simpa [getElem?_pos Lib.len8tab i h] using this
end Go.Pol
namespace Go.Proofs.YtdepkmpilipolaaGreat
open Go Go.Proofs Go.RowKit Go.Pol

set_option maxHeartbeats 4000000 in
set_option maxRecDepth 100000 in
theorem len64_any (x : Int) (w : World) (h0 : 0 ≤ x) (h1 : x ≤ 4000) :
    Calls Tryz.prog 70 #[.int .u64 x] w fun e w' => e = .returned (.int .i64 (Lib.bitLen x.toNat : Nat)) ∧ w = w' := by
  have q1 : decide (4294967296 ≤ x) = false := by simp; omega
  have q2 : decide (65536 ≤ x) = false := by simp; omega
  obtain ⟨L, hL⟩ : ∃ L : Int, ((Lib.bitLen x.toNat : Nat) : Int) = L := ⟨_, rfl⟩
  rw [hL]
  have hL' := Lib.hid hL
  clear hL
  by_cases hx : 256 ≤ x
  · have q3 : decide (256 ≤ x) = true := by simpa using hx
    have hsz : (x / 256).toNat < Lib.len8tab.size := by rw [tab_size]; omega
    have hb := Lib.bitLen_le8' (x / 256) (by omega) (by omega)
    have hs := Lib.hid (Lib.bitLen_shift8 x.toNat (by omega) (by omega))
    have ht := Lib.hid (show (x / 256).toNat = x.toNat / 256 by omega)
    have hg := Lib.hid (tab_get (x / 256).toNat hsz)
    go_enter Tryz.func70, Tryz.ntmps70
    go_wp2
    go_ret
    simp only [Array.getD, List.size_toArray, List.length_cons, List.length_nil]
    refine ⟨?_, by first | trivial | rfl⟩
    simp
    rw [hg.out, ← hL'.out, hs.out, ← ht.out]
    simp only [wrap64]
    omega
  · have q3 : decide (256 ≤ x) = false := by simpa using hx
    have hsz : x.toNat < Lib.len8tab.size := by rw [tab_size]; omega
    have hb := Lib.bitLen_le8' x (by omega) (by omega)
    have hg := Lib.hid (tab_get x.toNat hsz)
    go_enter Tryz.func70, Tryz.ntmps70
    go_wp2
    go_ret
    refine ⟨?_, by first | trivial | rfl⟩
    simp
    rw [hg.out, ← hL'.out]
    simp only [wrap64]
    omega

theorem len_any (x : Int) (w : World) (h0 : 0 ≤ x) (h1 : x ≤ 4000) :
    Calls Tryz.prog 50 #[.int .u64 x] w fun e w' => e = .returned (.int .i64 (Lib.bitLen x.toNat : Nat)) ∧ w = w' := by
  have HL := Lib.hid (fun W => len64_any x W h0 h1)
  generalize (Lib.bitLen x.toNat : Nat) = L at *
  go_enter Tryz.func50, Tryz.ntmps50
  go_wp2_with (go_at_call 70; refine (HL.out _).mono ?_; rintro e w' ⟨rfl, rfl⟩)
  go_ret
  exact ⟨rfl, rfl⟩

set_option maxHeartbeats 400000 in
theorem least_any (u f b ev : Int) (w : World) (R : Int × Int × Int) (hR : leastF u f b ev = R) :
    Calls Tryz.prog 22 #[.int .i64 u, .agg #[.int .i64 f, .int .i64 b, .int .i64 ev]] w fun e w' => e = .returned (.tuple #[.int .i64 R.1, .int .i64 R.2.1, .int .i64 R.2.2]) ∧ Below w.heap.size w w' := by
  have hb0 := (Below.refl w.heap.size w).alloc (Nat.le_refl _) (.cells #[.int .i64 f, .int .i64 b, .int .i64 ev] 29)
  have k0 := Blk.new w 29 #[.int .i64 f, .int .i64 b, .int .i64 ev]
  have c0 := k0.cell
  have HO := Lib.hid (fun W => outside_any u 1 1024 W)
  have HW := Lib.hid (fun W => gwrong_any f b ev W)
  by_cases hu : 1 ≤ u ∧ u ≤ 1024
  case neg =>
    have hE : Hid (R = (0, 0, 7)) := Lib.hid (by rw [← hR, leastF, if_pos (by unfold badLeast; omega)])
    have hv : (!(decide (1 ≤ u) && decide (u ≤ 1024))) = true := by
      rw [Bool.eq_iff_iff]; simp; omega
    rw [hv] at HO
    clear hR hu hv
    go_enter Tryz.func22, Tryz.ntmps22
    go_wp2_with (go_at_call 48; refine (HO.out _).mono ?_; rintro e w' ⟨rfl, rfl⟩)
    refine bodyPost_ret (v := .tuple #[.int .i64 0, .int .i64 0, .int .i64 7]) (by simp [results, Tryz.results22, go_sem]) rfl ⟨by rw [hE.out], hb0⟩
  have hv : (!(decide (1 ≤ u) && decide (u ≤ 1024))) = false := by
    simp; omega
  rw [hv] at HO
  cases hw : wrongG f b ev with
  | true =>
    rw [hw] at HW
    have hE : Hid (R = (0, 0, 7)) := Lib.hid (by rw [← hR, leastF, if_pos (by unfold badLeast; exact .inr (.inr hw))])
    clear hR hu hv hw
    go_enter Tryz.func22, Tryz.ntmps22
    go_wp2_with (first
      | (go_at_call 48; refine (HO.out _).mono ?_; rintro e w' ⟨rfl, rfl⟩)
      | (go_at_call 49; refine (HW.out _).mono ?_; rintro e w1 ⟨rfl, hq⟩))
    refine bodyPost_ret (v := .tuple #[.int .i64 0, .int .i64 0, .int .i64 7]) (by simp [results, Tryz.results22, go_sem]) rfl ⟨by rw [hE.out], hb0.trans (hq.mono hb0.size)⟩
  | false =>
    rw [hw] at HW
    have hw' := wrongG_iff.1 hw
    have hR2 : Hid (R = if 1024 < leastP u f b ev then (0, 0, 7) else (leastP u f b ev, (Lib.bitLen (leastP u f b ev - 1).toNat : Int), 0)) := Lib.hid (by rw [← hR, leastF, if_neg (by unfold badLeast; rw [hw]; simp; omega)])
    clear hR hv hw
    by_cases h0 : 0 < ev
    · have h0' : decide (0 < ev) = true := by simpa using h0
      have hd : Int.tdiv (u - 1) ev = (u - 1) / ev := Int.tdiv_eq_ediv_of_nonneg (by omega)
      have hdb : 0 ≤ (u - 1) / ev ∧ (u - 1) / ev ≤ 1024 := by
        have h1 : 0 ≤ (u - 1) / ev := Int.ediv_nonneg (by omega) (by omega)
        have h2 := Int.ediv_le_self (a := u - 1) ev (by omega)
        omega
      have hP : Hid (leastP u f b ev = u + f + b + (u - 1) / ev) := Lib.hid (by rw [leastP, if_pos h0])
      generalize (u - 1) / ev = dv at *
      rw [hP.out] at hR2
      clear hP
      have hlb : 1 ≤ u + f + b + dv ∧ u + f + b + dv ≤ 3000 := by omega
      have HL := Lib.hid (fun W => len_any (u + f + b + dv - 1) W (by omega) (by omega))
      by_cases hbig : 1024 < u + f + b + dv
      · have hbig' : decide (1024 < u + f + b + dv) = true := by simpa using hbig
        have hE : Hid (R = (0, 0, 7)) := Lib.hid (by rw [hR2.out, if_pos hbig])
        clear hR2
        go_enter Tryz.func22, Tryz.ntmps22
        go_wp2_with (first
          | (go_at_call 48; refine (HO.out _).mono ?_; rintro e w' ⟨rfl, rfl⟩)
          | (go_at_call 49; refine (HW.out _).mono ?_; rintro e w1 ⟨rfl, hq⟩; have k1 := k0.call hq; have c1 := k1.cell)
          | (go_at_call 50; refine (HL.out _).mono ?_; rintro e w' ⟨rfl, rfl⟩))
        refine bodyPost_ret (v := .tuple #[.int .i64 0, .int .i64 0, .int .i64 7]) (by simp [results, Tryz.results22, go_sem]) rfl ⟨by rw [hE.out], hb0.trans (hq.mono hb0.size)⟩
      · have hbig' : decide (1024 < u + f + b + dv) = false := by simpa using hbig
        have hE : Hid (R = (u + f + b + dv, (Lib.bitLen (u + f + b + dv - 1).toNat : Int), 0)) := Lib.hid (by rw [hR2.out, if_neg hbig])
        clear hR2
        generalize (Lib.bitLen (u + f + b + dv - 1).toNat : Nat) = BL at *
        go_enter Tryz.func22, Tryz.ntmps22
        go_wp2_with (first
          | (go_at_call 48; refine (HO.out _).mono ?_; rintro e w' ⟨rfl, rfl⟩)
          | (go_at_call 49; refine (HW.out _).mono ?_; rintro e w1 ⟨rfl, hq⟩; have k1 := k0.call hq; have c1 := k1.cell)
          | (go_at_call 50; refine (HL.out _).mono ?_; rintro e w' ⟨rfl, rfl⟩))
        refine bodyPost_ret (v := .tuple #[.int .i64 (u + f + b + dv), .int .i64 (BL : Int), .int .i64 0]) (by simp [results, Tryz.results22, go_sem]) rfl ⟨by rw [hE.out], hb0.trans (hq.mono hb0.size)⟩
    · have h0' : decide (0 < ev) = false := by simpa using h0
      have hP : Hid (leastP u f b ev = u + f + b) := Lib.hid (by rw [leastP, if_neg h0]; omega)
      rw [hP.out] at hR2
      clear hP
      have hlb : 1 ≤ u + f + b ∧ u + f + b ≤ 3000 := by omega
      have HL := Lib.hid (fun W => len_any (u + f + b - 1) W (by omega) (by omega))
      by_cases hbig : 1024 < u + f + b
      · have hbig' : decide (1024 < u + f + b) = true := by simpa using hbig
        have hE : Hid (R = (0, 0, 7)) := Lib.hid (by rw [hR2.out, if_pos hbig])
        clear hR2
        go_enter Tryz.func22, Tryz.ntmps22
        go_wp2_with (first
          | (go_at_call 48; refine (HO.out _).mono ?_; rintro e w' ⟨rfl, rfl⟩)
          | (go_at_call 49; refine (HW.out _).mono ?_; rintro e w1 ⟨rfl, hq⟩; have k1 := k0.call hq; have c1 := k1.cell)
          | (go_at_call 50; refine (HL.out _).mono ?_; rintro e w' ⟨rfl, rfl⟩))
        refine bodyPost_ret (v := .tuple #[.int .i64 0, .int .i64 0, .int .i64 7]) (by simp [results, Tryz.results22, go_sem]) rfl ⟨by rw [hE.out], hb0.trans (hq.mono hb0.size)⟩
      · have hbig' : decide (1024 < u + f + b) = false := by simpa using hbig
        have hE : Hid (R = (u + f + b, (Lib.bitLen (u + f + b - 1).toNat : Int), 0)) := Lib.hid (by rw [hR2.out, if_neg hbig])
        clear hR2
        generalize (Lib.bitLen (u + f + b - 1).toNat : Nat) = BL at *
        go_enter Tryz.func22, Tryz.ntmps22
        go_wp2_with (first
          | (go_at_call 48; refine (HO.out _).mono ?_; rintro e w' ⟨rfl, rfl⟩)
          | (go_at_call 49; refine (HW.out _).mono ?_; rintro e w1 ⟨rfl, hq⟩; have k1 := k0.call hq; have c1 := k1.cell)
          | (go_at_call 50; refine (HL.out _).mono ?_; rintro e w' ⟨rfl, rfl⟩))
        refine bodyPost_ret (v := .tuple #[.int .i64 (u + f + b), .int .i64 (BL : Int), .int .i64 0]) (by simp [results, Tryz.results22, go_sem]) rfl ⟨by rw [hE.out], hb0.trans (hq.mono hb0.size)⟩
end Go.Proofs.YtdepkmpilipolaaGreat
namespace Go.Pol
open Go Go.RowKit
theorem ru_blkL {w : World} {B : Nat} {t : TypeId} {us : List Sp} {cs : Array Value} (h : Blk w B t cs) (hc : cs = (spCells us).toArray) : RU w w.heap.size (some ⟨B, 0, none⟩) us := fun k hk => by
  subst hc
  obtain ⟨h1, h2⟩ := spCells_at us k hk
  refine ⟨B, 0, rfl, h.lt, ?_, ?_⟩
  · rw [Nat.zero_add, h.cell]; simpa using h1
  · rw [Nat.zero_add, h.cell]; simpa using h2
theorem RU.on {w w' : World} {A : Option Addr} {us : List Sp} (h : RU w w.heap.size A us) (hb : Below w.heap.size w w') : RU w' w'.heap.size A us := (h.below hb).more hb.size
end Go.Pol
namespace Go.Proofs.YtdepkmpilipolaaGreat
open Go Go.Proofs Go.RowKit Go.Pol
theorem example_any (w : World) : Calls Tryz.prog 17 #[] w fun e w' => e = .returned (.agg #[.int .i64 8, .int .i64 12, .int .i64 1, .int .i64 2, .int .i64 3]) ∧ Below w.heap.size w w' := by
  have k1 := Blk.new w 31 (planC 8 12 1 2 3)
  have hb := (Below.refl w.heap.size w).alloc (Nat.le_refl _) (.cells (planC 8 12 1 2 3) 31)
  go_enter Tryz.func17, Tryz.ntmps17
  go_wp2
  exact bodyPost_ret (v := planV 8 12 1 2 3) (by simp [results, Tryz.results17, go_sem]) rfl ⟨rfl, hb⟩
theorem ex_chk : chkG 8 12 1 2 3 = 0 := by decide +kernel
theorem ex_runs : runsL 8 12 1 2 3 = [(9, 3), (13, 3), (17, 1)] := by decide +kernel
theorem ex_guards : guardsF 8 12 1 2 3 = [(8, 1), (12, 1), (16, 1), (18, 2)] := by decide +kernel
theorem ex_nth : (if chkG 8 12 1 2 3 = 0 then nthF (runsL 8 12 1 2 3) 3 else (0, chkG 8 12 1 2 3)) = (13, 0) := by decide +kernel
theorem ex_idx : (if chkG 8 12 1 2 3 = 0 then idxF 17 0 (runsL 8 12 1 2 3) else (0, chkG 8 12 1 2 3)) = (6, 0) := by decide +kernel
theorem ex_hit : hitF 8 12 1 2 3 576 193 = (3, 12, 0) := by decide +kernel
theorem ex_least : leastF 7 1 2 3 = (12, 4, 0) := by decide +kernel
def GR (w : World) (us : List Sp) (e : Ending) (w' : World) : Prop := ∃ (A : Option Addr) (cap : Nat), e = .returned (.tuple #[.slice A us.length cap, .int .i64 0]) ∧ RU w' w'.heap.size A us ∧ Below w.heap.size w w'
theorem exg_any (W : World) : Calls Tryz.prog 16 #[planV 8 12 1 2 3] W (GR W [(8, 1), (12, 1), (16, 1), (18, 2)]) := by
  have h := guards_any 8 12 1 2 3 W
  rw [ex_chk, ex_guards] at h
  refine h.mono ?_
  rintro e w' ⟨A, cap, rfl, hr, _, _, _, hb⟩
  exact ⟨A, cap, rfl, hr, hb⟩
theorem exu_any (W : World) : Calls Tryz.prog 18 #[planV 8 12 1 2 3] W (GR W [(9, 3), (13, 3), (17, 1)]) := by
  have h := usable_any 8 12 1 2 3 W
  rw [ex_chk, if_pos rfl, ex_runs] at h
  refine h.mono ?_
  rintro e w' ⟨A, cap, rfl, hr, _, _, _, hb⟩
  exact ⟨A, cap, rfl, hr, hb⟩
theorem sameT_any (A B : Option Addr) (n cap cap' : Nat) (xs ys : List Sp) (w : World) (hn : xs.length = n) (hm : n ≤ maxLen) (he : ys = xs) (hr : RU w w.heap.size A xs) (hs : RU w w.heap.size B ys) :
    Calls Tryz.prog 10 #[.slice A n cap, .slice B n cap'] w fun e w' => e = .returned (.bool true) ∧ Below w.heap.size w w' := by
  have h := same_any A B n n cap cap' xs ys w hn hm (by rw [he]; exact hn) hm hr hs
  rw [decide_eq_true he.symm] at h
  exact h
set_option maxRecDepth 100000 in
theorem field_ex (W : World) : (Instr.field 31 (.agg #[.int .i64 8, .int .i64 12, .int .i64 1, .int .i64 2, .int .i64 3]) 2).run Tryz.prog W = .ok (.agg #[.int .i64 1, .int .i64 2, .int .i64 3]) W := by
  have u := Tryz.underlying31
  have a3 := Tryz.isAgg29
  have z3 := Tryz.sizeOf29
  unfold Instr.field
  simp only [Sem.run_bind, run_underlying u, Result.andThen_ok]
  simp [part, asAgg, Sem.run_bind, a3, z3, Result.andThen]
set_option maxRecDepth 100000 in
set_option maxHeartbeats 1600000 in
theorem awake_any (w : World) : Calls Tryz.prog 5 #[] w fun e w' => e = .returned (.bool true) ∧ Below w.heap.size w w' := by
  go_enter Tryz.func5, Tryz.ntmps5
  go_wp2_with fail
  refine (example_any _).mono ?_
  rintro e w1 ⟨rfl, hb1⟩
  go_wp2_with fail
  refine (exg_any _).mono ?_
  rintro e w2 ⟨A2, c2, rfl, hr2, hb2⟩
  have B2 := hb1.trans (hb2.mono hb1.size)
  clear hb1 hb2
  go_wp2_with fail
  refine (example_any _).mono ?_
  rintro e w3 ⟨rfl, hb3⟩
  have B3 := B2.trans (hb3.mono B2.size)
  have hr2b := hr2.on hb3
  clear hb3 B2 hr2
  go_wp2_with fail
  refine (exu_any _).mono ?_
  rintro e w4 ⟨A4, c4, rfl, hr4, hb4⟩
  have B4 := B3.trans (hb4.mono B3.size)
  have hr2c := hr2b.on hb4
  clear hb4 B3 hr2b
  go_wp2_with fail
  refine (example_any _).mono ?_
  rintro e w5 ⟨rfl, hb5⟩
  go_wp2_with fail
  refine (nth_any 8 12 1 2 3 3 _ (by omega) (by omega) _ ex_nth).mono ?_
  rintro e w6 ⟨rfl, hb6⟩
  have hb56 := hb5.trans (hb6.mono hb5.size)
  have B6 := B4.trans (hb56.mono B4.size)
  have hr2d := hr2c.on hb56
  have hr4d := hr4.on hb56
  clear hb5 hb6 hb56 B4 hr2c hr4
  go_wp2_with fail
  refine (example_any _).mono ?_
  rintro e w7 ⟨rfl, hb7⟩
  go_wp2_with fail
  refine (index_any 8 12 1 2 3 17 _ _ ex_idx).mono ?_
  rintro e w8 ⟨rfl, hb8⟩
  have hb78 := hb7.trans (hb8.mono hb7.size)
  have B8 := B6.trans (hb78.mono B6.size)
  have hr2e := hr2d.on hb78
  have hr4e := hr4d.on hb78
  clear hb7 hb8 hb78 B6 hr2d hr4d
  go_wp2_with fail
  refine (example_any _).mono ?_
  rintro e w9 ⟨rfl, hb9⟩
  go_wp2_with fail
  refine (hit_any 8 12 1 2 3 576 193 _ _ ex_hit).mono ?_
  rintro e w10 ⟨rfl, hb10⟩
  have hb910 := hb9.trans (hb10.mono hb9.size)
  have B10 := B8.trans (hb910.mono B8.size)
  have hr2f := hr2e.on hb910
  have hr4f := hr4e.on hb910
  clear hb9 hb10 hb910 B8 hr2e hr4e
  have hfd := field_ex
  go_wp2_with fail
  refine (example_any _).mono ?_
  rintro e w11 ⟨rfl, hb11⟩
  go_wp2_with fail
  refine (least_any 7 1 2 3 _ _ ex_least).mono ?_
  rintro e w12 ⟨rfl, hb12⟩
  have hb112 := hb11.trans (hb12.mono hb11.size)
  have B12 := B10.trans (hb112.mono B10.size)
  have hr2g := hr2f.on hb112
  have hr4g := hr4f.on hb112
  clear hb11 hb12 hb112 B10 hr2f hr4f
  have hbA := (Below.refl w12.heap.size w12).alloc (Nat.le_refl _) (.cells #[.int .i64 8, .int .i64 1, .int .i64 12, .int .i64 1, .int .i64 16, .int .i64 1, .int .i64 18, .int .i64 2] 64)
  have kA := Blk.new w12 64 #[.int .i64 8, .int .i64 1, .int .i64 12, .int .i64 1, .int .i64 16, .int .i64 1, .int .i64 18, .int .i64 2]
  have HSA := Lib.hid (sameT_any A2 (some ⟨w12.heap.size, 0, none⟩) 4 c2 4 _ _ _ rfl (by unfold maxLen; omega) rfl (hr2g.on hbA) (ru_blkL kA rfl))
  have hr4h := hr4g.on hbA
  have BA := B12.trans (hbA.mono B12.size)
  clear hr2g hr4g kA hbA
  go_wp2_with fail
  refine (HSA.out).mono ?_
  rintro e w13 ⟨rfl, hb13⟩
  have B13 := BA.trans (hb13.mono BA.size)
  have hr4i := hr4h.on hb13
  have hbB := (Below.refl w13.heap.size w13).alloc (Nat.le_refl _) (.cells #[.int .i64 9, .int .i64 3, .int .i64 13, .int .i64 3, .int .i64 17, .int .i64 1] 64)
  have kB := Blk.new w13 64 #[.int .i64 9, .int .i64 3, .int .i64 13, .int .i64 3, .int .i64 17, .int .i64 1]
  have HSB := Lib.hid (sameT_any A4 (some ⟨w13.heap.size, 0, none⟩) 3 c4 3 _ _ _ rfl (by unfold maxLen; omega) rfl (hr4i.on hbB) (ru_blkL kB rfl))
  have BB := B13.trans (hbB.mono B13.size)
  clear hr4h hr4i kB hbB BA B13 hb13
  go_wp2_with fail
  refine (HSB.out).mono ?_
  rintro e w14 ⟨rfl, hb14⟩
  go_wp2_with fail
  go_ret
  exact ⟨rfl, BB.trans (hb14.mono BB.size)⟩
end Go.Proofs.YtdepkmpilipolaaGreat
namespace Go.Pol
open Go Go.RowKit
theorem MarksAre.set {cs : Array Value} {f g : Nat → Bool} (h : MarksAre cs f) (k : Nat) (hk : k < 1024) (b : Bool) (hb : g k = b) (hg : ∀ j, j ≠ k → g j = f j) : MarksAre (cs.setIfInBounds k (.bool b)) g :=
  ⟨by simp [h.size], fun j hj => by
    by_cases hjk : j = k
    · subst hjk
      rw [Array.getElem?_setIfInBounds_self_of_lt (by rw [h.size]; exact hk), hb]
    · rw [Array.getElem?_setIfInBounds_ne (Ne.symm hjk), hg j hjk]; exact h.at_ j hj⟩
theorem rangeAt_blk {w : World} {g : Nat} {t : TypeId} {cs : Array Value} (h : Blk w g t cs) : w.rangeAt g 0 cs.toList := fun j v hj => by
  rw [Nat.zero_add, h.cell]; simpa using hj
/-- the marks of the first pages of a plan -/
def setM (pg n f b ev : Int) (us : Bool) (j : Nat) (q : Nat) : Bool := decide (pg ≤ (q : Int) ∧ (q : Int) < pg + j) && ((kindG pg n f b ev q == 0) == us)
end Go.Pol
namespace Go.Proofs.YtdepkmpilipolaaGreat
open Go Go.Proofs Go.RowKit Go.Pol
theorem zeros_are : MarksAre Tryz.zeroCells141 (fun _ => false) := by
  have e : Tryz.zeroCells141 = Array.replicate 1024 (.bool false) := by kernel_rfl
  rw [e]
  exact ⟨by simp, fun k hk => by simp [hk]⟩

set_option maxRecDepth 100000 in
set_option maxHeartbeats 1600000 in
theorem refset_any (pg n f b ev : Int) (us : Bool) (w : World) (hp : PlanOk pg n f b ev) (S : List Sp) (hS : setA (setM pg n f b ev us n.toNat) = S) :
    Calls Tryz.prog 60 #[planV pg n f b ev, .bool us] w (SpansO w S) := by
  have HK := Lib.hid (fun q W h0 h1 => kind_any pg n f b ev q W hp h0 h1)
  have HSet := Lib.hid (fun cs f W h => refSet_any cs f W h)
  obtain ⟨p1, p2, p3, p4, p5, p6, p7, p8, p9, p10, p11⟩ := hp
  obtain ⟨s, hs⟩ : ∃ s, w.heap.size = s := ⟨_, rfl⟩
  obtain ⟨W0, hW0⟩ : ∃ W0, (w.alloc (.cells (planC pg n f b ev) 31)).alloc (.cells Tryz.zeroCells141 141) = W0 := ⟨_, rfl⟩
  have hb0 : Below s w W0 := by rw [← hW0, ← hs]; exact ((Below.refl w.heap.size w).alloc (Nat.le_refl _) _).alloc (by simp) _
  have kP : Blk W0 s 31 (planC pg n f b ev) := by rw [← hW0, ← hs]; exact (Blk.new _ _ _).alloc _
  have kM : Blk W0 (s + 1) 141 Tryz.zeroCells141 := by
    have := Blk.new (w.alloc (.cells (planC pg n f b ev) 31)) 141 Tryz.zeroCells141
    rw [World.size_alloc, hs, hW0] at this; exact this
  have hZ := zeros_are
  have hS' := Lib.hid hS
  have hW1 := Lib.hid hW0
  clear hS hW0
  go_enter Tryz.func60, Tryz.ntmps60
  go_upto_region 2 with fail
  try simp only [Nat.add_assoc, Nat.reduceAdd]
  rw [hW1.out]
  have cP0 := kP.cell
  generalize Tryz.zeroCells141 = Z at *
  clear hW1
  go_wp2_with fail
  go_loopw [6] (fun i wr => ∃ (j : Nat) (cs : Array Value), (j : Int) ≤ n ∧ i = .int .i64 (pg + j) ∧ Blk wr s 31 (planC pg n f b ev) ∧ Blk wr (s + 1) 141 cs ∧ MarksAre cs (setM pg n f b ev us j) ∧ Below s w wr) (fun i _ => (pg + n - intOf i).toNat)
  case atStart => exact ⟨0, Z, by omega, by simp, kP, kM, ⟨hZ.size, fun k hk => by rw [hZ.at_ k hk]; simp [setM]; omega⟩, hb0⟩
  case round =>
    obtain ⟨j, cs, hj, rfl, kP, kM, hM, hB⟩ := hrel
    have cP := kP.cell
    have hBs := hB.size
    have hwl := kM.lt
    by_cases hlt : (j : Int) < n
    · have hlt' : decide (pg + (j : Int) < pg + n) = true := by simp; omega
      have hKK := Lib.hid (fun W => HK.out (pg + j) W (by omega) (by omega))
      have hst := Lib.hid (hM.set (g := setM pg n f b ev us (j + 1)) (pg + j).toNat (by omega) ((kindG pg n f b ev (pg + j) == 0) == us) (by
        have e : (((pg + (j : Int)).toNat : Nat) : Int) = pg + j := by omega
        simp only [setM, e]
        rw [decide_eq_true (by omega), Bool.true_and]) (fun k hk => by
        simp only [setM]
        congr 1
        exact decide_eq_decide.2 (by omega)))
      have hold := hM.at_ (pg + j).toNat (by omega)
      generalize setM pg n f b ev us j (pg + (j : Int)).toNat = B0 at hold
      generalize kindG pg n f b ev (pg + j) = K at *
      have hN : (pg + (j : Int) + 1) = pg + ((j + 1 : Nat) : Int) := by omega
      have hN' := Lib.hid hN
      clear hN
      go_wp2_with (go_at_call 85; refine (hKK.out _).mono ?_; rintro e w1 ⟨rfl, hq⟩; have kP1 := kP.call hq; have kM1 := kM.call hq; have fM1 := kM1.frozen; have cM1 : w1.cell? ⟨s + 1, (pg + (j : Int)).toNat, none⟩ = some (.bool B0) := (kM1.cell _).trans hold)
      have hf4 : Far (fun k => k = s + 1) w1 (w1.setCell ⟨s + 1, (pg + (j : Int)).toNat, none⟩ (.bool ((K == 0) == us))) := Far.setCell (T := fun k => k = s + 1) (p := ⟨s + 1, (pg + (j : Int)).toNat, none⟩) (Far.refl _ _) (fun _ => rfl) _
      have hB1 := hB.trans (hq.mono (by omega))
      go_roundw
      case rel => exact ⟨j + 1, _, by omega, by rw [hN'.out], hf4.blk kP1 (by omega), kM1.set_ _ _, hst.out, hB1.trans (hf4.below (by have := hB1.size; omega) (fun k hk => by omega))⟩
      case measure => simp [intOf]; omega
    · have hlt' : decide (pg + (j : Int) < pg + n) = false := by simp; omega
      have hjn : n.toNat = j := by omega
      rw [hjn] at hS'
      have HS2 := Lib.hid (fun W => HSet.out cs _ W hM)
      rw [hS'.out] at HS2
      have hsz := hM.size
      go_wp2_with (first
        | (refine wpList_load_mid rfl 141 (.tmp 5) rfl (s + 1) 0 rfl cs.toList _ (rangeAt_blk kM) Tryz.underlying141 rfl (by rw [Array.length_toList, hsz]; kernel_rfl) ?_; rw [Array.toArray_toList])
        | (go_at_call 86; refine (HS2.out _).mono ?_; rintro e w2 ⟨A, cap, rfl, hru, h1, h2, h3, hq2⟩))
      go_ret
      exact ⟨A, cap, rfl, hru, h1, h2, fun b o e => by have := h3 b o e; omega, by rw [hs]; exact hB.trans (hq2.mono (by omega))⟩
end Go.Proofs.YtdepkmpilipolaaGreat
namespace Go.Pol
open Go
section
variable {pg n f b ev : Int}
theorem setM_false (hp : PlanOk pg n f b ev) : setA (setM pg n f b ev false n.toNat) = gapsF (runsL pg n f b ev) (pg, n) := by
  have hv : vld (pg, n) = true := vld_iff.2 ⟨hp.pg0, hp.pg1, hp.n0, hp.n1⟩
  obtain ⟨hc, hm⟩ := (runsL_can hp).gaps hv
  refine (hc.eq_setA _ fun p hp2 => ?_).symm
  have h := kindG_zero hp (p : Int)
  have a3 := hp.n0
  rw [Bool.eq_iff_iff, hm]
  simp only [setM, Bool.and_eq_true, decide_eq_true_eq, beq_iff_eq]
  have e : (((n.toNat : Nat) : Int)) = n := by omega
  rw [e]
  constructor
  · rintro ⟨h1, h2⟩
    refine ⟨by omega, ?_⟩
    rw [Bool.eq_false_iff]; intro hh
    have := h.2 hh
    rw [this] at h2; simp at h2
  · rintro ⟨h1, h2⟩
    refine ⟨by omega, ?_⟩
    rw [beq_eq_false_iff_ne]
    intro hh
    have := h.1 hh
    rw [h2] at this; cases this
end
/-! numbers -/
/-! what is hit -/
end Go.Pol
namespace Go.Proofs.YtdepkmpilipolaaGreat
open Go Go.Proofs Go.RowKit Go.Pol
section
variable {pg n f b ev : Int}
theorem plan_vld (hp : PlanOk pg n f b ev) : vld (pg, n) = true := vld_iff.2 ⟨hp.pg0, hp.pg1, hp.n0, hp.n1⟩
theorem guards_set (hp : PlanOk pg n f b ev) : Go.Pol.Can (guardsF pg n f b ev) ∧ ∀ q, mem q (guardsF pg n f b ev) = true ↔ (pg ≤ q ∧ q < pg + n) ∧ mem q (runsL pg n f b ev) = false := by
  unfold guardsF
  rw [if_pos (chkG_zero.2 hp)]
  exact (runsL_can hp).gaps (plan_vld hp)
end
end Go.Proofs.YtdepkmpilipolaaGreat
namespace Go.Proofs.YtdepkmpilipolaaGreat
open Go Go.Proofs Go.RowKit Go.Pol Go.Shelf


theorem ru_src {w : World} {A : Option Addr} {us : List Sp} (h : RU w w.heap.size A us) : (A = none ∧ us = []) ∨ ∃ ad, A = some ad ∧ ∀ (j : Nat) (u : Value), (spCells us)[j]? = some u → w.cell? (ad.add j) = some u := by
  by_cases h0 : us = []
  · subst h0
    cases A with
    | none => exact .inl ⟨rfl, rfl⟩
    | some ad => exact .inr ⟨ad, rfl, fun j u hu => by simp [spCells] at hu⟩
  · obtain ⟨b, o, rfl, _⟩ := RU.at_' h (k := 0) (List.length_pos_iff.2 h0)
    refine .inr ⟨⟨b, o, none⟩, rfl, fun j u hu => ?_⟩
    have hl := spCells_len us
    have hj : j < us.length * 2 := by
      rw [← hl]; exact (List.getElem?_eq_some_iff.1 hu).1
    obtain ⟨k, hk⟩ : ∃ k, j = k * 2 ∨ j = k * 2 + 1 := ⟨j / 2, by omega⟩
    obtain ⟨b', o', e, _, h1, h2⟩ := RU.at_' h (k := k) (by omega)
    cases e
    have hat := spCells_at us k (by omega)
    rw [Addr.add_lit]
    rcases hk with rfl | rfl
    · rw [hat.1] at hu
      rw [← hu]; exact h1
    · rw [hat.2] at hu
      rw [← hu]; exact h2
theorem spCells_one (us : List Sp) : ∀ u ∈ spCells us, u.oneCell' = true := by
  intro u hu
  simp only [spCells, List.mem_flatMap, List.mem_cons, List.not_mem_nil, or_false] at hu
  obtain ⟨x, _, rfl | rfl⟩ := hu <;> rfl
end Go.Proofs.YtdepkmpilipolaaGreat
namespace Go.Pol
open Go Go.RowKit
theorem MarksAre.congr {cs : Array Value} {f g : Nat → Bool} (h : MarksAre cs f) (hg : ∀ k, k < 1024 → f k = g k) : MarksAre cs g :=
  ⟨h.size, fun k hk => by rw [← hg k hk]; exact h.at_ k hk⟩
theorem MarksAre.one {cs : Array Value} {f : Nat → Bool} (h : MarksAre cs f) : cs.all (·.oneCell') = true := by
  rw [Array.all_eq_true]
  intro i hi
  have := h.at_ i (by rw [← h.size]; exact hi)
  rw [Array.getElem?_eq_getElem hi] at this
  cases this' : cs[i] <;> simp_all [Value.oneCell']
end Go.Pol
namespace Go.Pol
open Go Go.RowKit

/-- the contract of a function value that is ranged over, and that makes blocks of its own (X): it goes through just 'xs' -/
def SeqY {α : Type} (P : Program) (g : Nat) (lb : Array Value) (encs : α → Array Value) (T K : Nat → Prop) (xs : List α) (w : World) : Prop :=
  ∀ (n l : Nat) (J Jx : (Nat → Prop) → List α → World → Prop) (W : World), Far (fun k => ¬ K k) w W →
    (∀ X pre A B, J X pre A → Far (fun k => T k ∨ X k) A B → J X pre B) → (∀ X pre A B, Jx X pre A → Far (fun k => T k ∨ X k) A B → Jx X pre B) →
    (∀ X X' pre A, J X pre A → (∀ k, X' k → X k ∨ A.heap.size ≤ k) → J X' pre A) →
    (∀ m X pre x W1, J X pre W1 → (∀ k, X k → k < W1.heap.size) → pre ++ [x] <+: xs → YieldAt Fence.wide m P l (encs x) W1 fun e W' =>
      (e = .returned (.bool true) ∧ J X (pre ++ [x]) W' ∧ Far (fun k => ¬ (K k ∨ X k)) W1 W') ∨ (e = .returned (.bool false) ∧ Jx X (pre ++ [x]) W' ∧ Far (fun k => ¬ (K k ∨ X k)) W1 W')) →
    J (fun _ => False) [] W →
    CallsIn Fence.wide n P g (#[.func (.yield l) #[] #[]] ++ lb) W fun e W' => (∃ v, e = .returned v) ∧ ((∃ X, J X xs W') ∨ ∃ X pre, pre <+: xs ∧ Jx X pre W')

theorem SeqY.later {α : Type} {P : Program} {g : Nat} {lb : Array Value} {encs : α → Array Value} {T K : Nat → Prop} {xs : List α} {w w' : World}
    (h : SeqY P g lb encs T K xs w) (hw : Far (fun k => ¬ K k) w w') : SeqY P g lb encs T K xs w' :=
  fun n l J Jx W hW => h n l J Jx W (hw.trans hW)
end Go.Pol
namespace Go.Pol
open Go
/-- page q: committed, live; group q: number, committed, live, huge -/
structure LookIs (cs : Array Value) (cm lv : Nat → Bool) (nm gc gl : Nat → Int) (gh : Nat → Bool) : Prop where
  size : cs.size = 2304
  cm : ∀ q, q < 1024 → cs[q * 2]? = some (.bool (cm q))
  lv : ∀ q, q < 1024 → cs[q * 2 + 1]? = some (.bool (lv q))
  nm : ∀ q, q < 64 → cs[2048 + q * 4]? = some (.int .i64 (nm q))
  gc : ∀ q, q < 64 → cs[2048 + q * 4 + 1]? = some (.int .i64 (gc q))
  gl : ∀ q, q < 64 → cs[2048 + q * 4 + 2]? = some (.int .i64 (gl q))
  gh : ∀ q, q < 64 → cs[2048 + q * 4 + 3]? = some (.bool (gh q))
end Go.Pol
namespace Go.Pol
open Go Go.RowKit
theorem RI.on {w w' : World} {A : Option Addr} {us : List Int} (h : RI w w.heap.size A us) (hb : Below w.heap.size w w')   : RI w' w'.heap.size A us := (h.below hb).more hb.size
end Go.Pol
namespace Go.Pol
open Go Go.RowKit
/-- a group: number, committed, live, huge -/
abbrev Gp := Int × Int × Int × Bool
def gV (g : Gp) : Value := .agg #[.int .i64 g.1, .int .i64 g.2.1, .int .i64 g.2.2.1, .bool g.2.2.2]
theorem ext_get {cs : Array Value} {s e j : Nat} (h : j < min e cs.size - s) : (cs.extract s e)[j]? = cs[s + j]? := by
  rw [Array.getElem?_extract_of_lt h]; exact (Array.getElem?_eq_getElem _).symm
theorem LookIs.rangeAt {w : World} {b : Nat} {t : TypeId} {cs : Array Value} {cm lv : Nat → Bool} {nm gc gl : Nat → Int} {gh : Nat → Bool} (h : LookIs cs cm lv nm gc gl gh) (hb : Blk w b t cs) :
    w.rangeAt b 2048 (cs.extract 2048 2304).toList := fun j v hj => by
  rw [Array.getElem?_toList] at hj
  have hlt : j < 256 := by
    have := (Array.getElem?_eq_some_iff.1 hj).1
    simp [h.size] at this
    exact this
  rw [hb.cell, ← hj, ext_get (by rw [h.size]; omega)]
end Go.Pol
namespace Go.Pol
open Go Go.RowKit
def hugeP (g : Gp) : Bool := g.2.2.2
end Go.Pol
namespace Go.Proofs.YtdepkmpilipolaaGreat
open Go Go.Proofs Go.RowKit Go.Pol Go.Shelf
attribute [local go_sem] Oper.semAt_some Go.Pol.wide_fn Go.Pol.wide_depth Go.Pol.wide_fn' Go.Pol.wide_depth'

/-- the value of a state, and what its slices hold -/
structure StIs (w : World) (S : Value) (C L : List Sp) (H : List Int) : Prop where
  ex : ∃ (A1 A2 A3 : Option Addr) (n1 c1 n2 c2 n3 c3 : Nat), S = .agg #[.slice A1 n1 c1, .slice A2 n2 c2, .slice A3 n3 c3] ∧ C.length = n1 ∧ n1 ≤ maxLen ∧ RU w w.heap.size A1 C ∧
    L.length = n2 ∧ n2 ≤ maxLen ∧ RU w w.heap.size A2 L ∧ H.length = n3 ∧ n3 ≤ maxLen ∧ RI w w.heap.size A3 H
theorem StIs.on {w w' : World} {S : Value} {C L : List Sp} {H : List Int} (h : StIs w S C L H) (hb : Below w.heap.size w w') : StIs w' S C L H := by
  obtain ⟨A1, A2, A3, n1, c1, n2, c2, n3, c3, h0, h1, h2, h3, h4, h5, h6, h7, h8, h9⟩ := h.ex
  exact ⟨A1, A2, A3, n1, c1, n2, c2, n3, c3, h0, h1, h2, h3.on hb, h4, h5, h6.on hb, h7, h8, RI.on h9 hb⟩
/-- what a list of numbers and an error look like that are handed back -/
def IntsE (r : List Int × Int) (w : World) (e : Ending) (w' : World) : Prop := ∃ (A : Option Addr) (cap : Nat), e = .returned (.tuple #[.slice A r.1.length cap, .int .i64 r.2]) ∧ RI w' w'.heap.size A r.1 ∧ Below w.heap.size w w'
/-- such a list in memory of its own -/
def IntsN (r : List Int × Int) (w : World) (e : Ending) (w' : World) : Prop := ∃ (A : Option Addr) (cap : Nat), e = .returned (.tuple #[.slice A r.1.length cap, .int .i64 r.2]) ∧ RI w' w'.heap.size A r.1 ∧ (∀ b o, A = some ⟨b, o, none⟩ → w.heap.size ≤ b) ∧ Below w.heap.size w w'
theorem IntsN.e {r : List Int × Int} {w : World} {e : Ending} {w' : World} (h : IntsN r w e w') : IntsE r w e w' := by
  obtain ⟨A, cap, h1, h2, _, h4⟩ := h
  exact ⟨A, cap, h1, h2, h4⟩
end Go.Proofs.YtdepkmpilipolaaGreat
namespace Go.Proofs.YtdepkmpilipolaaGreat
open Go Go.Proofs Go.RowKit Go.Pol Go.Shelf
attribute [local go_sem] Oper.semAt_some Go.Pol.wide_fn Go.Pol.wide_depth Go.Pol.wide_fn' Go.Pol.wide_depth'

theorem built_vc : Tryz.prog.built 117 [] = some #[.int .i64 0, .int .i64 0, .int .i64 0, .int .i64 0, .int .i64 0] := by kernel_rfl
set_option maxRecDepth 100000 in
set_option maxHeartbeats 1600000 in
theorem countsNil_any (w : World) :
    Calls Tryz.prog 56 #[.pointer none] w fun e w' => e = .returned (.tuple #[.agg #[.int .i64 0, .int .i64 0, .int .i64 0, .int .i64 0, .int .i64 0], .int .i64 1]) ∧ Below w.heap.size w w' := by
  have HI := Lib.hid (fun W => isNil_any W)
  have hb0 := (Below.refl w.heap.size w).alloc (Nat.le_refl _) (.cells #[.int .i64 0, .int .i64 0, .int .i64 0, .int .i64 0, .int .i64 0] 117)
  have k0 := Blk.new w 117 #[.int .i64 0, .int .i64 0, .int .i64 0, .int .i64 0, .int .i64 0]
  obtain ⟨s, hs⟩ : ∃ s, w.heap.size = s := ⟨_, rfl⟩
  rw [hs] at k0
  go_enter Tryz.func56, Tryz.ntmps56
  go_upto_region 1 with fail
  generalize w.alloc _ = w0 at *
  try simp only [hs]
  go_wp2_with fail
  refine (HI.out _).mono ?_
  rintro e9 w9 ⟨rfl, hw9⟩
  replace hw9 := hw9.symm
  subst hw9
  go_upto_region 2 with fail
  obtain ⟨Z, hZ⟩ : ∃ Z : Array Value, #[.int .i64 0, .int .i64 0, .int .i64 0, .int .i64 0, .int .i64 0] = Z := ⟨_, rfl⟩
  have hbv : Tryz.prog.built 117 [] = some Z := by rw [← hZ]; exact built_vc
  have hZs : Z.size = 5 := by rw [← hZ]; rfl
  have ht : w0.there s 0 Z.size := by rw [hZs]; exact z_there k0 0 5 (by simp)
  have hinf : (Tryz.prog.info? 117).map (·.size) = some Z.size := by rw [hZs]; exact infoVc
  have hone : Z.all (·.oneCell') = true := by
    rw [← hZ]
    exact Go.all_oneCell_toArray (cs := [.int .i64 0, .int .i64 0, .int .i64 0, .int .i64 0, .int .i64 0]) (fun v hv => by simp at hv; rw [hv]; rfl)
  have hF2 := Far.puts (T := fun k => k = s) rfl Z.toList 0 w0 w0 (Far.refl _ _)
  have kP := Blk.puts (g := s) (t := 117) (w := w0) (cs := #[]) Z.toList 0 w0 _ k0
  rw [putA_all (by rw [Array.length_toList, hZs]; rfl)] at kP
  have hZ' := Lib.hid hZ
  have hs' := Lib.hid hs
  clear hZ hs HI
  go_wp2_with (refine wpList_buildU rfl 10 rfl 117 [] rfl _ rfl Z hbv ?_; refine wpList_store_mid rfl 117 (.tmp 2) (.tmp 10) rfl s 0 Z rfl rfl ht hinf hone ?_)
  generalize World.setCells w0 s 0 Z.toList = w9 at *
  have hl9 := run_loadVar_mid (P := Tryz.prog) w9 s 0 117 Z.toList _ (fun j v hj => by rw [Nat.zero_add, kP.cell]; simpa using hj) Tryz.underlying117 rfl (by rw [Array.length_toList]; exact hinf)
  rw [Array.toArray_toList] at hl9
  refine bodyPost_ret (v := .tuple #[.agg Z, .int .i64 1]) ?_ rfl ?_
  · exact z_results_cell_tmp Tryz.results56 rfl hl9
  exact ⟨by rw [hZ'.out], by rw [hs'.out]; rw [hs'.out] at hb0; exact hb0.trans (hF2.below (by have := hb0.size; have := hs'.out; omega) (fun k hk e => by omega))⟩
end Go.Proofs.YtdepkmpilipolaaGreat
namespace Go.Proofs.YtdepkmpilipolaaGreat
open Go Go.Proofs Go.RowKit Go.Pol Go.Shelf
attribute [local go_sem] Oper.semAt_some Go.Pol.wide_fn Go.Pol.wide_depth Go.Pol.wide_fn' Go.Pol.wide_depth'

set_option maxRecDepth 100000 in
set_option maxHeartbeats 1600000 in
theorem askG_any (b : Nat) (pg n f bk ev : Int) (V : Vm) (w : World) (hV : SysIs w b V) (hK : KindOk V) :
    Calls Tryz.prog 33 #[.pointer (some ⟨b, 0, none⟩), planV pg n f bk ev] w (SpansOwn w (guardsF pg n f bk ev) (chkG pg n f bk ev)) := by
  have hb0 := (Below.refl w.heap.size w).alloc (Nat.le_refl _) (.cells (planC pg n f bk ev) 31)
  have k0 := Blk.new w 31 (planC pg n f bk ev)
  have HC := Lib.hid (fun W h => counts_any b V W h hK)
  have HG := Lib.hid (fun W => guards_own pg n f bk ev W)
  have V0 := hV.call hb0
  obtain ⟨s, hs⟩ : ∃ s, w.heap.size = s := ⟨_, rfl⟩
  rw [hs] at k0
  generalize chkG pg n f bk ev = er at *
  generalize guardsF pg n f bk ev = G at *
  unfold SpansOwn at HG
  clear hV hK
  go_enter Tryz.func33, Tryz.ntmps33
  go_upto_region 1 with fail
  generalize w.alloc _ = w0 at *
  go_wp2_with fail
  refine (HC.out _ V0).mono ?_
  rintro e w1 ⟨⟨cs, hcs, rfl⟩, hb1⟩
  obtain ⟨q, hq⟩ : ∃ q, w1.heap.size = q := ⟨_, rfl⟩
  have hsz := hcs.size
  have kz := Blk.new w1 117 #[.int .i64 0, .int .i64 0, .int .i64 0, .int .i64 0, .int .i64 0]
  rw [hq] at kz
  have ht : (w1.alloc (.cells #[.int .i64 0, .int .i64 0, .int .i64 0, .int .i64 0, .int .i64 0] 117)).there q 0 cs.size := by rw [hsz]; exact z_there kz 0 5 (by simp)
  have hF2 := Far.puts (T := fun k => k = q) rfl cs.toList 0 w1 _ ((Far.refl _ w1).alloc (.cells #[.int .i64 0, .int .i64 0, .int .i64 0, .int .i64 0, .int .i64 0] 117))
  have hone := Go.all_oneCell_toArray (hcs.one)
  rw [Array.toArray_toList] at hone
  have hinf : (Tryz.prog.info? 117).map (·.size) = some cs.size := by rw [hsz]; exact infoVc
  clear kz HC V0
  go_upto_region 2 with (refine wpList_store_mid rfl 117 (.tmp 6) (.tmp 11) rfl q 0 cs rfl rfl ht hinf hone ?_)
  generalize World.setCells _ q 0 _ = w2 at *
  have hb2 := hF2.below (n := w1.heap.size) (Nat.le_refl _) (fun k hk e => by omega)
  have hb12 := hb1.trans (hb2.mono hb1.size)
  have B2 := hb0.trans (hb12.mono hb0.size)
  have k2 := k0.call hb12
  have c2 := k2.cell
  clear hF2 ht hone hinf hcs hsz hb1 hb2 hb12 k0
  go_wp2_with fail
  refine (HG.out _).mono ?_
  rintro e w3 ⟨A, c, rfl, g1, g2, g3, g4, g5, g6⟩
  have B3 := B2.trans (g5.mono B2.size)
  have hsz2 := B2.size
  clear HG c2 k2
  go_wp2_with fail
  go_ret2
  exact ⟨A, c, rfl, g1, g2, g3, fun x o e => by have := g4 x o e; omega, B3, g6⟩
set_option maxHeartbeats 800000 in
theorem askNil_any (pg n f bk ev : Int) (w : World) :
    Calls Tryz.prog 33 #[.pointer none, planV pg n f bk ev] w fun e w' => e = .returned (.tuple #[.slice none 0 0, .int .i64 1]) ∧ Below w.heap.size w w' := by
  have hb0 := (Below.refl w.heap.size w).alloc (Nat.le_refl _) (.cells (planC pg n f bk ev) 31)
  have HC := Lib.hid (fun W => countsNil_any W)
  go_enter Tryz.func33, Tryz.ntmps33
  go_upto_region 1 with fail
  generalize w.alloc _ = w0 at *
  go_wp2_with fail
  refine (HC.out _).mono ?_
  rintro e w1 ⟨rfl, hb1⟩
  have hb2 := hb0.trans ((hb1.alloc hb1.size (.cells #[.int .i64 0, .int .i64 0, .int .i64 0, .int .i64 0, .int .i64 0] 117)).mono hb0.size)
  go_wp2_with fail
  go_ret2
  exact ⟨rfl, hb2⟩
end Go.Proofs.YtdepkmpilipolaaGreat
