/- Walks: the gaps of a set of spans in a span, Not. -/
import Derived.Test.YtfmnlpgboolpmaaGWalkD
import Derived.Test.YtfmnlpgboolpmaaLibT
namespace Go.Pol
open Go Go.RowKit
/-- one round of 'gaps': what is out, and the next page -/
def gst (s : List Sp × Int) (x : Sp) : List Sp × Int := (if s.2 < x.1 then s.1 ++ [(s.2, x.1 - s.2)] else s.1, x.1 + x.2)
def gfold (n : Int) (l : List Sp) : List Sp × Int := l.foldl gst ([], n)
theorem gfold_snoc (n : Int) (l : List Sp) (x : Sp) : gfold n (l ++ [x]) = gst (gfold n l) x := by simp [gfold]
def gfin (s : List Sp × Int) (e : Int) : List Sp := s.1 ++ (if s.2 < e then [(s.2, e - s.2)] else [])
theorem gst_fold : ∀ (l : List Sp) (acc : List Sp) (n e : Int), gfin (l.foldl gst (acc, n)) e = acc ++ gapsL n e l
  | [], acc, n, e => rfl
  | x :: r, acc, n, e => by
    rw [List.foldl_cons, show gst (acc, n) x = (if n < x.1 then acc ++ [(n, x.1 - n)] else acc, x.1 + x.2) from rfl, gst_fold r, gapsL]
    split <;> simp
theorem gfold_gaps (l : List Sp) (n e : Int) : gfin (gfold n l) e = gapsL n e l := by
  rw [gfold, gst_fold, List.nil_append]
theorem gfold_next : ∀ (l : List Sp) (n : Int), 0 ≤ n ∧ n ≤ 1024 → (∀ x ∈ l, vld x = true) → 0 ≤ (gfold n l).2 ∧ (gfold n l).2 ≤ 1024 := by
  intro l n hn hv
  rcases List.eq_nil_or_concat l with rfl | ⟨r, x, rfl⟩
  · exact hn
  · rw [List.concat_eq_append, gfold_snoc]
    have := vld_iff.1 (hv x (by simp [List.concat_eq_append]))
    simp only [gst]; omega
theorem gfold_len : ∀ (l : List Sp) (acc : List Sp) (n : Int), (l.foldl gst (acc, n)).1.length ≤ acc.length + l.length
  | [], acc, n => by simp
  | x :: r, acc, n => by
    simp only [List.foldl_cons]
    refine Nat.le_trans (gfold_len r _ _) ?_
    show (if n < x.1 then acc ++ [(n, x.1 - n)] else acc).length + r.length ≤ _
    split <;> simp <;> omega
/-- a walk that cannot panic -/
def noPanic (Q : Exit → Act → World → Prop) (e : Exit) (a : Act) (w : World) : Prop := match e with | .panic _ => False | e => Q e a w
theorem noPanic_normal {Q : Exit → Act → World → Prop} {a : Act} {w : World} (h : Q .normal a w) : noPanic Q .normal a w := h
theorem wp_noPanic {P : Program} {c : Code} {Q : Exit → Act → World → Prop} {a : Act} {w : World} (h : c.wp P (noPanic Q) a w) : c.wp P Q a w :=
  (wpIn_wide (n := 0)).1 (wpIn_mono (wpIn_wide.2 h) fun e a w hq => by
    cases e with
    | panic c => exact hq.elim
    | _ => exact hq)
/-- what the region behind the loop of 'gaps' reads -/
def GapS (s : Nat) (p q nx : Int) (v : Value) (w : Go.World) : Prop :=
  w.cell? ⟨s, 0, none⟩ = some (.int .i64 p) ∧ w.cell? ⟨s, 1, none⟩ = some (.int .i64 q) ∧ w.cell? ⟨s + 2, 0, none⟩ = some (.int .i64 nx) ∧ w.cell? ⟨s + 1, 0, none⟩ = some v
theorem GapS.later {s : Nat} {p q nx : Int} {v : Value} {w w' : Go.World} {B : Nat} (h : GapS s p q nx v w) (hb : Below B w w') (hB : s + 2 < B) : GapS s p q nx v w' :=
  ⟨(hb.cell (p := ⟨s, 0, none⟩) (by show s < B; omega)).trans h.1, (hb.cell (p := ⟨s, 1, none⟩) (by show s < B; omega)).trans h.2.1, (hb.cell (p := ⟨s + 2, 0, none⟩) hB).trans h.2.2.1, (hb.cell (p := ⟨s + 1, 0, none⟩) (by show s + 1 < B; omega)).trans h.2.2.2⟩
theorem prefix_mem {α : Type} {pre xs : List α} (h : pre <+: xs) {x : α} (hx : x ∈ pre) : x ∈ xs := h.subset hx
end Go.Pol
namespace Go.Proofs.Ytfmnlpgboolpmaa
open Go Go.Proofs Go.RowKit Go.Pol Go.Shelf
attribute [local go_sem] Oper.semAt_some Go.Pol.wide_fn Go.Pol.wide_depth Go.Pol.wide_fn' Go.Pol.wide_depth'

set_option maxRecDepth 100000 in
set_option maxHeartbeats 1600000 in
theorem gaps_own (A : Option Addr) (n cap : Nat) (us : List Sp) (p q : Int) (w : World) (hn : us.length = n) (hm : n ≤ cap) (hc : cap ≤ maxLen) (hr : RU w w.heap.size A us) (hu : Go.Pol.Can us) (hv : vld (p, q) = true) :
    Calls Try.prog 85 #[.slice A n cap, .agg #[.int .i64 p, .int .i64 q]] w fun e w' => ∃ (A' : Option Addr) (cap' : Nat), e = .returned (.slice A' (gapsF us (p, q)).length cap') ∧ RU w' w'.heap.size A' (gapsF us (p, q)) ∧ (gapsF us (p, q)).length ≤ cap' ∧ cap' ≤ maxLen ∧ (∀ b o, A' = some ⟨b, o, none⟩ → w.heap.size ≤ b) ∧ Below w.heap.size w w' ∧ (A' = none → cap' = 0) := by
  obtain ⟨i0, hi, hz0, hz1, hz2⟩ := infoSp_parts
  obtain ⟨L, hL0⟩ : ∃ L, gapsF us (p, q) = L := ⟨_, rfl⟩
  rw [hL0]
  have hL := Lib.hid hL0
  clear hL0
  refine calls_of_marks Try.func85 rfl ?_
  simp only [Try.ntmps85, List.size_toArray, List.length_cons, List.length_nil, Nat.reduceAdd, Nat.reduceSub, Array.replicate_succ, Array.replicate_zero, List.push_toArray, List.append_toArray, List.nil_append, List.cons_append]
  go_wp2_with (go_at_call 81; refine (common_any _ _ _ _ _ _ _).mono ?_; rintro e w2 ⟨rfl, rfl⟩)
  obtain ⟨s, hs⟩ : ∃ s, w.heap.size = s := ⟨_, rfl⟩
  obtain ⟨W0, hW0⟩ : ∃ W0, (((((w.alloc (.cells #[.int .i64 p, .int .i64 q] 40)).alloc (.cells #[.slice none 0 0] 36)).alloc (.cells #[.int .i64 p] 3)).alloc (.cells #[.int .i64 p, .int .i64 q] 40)).alloc (.cells #[.slice A n cap] 36)).alloc (.cells #[.slice (some ⟨w.heap.size + 1 + 1 + 1, 0, none⟩) 1 1] 36) = W0 := ⟨_, rfl⟩
  have hs0 : W0.heap.size = s + 6 := by rw [← hW0, ← hs]; simp
  have kI : Blk W0 s 40 #[.int .i64 p, .int .i64 q] := by rw [← hW0, ← hs]; exact (((((Blk.new _ _ _).alloc _).alloc _).alloc _).alloc _).alloc _
  have kO : Blk W0 (s + 1) 36 #[.slice none 0 0] := by
    rw [← hW0, ← hs]; have := Blk.new (w.alloc (.cells #[.int .i64 p, .int .i64 q] 40)) 36 #[.slice none 0 0]
    rw [World.size_alloc] at this
    exact (((this.alloc _).alloc _).alloc _).alloc _
  have kN : Blk W0 (s + 2) 3 #[.int .i64 p] := by
    rw [← hW0, ← hs]; have := Blk.new ((w.alloc (.cells #[.int .i64 p, .int .i64 q] 40)).alloc (.cells #[.slice none 0 0] 36)) 3 #[.int .i64 p]
    simp only [World.size_alloc] at this
    exact ((this.alloc _).alloc _).alloc _
  have kS : Blk W0 (s + 3) 40 #[.int .i64 p, .int .i64 q] := by
    rw [← hW0, ← hs]; have := Blk.new (((w.alloc (.cells #[.int .i64 p, .int .i64 q] 40)).alloc (.cells #[.slice none 0 0] 36)).alloc (.cells #[.int .i64 p] 3)) 40 #[.int .i64 p, .int .i64 q]
    simp only [World.size_alloc] at this
    exact (this.alloc _).alloc _
  have kB1 : Blk W0 (s + 4) 36 #[.slice A n cap] := by
    rw [← hW0, ← hs]; have := Blk.new ((((w.alloc (.cells #[.int .i64 p, .int .i64 q] 40)).alloc (.cells #[.slice none 0 0] 36)).alloc (.cells #[.int .i64 p] 3)).alloc (.cells #[.int .i64 p, .int .i64 q] 40)) 36 #[.slice A n cap]
    simp only [World.size_alloc] at this
    exact this.alloc _
  have kB2 : Blk W0 (s + 5) 36 #[.slice (some ⟨s + 3, 0, none⟩) 1 1] := by
    rw [← hW0, ← hs]; have := Blk.new (((((w.alloc (.cells #[.int .i64 p, .int .i64 q] 40)).alloc (.cells #[.slice none 0 0] 36)).alloc (.cells #[.int .i64 p] 3)).alloc (.cells #[.int .i64 p, .int .i64 q] 40)).alloc (.cells #[.slice A n cap] 36)) 36 #[.slice (some ⟨w.heap.size + 1 + 1 + 1, 0, none⟩) 1 1]
    simp only [World.size_alloc] at this
    exact this
  have hB0 : Below s w W0 := by
    rw [← hW0, ← hs]
    exact ((((((Below.refl w.heap.size w).alloc (Nat.le_refl _) _).alloc (by simp) _).alloc (by simp; omega) _).alloc (by simp; omega) _).alloc (by simp; omega) _).alloc (by simp; omega) _
  simp only [hs] at hW0 hr ⊢
  simp only [Nat.add_assoc, Nat.reduceAdd] at hW0 ⊢
  rw [hW0]
  clear hW0
  have hxs : (commonF us [(p, q)]).length ≤ 512 := (hu.common (Can.one hv)).len
  have hvl := (hu.common (Can.one hv)).1
  have hp0 : 0 ≤ p ∧ p ≤ 1024 := by have := vld_iff.1 hv; simp only at this; omega
  have hseq := common1_seq A (some ⟨s + 3, 0, none⟩) n cap 1 1 us [(p, q)] (s + 4) (s + 5) (s + 6) (fun k => k < s ∨ k = s + 3 ∨ k = s + 4 ∨ k = s + 5) W0 (by omega) (by omega) (by omega) kB1 kB2
    ⟨hn, hm, hc, (hr.below hB0).more (by omega), fun h0 b o e => by
      obtain ⟨b', o', e', hb, _⟩ := hr 0 (by cases us; exact absurd rfl h0; simp)
      rw [e] at e'
      obtain ⟨rfl, rfl⟩ : b = b' ∧ o = o' := by simpa using e'
      exact ⟨.inl hb, by omega, by omega⟩, hu.1⟩
    ⟨rfl, Nat.le_refl _, by omega, (ru_blk1 kS).more (by omega), fun _ b o e => (by cases e; exact ⟨by omega, by omega, by omega⟩), by simpa using hv⟩
  refine rangeF (gf := 106) (lb := #[.pointer (some ⟨s + 4, 0, none⟩), .pointer (some ⟨s + 5, 0, none⟩)]) rfl common_enters hseq (fun _ => rfl) (fun k h => by omega) (fun k h => by omega)
    (fun pre W => BoxS W (s + 1) 36 40 (W0.heap.size + 2) (gfold p pre).1 ∧ Blk W (s + 2) 3 #[.int .i64 (gfold p pre).2] ∧ Blk W s 40 #[.int .i64 p, .int .i64 q] ∧ Below s w W) (fun _ _ _ => False)
    (fun pre A B h hf => ⟨h.1.far hf (by omega) (fun g hg => by omega), hf.blk h.2.1 (by omega), hf.blk h.2.2.1 (by omega), h.2.2.2.trans (hf.below (Nat.le_trans (by omega) h.2.2.2.size) (fun k hk => by omega))⟩)
    (fun _ _ _ _ h _ => h.elim) ⟨⟨_, kO, World.ownsRow_nil _ _ _ _, by simp [gfold]⟩, kN, kI, hB0⟩
    (fun N x a' W => ∃ Bx, N ≤ Bx ∧ W0.heap.size + 2 ≤ Bx ∧ Blk W Bx 40 #[.int .i64 x.1, .int .i64 x.2] ∧ a' = { tmps := #[.slice A n cap, .agg #[.int .i64 p, .int .i64 q], undef, .pointer (some ⟨s, 0, none⟩), .slice none 0 0, .pointer (some ⟨s + 1, 0, none⟩), .pointer (some ⟨s + 2, 0, none⟩), .pointer (some ⟨Bx, 0, none⟩), .pointer (some ⟨s, 0, none⟩), .int .i64 p, .slice A n cap, .agg #[.int .i64 p, .int .i64 q], .slice (some ⟨s + 3, 0, none⟩) 1 1, .func (.func 106) #[] #[.pointer (some ⟨s + 4, 0, none⟩), .pointer (some ⟨s + 5, 0, none⟩)], .agg #[.int .i64 x.1, .int .i64 x.2], undef, undef, undef, undef, undef, undef, undef, undef, undef, undef, undef, undef, undef, undef, undef, undef, undef, undef, undef, undef, undef, undef, undef, undef, undef, undef, undef, undef, undef], defers := [] })
    (fun N x a' A B ⟨Bx, h0, h1, h2, h3⟩ hf => ⟨Bx, h0, h1, hf.blk h2 (by omega), h3⟩) ?assign ?body ?done ?stop
  case assign =>
    intro m l x W C hs hC
    gi_wp2
    exact hC _ _ ((Far.refl _ W).alloc _) ⟨W.heap.size, Nat.le_refl _, hs, Blk.new _ _ _, rfl⟩
  case body =>
    rintro m l pre x a' Wa W hsz ⟨_, kN, kI, hB⟩ ⟨Bx, hBa, hBx, kx, rfl⟩ hpre ⟨hbox, _, _, _⟩ hfa
    have hvx := vld_iff.1 (hvl x (prefix_mem hpre (by simp)))
    have hnx := gfold_next pre p hp0 (fun y hy => hvl y (prefix_mem hpre (by simp [hy])))
    have hlen : pre.length + 1 ≤ 512 := by have := hpre.length_le; simp at this; omega
    have hol : (gfold p pre).1.length ≤ pre.length := by have := gfold_len pre [] p; simpa [gfold] using this
    have hgs := Lib.hid (gfold_snoc p pre x)
    generalize gfold p pre = st at *
    obtain ⟨out, nx⟩ := st
    obtain ⟨xa, xb⟩ := x
    dsimp only at hbox kN kx hvx hnx hol hgs ⊢
    obtain ⟨v, hv1, hrow, hnil⟩ := hbox.ex
    have hvx1 : v.ownBlock ≠ some Bx := fun e => by have := (hrow.lt _ e).2; omega
    have hvx2 : ∀ g, v.ownBlock = some g → W0.heap.size + 2 ≤ g := fun g e => (hrow.lt _ e).1
    replace hv1 := hfa.blk hv1 (by omega)
    replace hrow := ownsRow_far hrow hfa (fun g e => by have := hvx2 g e; omega)
    have cx := kx.cell
    have cv := hv1.cell
    have fv := hv1.frozen
    have cn := kN.cell
    have fn_ := kN.frozen
    have kW := Blk.new W 40 #[.int .i64 nx, .int .i64 (xa - nx)]
    by_cases hgt : nx < xa
    · have hgt' : decide (nx < xa) = true := by simpa using hgt
      have hG : Hid (gfold p (pre ++ [(xa, xb)]) = (out ++ [(nx, xa - nx)], xa + xb)) := Lib.hid (by rw [hgs.out, gst, if_pos hgt])
      clear hgs hgt
      gi_wp2_with (first
        | (gi_at_builtin; refine wpListIn_append_own _ rfl (.tmp 19) (.tmp 26) 36 rfl (W0.heap.size + 2) 40 i0 (.agg #[.int .i64 0, .int .i64 0]) 2 16 Try.underlying36 hi hz0 hz1 hz2 rfl (by decide) v out.length (spCells out) rfl (hrow.alloc _) ⟨W.heap.size, 0, none⟩ 1 1 [.int .i64 nx, .int .i64 (xa - nx)] rfl rfl (news_two kW) news_one2 (by unfold maxLen; omega) (by omega) (by simp; omega) ?_; intro v' w1 hown' hgrow _; rw [← spCells_snoc out (nx, xa - nx)] at hown'; obtain ⟨hv2, hb2, hf2⟩ := BoxS.appended hv1 (by decide) hrow hown' (by simp) (by simp) hgrow; obtain ⟨A', cap', rfl⟩ := own_nil_iff hown' (by simp); have cv1 := hv2.cell; have fv1 := hv2.frozen; have hf3 := hf2 (fun k => k = s + 1 ∨ v.ownBlock = some k) (.inl rfl) (fun g e => .inr e); have kN2 := hf3.blk kN (by rintro (h | h); omega; have := hvx2 _ h; omega); have kx2 := hf3.blk kx (by rintro (h | h); omega; exact hvx1 h); have kI2 := hf3.blk kI (by rintro (h | h); omega; have := hvx2 _ h; omega); have cn2 := kN2.cell; have cx2 := kx2.cell)
        | (gi_at_call 93; refine (CallsIn.inRound l (callsIn_wide.2 (end_any _ _ _ (by omega) (by omega)))).mono ?_; rintro e w3 ⟨rfl, hq3⟩; have kN3 := kN2.call hq3; have cn3 := kN3.cell; have fn3 := kN3.frozen))
      have kI3 := kI2.call hq3
      have hb3 := hb2.far (.of_below hq3 : Far (fun _ => False) _ _) id (fun _ _ h => h)
      have hf4 : Far (fun k => k = s + 2) w3 (w3.setCell ⟨s + 2, 0, none⟩ (.int .i64 (xa + xb))) := Far.setCell (T := fun k => k = s + 2) (p := ⟨s + 2, 0, none⟩) (Far.refl _ _) (fun _ => rfl) _
      have hf5 : Far (fun k => k = s + 1 ∨ k = s + 2 ∨ v.ownBlock = some k) W (w3.setCell ⟨s + 2, 0, none⟩ (.int .i64 (xa + xb))) := (Far.call (hf3.mono fun k _ h => by rcases h with h | h; exact .inl h; exact .inr (.inr h)) hq3).trans (hf4.mono fun k _ h => .inr (.inl h))
      show Far _ _ _ ∧ (BoxS _ _ _ _ _ (gfold p (pre ++ [(xa, xb)])).1 ∧ Blk _ _ _ #[.int .i64 (gfold p (pre ++ [(xa, xb)])).2] ∧ _ ∧ _)
      rw [hG.out]
      refine ⟨hf5.mono fun k _ h => ?_, hb3.far hf4 (by omega) (fun g hg => by omega), kN3.set_ 0 _, hf4.blk kI3 (by omega), hB.trans (hf5.below (by have := hB.size; omega) (fun k hk => ?_))⟩
      · rcases h with h | h | h
        · omega
        · omega
        · have := hvx2 k h; omega
      · rintro (h | h | h)
        · omega
        · omega
        · have := hvx2 k h; omega
    · have hgt' : decide (nx < xa) = false := by simpa using hgt
      have hG : Hid (gfold p (pre ++ [(xa, xb)]) = (out, xa + xb)) := Lib.hid (by rw [hgs.out, gst, if_neg hgt])
      clear hgs hgt
      gi_wp2_with (gi_at_call 93; refine (CallsIn.inRound l (callsIn_wide.2 (end_any _ _ _ (by omega) (by omega)))).mono ?_; rintro e w3 ⟨rfl, hq3⟩; have kN3 := kN.call hq3; have cn3 := kN3.cell; have fn3 := kN3.frozen)
      have kI3 := kI.call hq3
      have hb2 : BoxS W (s + 1) 36 40 (W0.heap.size + 2) out := ⟨v, hv1, hrow, hnil⟩
      have hb3 := hb2.far (.of_below hq3 : Far (fun _ => False) _ _) id (fun _ _ h => h)
      have hf4 : Far (fun k => k = s + 2) w3 (w3.setCell ⟨s + 2, 0, none⟩ (.int .i64 (xa + xb))) := Far.setCell (T := fun k => k = s + 2) (p := ⟨s + 2, 0, none⟩) (Far.refl _ _) (fun _ => rfl) _
      have hf5 : Far (fun k => k = s + 2) W (w3.setCell ⟨s + 2, 0, none⟩ (.int .i64 (xa + xb))) := (Far.of_below hq3).trans hf4
      show Far _ _ _ ∧ (BoxS _ _ _ _ _ (gfold p (pre ++ [(xa, xb)])).1 ∧ Blk _ _ _ #[.int .i64 (gfold p (pre ++ [(xa, xb)])).2] ∧ _ ∧ _)
      rw [hG.out]
      refine ⟨hf5.mono fun k _ h => by omega, hb3.far hf4 (by omega) (fun g hg => by omega), kN3.set_ 0 _, hf4.blk kI3 (by omega), hB.trans (hf5.below (by have := hB.size; omega) (fun k hk => by omega))⟩
  case done =>
    rintro W hsz ⟨hbox, kN, kI, hB⟩ hd
    rw [hs0] at hd hbox hsz
    have hfin := Lib.hid (gfold_gaps (commonF us [(p, q)]) p (p + q))
    have hnx := gfold_next (commonF us [(p, q)]) p hp0 (fun y hy => hvl y hy)
    have hol : (gfold p (commonF us [(p, q)])).1.length ≤ 512 := by have := gfold_len (commonF us [(p, q)]) [] p; simp only [List.length_nil] at this; unfold gfold; omega
    have hq0 : -100000 ≤ q ∧ q ≤ 100000 := by have := vld_iff.1 hv; simp only at this; omega
    have hq1 : 0 ≤ p + q ∧ p + q ≤ 1024 := by have := vld_iff.1 hv; simp only at this; omega
    have hgf : Hid (gfin (gfold p (commonF us [(p, q)])) (p + q) = L) := Lib.hid (by rw [hfin.out]; exact hL.out)
    clear hfin
    generalize gfold p (commonF us [(p, q)]) = st at *
    obtain ⟨out, nx⟩ := st
    dsimp only at hbox kN hnx hol
    obtain ⟨v, hv1, hrow, hnil⟩ := hbox.ex
    have hvx2 : ∀ g, v.ownBlock = some g → s + 6 + 2 ≤ g := fun g e => (hrow.lt _ e).1
    have HE : Hid (∀ z : Ext W, Calls Try.prog 93 #[.agg #[.int .i64 p, .int .i64 q]] z.w fun e w'' => e = .returned (.int .i64 (p + q)) ∧ ∃ t : Ext W, w'' = t.w) := Lib.hid (fun z => Ext.call (end_any p q _ (by omega) hq0))
    have e1 := fun z : Ext W => (z.blk kN).cell
    have e2 := fun z : Ext W => (z.blk kI).cell
    by_cases hlt : nx < p + q
    · have hlt' : decide (nx < p + q) = true := by simpa using hlt
      have hE : Hid (L = out ++ [(nx, p + q - nx)]) := Lib.hid (by rw [← hgf.out, gfin, if_pos hlt])
      go_upto_region 8 with fail
      refine region_ext (by kernel_rfl) (by kernel_rfl) ?_
      repeat (go_big_quiet_step ((go_at_call 93; exact HE.out _)))
      refine wpQuiet_nil ?_
      rintro w2 ⟨⟨_, hw2⟩, rfl⟩
      clear e1 e2 HE hgf
      have kN2 := kN.call hw2
      have kI2 := kI.call hw2
      have hv2 := hv1.call hw2
      have hrow2 := ownsRow_call hrow hw2
      have hd2 : w2.heap[s + 6]? = some (.deferred (some [])) := (Far.of_below (T := fun _ => False) hw2).same hd id
      have hB2 := hB.trans (hw2.mono (by have := hB.size; omega))
      have hS0 : GapS s p q nx v w2 := ⟨kI2.cell 0, kI2.cell 1, kN2.cell 0, hv2.cell 0⟩
      have HEW := Lib.hid (fun W => end_any p q W (by omega) hq0)
      have hsz2 : s + 6 + 2 ≤ w2.heap.size := Nat.le_trans hsz hw2.size
      go_upto_region 9 with fail
      refine wp_noPanic ?_
      refine wp_region_T (GapS s p q nx v) [9] (by kernel_rfl) ?_
      have hS : GapS s p q nx v w2.drew := hS0
      refine' wpAnyT_take (i := 0) (v := _) ?hiT0 (by kernel_rfl) ?hQT0 (Or.inl ⟨?hwT0, ?hyT0⟩) hS ?reT0
      case hiT0 => (simp only [List.getElem?_toArray, List.getElem?_cons_zero]; rfl)
      case hQT0 => exact fun _ _ _ h => h
      case hwT0 => rfl
      case hyT0 => (intro wS hSw; obtain ⟨_, _⟩ := hSw; go_simp; (try with_reducible rfl))
      try simp only [Act.put, List.setIfInBounds_toArray, List.set_cons_zero, List.set_cons_succ]
      refine' wpAnyT_take (i := 1) (v := _) ?hiT1 (by kernel_rfl) ?hQT1 (Or.inl ⟨?hwT1, ?hyT1⟩) hS ?reT1
      case hiT1 => (simp only [List.getElem?_toArray, List.getElem?_cons_succ, List.getElem?_cons_zero]; rfl)
      case hQT1 => exact fun _ _ _ h => h
      case hwT1 => rfl
      case hyT1 => (intro wS hSw; obtain ⟨_, _⟩ := hSw; go_simp; (try with_reducible rfl))
      try simp only [Act.put, List.setIfInBounds_toArray, List.set_cons_zero, List.set_cons_succ]
      refine' wpAnyT_take (i := 2) (v := _) ?hiT2 (by kernel_rfl) ?hQT2 (Or.inl ⟨?hwT2, ?hyT2⟩) hS ?reT2
      case hiT2 => (simp only [List.getElem?_toArray, List.getElem?_cons_succ, List.getElem?_cons_zero]; rfl)
      case hQT2 => exact fun _ _ _ h => h
      case hwT2 => rfl
      case hyT2 => (intro wS hSw; obtain ⟨_, _⟩ := hSw; go_simp; (try with_reducible rfl))
      try simp only [Act.put, List.setIfInBounds_toArray, List.set_cons_zero, List.set_cons_succ]
      refine' wpAnyT_take (i := 4) (v := _) ?hiT4 (by kernel_rfl) ?hQT4 (Or.inl ⟨?hwT4, ?hyT4⟩) hS ?reT4
      case hiT4 => (simp only [List.getElem?_toArray, List.getElem?_cons_succ, List.getElem?_cons_zero]; rfl)
      case hQT4 => exact fun _ _ _ h => h
      case hwT4 => rfl
      case hyT4 => (intro wS hSw; obtain ⟨_, _⟩ := hSw; go_simp; (try with_reducible rfl))
      try simp only [Act.put, List.setIfInBounds_toArray, List.set_cons_zero, List.set_cons_succ]
      refine wpAnyT_ready (rs := [3]) (by kernel_rfl) (by simp) ?_
      refine' AllReadyT.cons ?hi3 (fun K hK => ?st3) AllReadyT.nil
      case hi3 => (simp only [List.getElem?_toArray, List.getElem?_cons_succ, List.getElem?_cons_zero]; rfl)
      go_simp
      refine (HEW.out _).mono ?_
      rintro e w3 ⟨rfl, hq3⟩
      have hq3' : Below w2.heap.size w2 w3 := (Below.refl _ w2).drew.trans hq3
      refine hK.out _ _ (fun _ => hS0.later hq3' (by omega)) (fun hS => ?_)
      clear hK K
      replace hS := hS rfl
      try simp only [Act.put, List.setIfInBounds_toArray, List.set_cons_zero, List.set_cons_succ]
      refine' wpAnyT_take (i := 5) (v := _) ?hiT5g (by kernel_rfl) ?hQT5g (Or.inl ⟨?hwT5g, ?hyT5g⟩) hS ?reT5g
      case hiT5g => (simp only [List.getElem?_toArray, List.getElem?_cons_succ, List.getElem?_cons_zero]; rfl)
      case hQT5g => exact fun _ _ _ h => h
      case hwT5g => rfl
      case hyT5g => (intro wS hSw; obtain ⟨_, _⟩ := hSw; go_simp; (try with_reducible rfl))
      try simp only [Act.put, List.setIfInBounds_toArray, List.set_cons_zero, List.set_cons_succ]
      rw [IntWalk.i64_in (p + q - nx) (by omega)]
      refine' wpAnyT_take (i := 6) (v := _) ?hiT6g (by kernel_rfl) ?hQT6g (Or.inl ⟨?hwT6g, ?hyT6g⟩) hS ?reT6g
      case hiT6g => (simp only [List.getElem?_toArray, List.getElem?_cons_succ, List.getElem?_cons_zero]; rfl)
      case hQT6g => exact fun _ _ _ h => h
      case hwT6g => rfl
      case hyT6g => (intro wS hSw; obtain ⟨_, _⟩ := hSw; go_simp; (try with_reducible rfl))
      try simp only [Act.put, List.setIfInBounds_toArray, List.set_cons_zero, List.set_cons_succ]
      refine wpAnyT_ready (rs := [7]) (by kernel_rfl) (by simp) ?_
      refine' AllReadyT.cons ?hi7 (fun K hK => ?st7) AllReadyT.nil
      case hi7 => (simp only [List.getElem?_toArray, List.getElem?_cons_succ, List.getElem?_cons_zero]; rfl)
      go_simp
      have hq4 := hq3'.alloc hq3'.size (.cells #[.int .i64 nx, .int .i64 (p + q - nx)] 40)
      refine hK.out _ _ (fun _ => hS0.later hq4 (by omega)) (fun hS => ?_)
      clear hK K
      replace hS := hS rfl
      have kW := Blk.new w3 40 #[.int .i64 nx, .int .i64 (p + q - nx)]
      have hv3 := hv2.call hq3'
      have hrow3 := ownsRow_call hrow2 hq3'
      have hs3 : s + 6 + 2 ≤ w3.heap.size := Nat.le_trans hsz2 hq3'.size
      try simp only [Act.put, List.setIfInBounds_toArray, List.set_cons_zero, List.set_cons_succ]
      refine wpAnyT_ready (rs := [8]) (by kernel_rfl) (by simp) ?_
      refine' AllReadyT.cons ?hi8 (fun K hK => ?st8) AllReadyT.nil
      case hi8 => (simp only [List.getElem?_toArray, List.getElem?_cons_succ, List.getElem?_cons_zero]; rfl)
      rw [if_pos (by simp [Region.wanted])]
      refine wp_append_own _ (.tmp 34) (.tmp 41) 36 rfl (s + 6 + 2) 40 i0 (.agg #[.int .i64 0, .int .i64 0]) 2 16 Try.underlying36 hi hz0 hz1 hz2 rfl (by decide) v out.length (spCells out) rfl (hrow3.alloc _) ⟨w3.heap.size, 0, none⟩ 1 1 [.int .i64 nx, .int .i64 (p + q - nx)] rfl rfl (news_two kW) news_one2 (by unfold maxLen; omega) (by omega) (by simp; omega) ?_
      intro v' w4 hown' hgrow _
      rw [← spCells_snoc out (nx, p + q - nx)] at hown'
      obtain ⟨hv4, hb4, hf4⟩ := BoxS.appended hv3 (by decide) hrow3 hown' (by simp) (by simp) hgrow
      obtain ⟨A', cap', rfl⟩ := own_nil_iff hown' (by simp)
      have cv4 := hv4.cell
      have fv4 := hv4.frozen
      have hq5 : Below (s + 6 + 2) w2 w4 := (hq4.mono hsz2).grown hgrow (by simp; omega) (fun j hj => hvx2 j hj)
      refine hK.out _ _ (fun _ => hS0.later hq5 (by omega)) (fun hS => ?_)
      clear hK K
      replace hS := hS rfl
      try simp only [Act.put, List.setIfInBounds_toArray, List.set_cons_zero, List.set_cons_succ]
      refine wpAnyT_ready (rs := [9]) (by kernel_rfl) (by simp) ?_
      refine' AllReadyT.cons ?hi9 (fun K hK => ?st9) AllReadyT.nil
      case hi9 => (simp only [List.getElem?_toArray, List.getElem?_cons_succ, List.getElem?_cons_zero]; rfl)
      go_simp
      refine hK.out _ _ (fun h => absurd h (by decide)) (fun _ => ?_)
      clear hK K
      refine wpAnyT_done (by kernel_rfl) ?_ _
      refine noPanic_normal ?_
      obtain ⟨v5, k5, hrow5, _⟩ := hb4.ex
      have hf5 := hf4 (fun k => k = s + 1 ∨ v.ownBlock = some k) (.inl rfl) (fun g e => .inr e)
      have hB3 := hB2.trans (hq3'.mono (by have := hB2.size; have := hB.size; omega))
      generalize w4.setCell ⟨s + 1, 0, none⟩ (.slice A' (out.length + 1) cap') = w5 at *
      have hd5 : w5.heap[s + 6]? = some (.deferred (some [])) := hf5.same ((Far.of_below (T := fun _ => False) hq3').same hd2 id) (by rintro (h | h); omega; have := hvx2 _ h; omega)
      have hB5 := hB3.trans (hf5.below (by have := hB3.size; have := hB.size; omega) (fun k hk => by rintro (h | h); omega; have := hvx2 _ h; omega))
      have c5 := k5.cell
      obtain ⟨A5, cap5, rfl⟩ := own_nil_iff hrow5 rfl
      clear hv4 hb4 hf4 cv4 fv4 hown' hgrow
      go_wp2_with fail
      rw [hE.out]
      have hfp : Far (fun k => k = s + 6) w5 (w5.putObj (s + 6) (.deferred none)) := Far.putObj (T := fun k => k = s + 6) (Far.refl _ _) (fun _ => rfl) _
      have hrow6 := ownsRow_far hrow5 hfp (fun g hg h => by have := (hrow5.lt g hg).1; omega)
      obtain ⟨A6, cap6, he, hru, h1, h2, h3, _⟩ := own_RU hrow6 rfl
      cases he
      exact leave_mark (v := .slice A5 (out ++ [(nx, p + q - nx)]).length cap5) hd5 (by simp [results, Try.results85, go_sem]) ⟨A5, cap5, rfl, hru, h1, h2, fun b o e => by have := h3 b o e; omega, by rw [hs]; exact hB5.trans (hfp.below (by have := hB5.size; omega) (fun k hk => by omega)), own_cap hrow6⟩
    · have hlt' : decide (nx < p + q) = false := by simpa using hlt
      have hE : Hid (L = out) := Lib.hid (by rw [← hgf.out, gfin, if_neg hlt, List.append_nil])
      go_upto_region 8 with fail
      refine region_ext (by kernel_rfl) (by kernel_rfl) ?_
      repeat (go_big_quiet_step ((go_at_call 93; exact HE.out _)))
      refine wpQuiet_nil ?_
      rintro w2 ⟨⟨_, hw2⟩, rfl⟩
      have hv2 := hv1.call hw2
      have hrow2 := ownsRow_call hrow hw2
      have hd2 : w2.heap[s + 6]? = some (.deferred (some [])) := (Far.of_below (T := fun _ => False) hw2).same hd id
      have hB2 := hB.trans (hw2.mono (by have := hB.size; omega))
      have cv := hv2.cell
      obtain ⟨A', cap', rfl⟩ := own_nil_iff hrow2 rfl
      go_wp2_with fail
      rw [hE.out]
      have hfp : Far (fun k => k = s + 6) w2 (w2.putObj (s + 6) (.deferred none)) := Far.putObj (T := fun k => k = s + 6) (Far.refl _ _) (fun _ => rfl) _
      have hrow3 := ownsRow_far hrow2 hfp (fun g hg h => by have := (hrow2.lt g hg).1; omega)
      obtain ⟨A2, cap2, he, hru, h1, h2, h3, _⟩ := own_RU hrow3 rfl
      cases he
      exact leave_mark (v := .slice A' out.length cap') hd2 (by simp [results, Try.results85, go_sem]) ⟨A', cap', rfl, hru, h1, h2, fun b o e => by have := h3 b o e; omega, hB2.trans (hfp.below (by have := hB2.size; omega) (fun k hk => by omega)), own_cap hrow3⟩
  case stop => exact fun _ _ _ _ _ h _ => h.elim
theorem gaps_any (A : Option Addr) (n cap : Nat) (us : List Sp) (p q : Int) (w : World) (hn : us.length = n) (hm : n ≤ cap) (hc : cap ≤ maxLen) (hr : RU w w.heap.size A us) (hu : Go.Pol.Can us) (hv : vld (p, q) = true) :
    Calls Try.prog 85 #[.slice A n cap, .agg #[.int .i64 p, .int .i64 q]] w fun e w' => ∃ (A' : Option Addr) (cap' : Nat), e = .returned (.slice A' (gapsF us (p, q)).length cap') ∧ RU w' w'.heap.size A' (gapsF us (p, q)) ∧ (gapsF us (p, q)).length ≤ cap' ∧ cap' ≤ maxLen ∧ (∀ b o, A' = some ⟨b, o, none⟩ → w.heap.size ≤ b) ∧ Below w.heap.size w w' := by
  refine (gaps_own A n cap us p q w hn hm hc hr hu hv).mono ?_
  rintro e w' ⟨A', cap', h1, h2, h3, h4, h5, h6, _⟩
  exact ⟨A', cap', h1, h2, h3, h4, h5, h6⟩
/-- what hands back a slice of spans of its own and an error -/
def SpansOwn (w : World) (us : List Sp) (er : Int) (e : Ending) (w' : World) : Prop :=
  ∃ (A : Option Addr) (cap : Nat), e = .returned (.tuple #[.slice A us.length cap, .int .i64 er]) ∧ RU w' w'.heap.size A us ∧ us.length ≤ cap ∧ cap ≤ maxLen ∧ (∀ b o, A = some ⟨b, o, none⟩ → w.heap.size ≤ b) ∧ Below w.heap.size w w' ∧ (A = none → cap = 0)
theorem not_own (A : Option Addr) (n cap : Nat) (us : List Sp) (p q : Int) (w : World) (hn : us.length = n) (hm : n ≤ cap) (hc : cap ≤ maxLen) (hr : RU w w.heap.size A us) :
    Calls Try.prog 66 #[.slice A n cap, .agg #[.int .i64 p, .int .i64 q]] w (SpansOwn w (if askS us (p, q) = 0 then gapsF us (p, q) else []) (askS us (p, q))) := by
  have HA := Lib.hid (fun W h => ask_any A n cap us p q W hn (Nat.le_trans hm hc) h)
  have hb0 := (Below.refl w.heap.size w).alloc (Nat.le_refl _) (.cells #[.int .i64 p, .int .i64 q] 40)
  have k0 := Blk.new w 40 #[.int .i64 p, .int .i64 q]
  have hr0 : RU _ _ A us := (hr.below hb0).more hb0.size
  by_cases h0 : askS us (p, q) = 0
  · have h0' := h0
    unfold askS at h0'
    have hcu : Go.Pol.Can us := by
      by_cases hz : chkS us = 0
      · exact chkS_zero.1 hz
      · rw [if_neg hz] at h0'; exact absurd h0' hz
    have hv : vld (p, q) = true := by
      rw [if_pos (chkS_zero.2 hcu)] at h0'
      by_cases hz : vld (p, q) = true
      · exact hz
      · rw [if_neg hz] at h0'; cases h0'
    clear h0'
    rw [h0] at HA ⊢
    rw [if_pos rfl]
    have HG := Lib.hid (fun W h => gaps_own A n cap us p q W hn hm hc h hcu hv)
    obtain ⟨L, hL0⟩ : ∃ L, gapsF us (p, q) = L := ⟨_, rfl⟩
    rw [hL0] at HG ⊢
    clear hL0 h0
    go_enter Try.func66, Try.ntmps66
    go_wp2_with (first
      | (go_at_call 84; refine (HA.out _ hr0).mono ?_; rintro e w1 ⟨rfl, hq⟩; have k1 := k0.call hq; have c1 := k1.cell; have hb1 := hb0.trans (hq.mono hb0.size); have hr1 : RU _ _ A us := (hr0.below hq).more hq.size)
      | (go_at_call 85; refine (HG.out _ hr1).mono ?_; rintro e w2 ⟨A', cap', rfl, hru, h1, h2, h3, hq2, h4⟩))
    go_ret2
    exact ⟨A', cap', rfl, hru, h1, h2, fun b o e => by have := h3 b o e; have := hb1.size; omega, hb1.trans (hq2.mono hb1.size), h4⟩
  · rw [if_neg h0]
    generalize askS us (p, q) = er at *
    have hc' : (er != 0) = true := by simpa using h0
    clear h0
    go_enter Try.func66, Try.ntmps66
    go_wp2_with (go_at_call 84; refine (HA.out _ hr0).mono ?_; rintro e w1 ⟨rfl, hq⟩; have hb1 := hb0.trans (hq.mono hb0.size))
    go_ret2
    exact ⟨none, 0, rfl, RU.nil, by simp, by unfold maxLen; omega, fun b o e => (by cases e), hb1, fun _ => rfl⟩
theorem not_any (A : Option Addr) (n cap : Nat) (us : List Sp) (p q : Int) (w : World) (hn : us.length = n) (hm : n ≤ cap) (hc : cap ≤ maxLen) (hr : RU w w.heap.size A us) :
    Calls Try.prog 66 #[.slice A n cap, .agg #[.int .i64 p, .int .i64 q]] w (SpansR w (if askS us (p, q) = 0 then gapsF us (p, q) else []) (askS us (p, q))) := by
  refine (not_own A n cap us p q w hn hm hc hr).mono ?_
  rintro e w' ⟨A', cap', h1, h2, h3, h4, h5, h6, _⟩
  exact ⟨A', cap', h1, h2, h3, h4, h5, h6⟩
end Go.Proofs.Ytfmnlpgboolpmaa
