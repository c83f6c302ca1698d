/- Walks: slices.AppendSeq and slices.Collect over blocks that a function value hands out. -/
import Derived.Test.YtifdgabfnnkghaaVWalkC
namespace Go.Pol
open Go Go.RowKit
theorem own_nilT {w : World} {base n : Nat} {e : TypeId} {v : Value} {bs : List B3} (h : w.ownsRow base e 3 v n (tCells bs)) (hn : bs.length = n) : ∃ (A : Option Addr) (cap : Nat), v = .slice A n cap := by
  obtain ⟨A, cap, hv, _⟩ := own_RT h hn
  exact ⟨A, cap, hv⟩
end Go.Pol
namespace Go.Proofs.Ytifdgabfnnkghaa
open Go Go.Proofs Go.RowKit Go.Pol Go.Shelf
attribute [local go_sem] Oper.semAt_some Go.Pol.wide_fn Go.Pol.wide_depth Go.Pol.wide_fn' Go.Pol.wide_depth'

theorem infoMv : (Try.prog.info? 44).map (fun i => (i.zero, i.size, i.bytes)) = some (some (.agg #[.int .i64 0, .int .i64 0, .bool false]), 3, 24) := by kernel_rfl
theorem infoMv_parts : ∃ i0, Try.prog.info? 44 = some i0 ∧ i0.zero = some (.agg #[.int .i64 0, .int .i64 0, .bool false]) ∧ i0.size = 3 ∧ i0.bytes = 24 := by
  obtain ⟨i0, h⟩ := info_parts infoMv
  exact ⟨i0, h⟩
set_option maxRecDepth 100000 in
set_option maxHeartbeats 3200000 in
theorem appendSeqT_any (g : Nat) (lb : Array Value) (K : Nat → Prop) (xs : List B3) (w : World) (hxs : xs.length ≤ 1000000)
    (hseq : SeqX Try.prog g lb tA (fun _ => False) K xs w) (eg : ∀ args w, (callFunc g args).run Try.prog w = .ok (.enter g args) w) (hK : ∀ k, K k → k < w.heap.size) :
    Calls Try.prog 64 #[.slice none 0 0, .func (.func g) #[] lb] w fun e w' => ∃ v, e = .returned v ∧ w'.ownsRow w.heap.size 44 3 v xs.length (tCells xs) ∧ Below w.heap.size w w' := by
  obtain ⟨i0, hi, hz0, hz1, hz2⟩ := infoMv_parts
  obtain ⟨s, hs⟩ : ∃ s, w.heap.size = s := ⟨_, rfl⟩
  obtain ⟨W0, hW0⟩ : ∃ W0, w.alloc (.cells #[.slice none 0 0] 22) = W0 := ⟨_, rfl⟩
  have hs0 : W0.heap.size = s + 1 := by rw [← hW0, ← hs]; simp
  have kO : Blk W0 s 22 #[.slice none 0 0] := by rw [← hW0, ← hs]; exact Blk.new _ _ _
  have hb0 : Below s w W0 := by rw [← hW0, ← hs]; exact (Below.refl w.heap.size w).alloc (Nat.le_refl _) _
  have hF0 : Far (fun _ => False) w W0 := .of_below (by rw [hs]; exact hb0)
  have hW1 := Lib.hid hW0
  clear hW0
  refine calls_of_marks Try.func64 rfl ?_
  simp only [Try.ntmps64, List.size_toArray, List.length_cons, List.length_nil, Nat.reduceAdd, Nat.reduceSub, Array.replicate_succ, Array.replicate_zero, List.push_toArray, List.append_toArray, List.nil_append, List.cons_append]
  go_wp2_with fail
  rw [hW1.out]
  clear hW1
  have ls1 := kO.lt
  have hlen : ∀ (pre : List B3) (x : B3), pre ++ [x] <+: xs → pre.length < 1000000 := fun pre x h => by
    have := h.length_le
    simp at this
    omega
  refine rangeXT 5 7 44 (gf := g) (lb := lb) rfl eg (hseq.later (hF0.mono fun _ _ h => h.elim)) rfl (fun _ h => h.elim) (fun k h => by have := hK k h; omega)
    (fun X pre W => BoxX X W s 22 44 (s + 3) 3 pre.length (tCells pre) ∧ Below s w W ∧ ∀ k, X k → s ≤ k)
    (fun _ _ _ _ => False)
    (fun X pre A B h hf => ⟨h.1.far hf (by rintro (h | h | h | h) <;> first | exact h | exact h.elim | omega) (fun g hg => by rintro (h | h | h | h) <;> first | exact h | exact h.elim | omega),
      h.2.1.trans (hf.below (by rw [← hs]; exact h.2.1.size) (fun k hk => by rintro (h' | h' | h' | h'); exact h'; have := h.2.2 k h'; omega; omega; omega)), h.2.2⟩)
    (fun _ _ _ _ _ h _ => h.elim)
    (fun X X' pre A h hX => ⟨h.1.new hX, h.2.1, fun k hk => (hX _ hk).elim (h.2.2 k) (fun h' => by have := h.2.1.size; omega)⟩)
    ⟨⟨_, kO, World.ownsRow_nil _ _ _ _, id, fun _ _ => id⟩, hb0, fun _ h => h.elim⟩ ?assign ?body ?done (fun _ _ _ _ _ _ h _ => h.elim)
  case assign =>
    intro m l x W C hC
    simp only [List.setIfInBounds_toArray, List.set_cons_succ, List.set_cons_zero] at hC ⊢
    gi_wp2
    exact hC
  case body =>
    rintro m l X pre x Bx Wa W hsz hXlt ⟨hbox, hB, hXs⟩ hpre hBx kx hBa
    simp only [List.setIfInBounds_toArray, List.set_cons_succ, List.set_cons_zero]
    have hlt := hlen pre x hpre
    obtain ⟨v, hv, hrow, hXB, hXg⟩ := hbox.ex
    obtain ⟨A', cap', rfl⟩ := own_nilT hrow rfl
    obtain ⟨pl, hpl⟩ : ∃ pl, pre.length = pl := ⟨_, rfl⟩
    obtain ⟨xa, xo, xc⟩ := x
    dsimp only at kx
    have cx := kx.cell
    have cv := hv.cell
    have fv := hv.frozen
    have kN := Blk.new W 44 #[.int .i64 xa, .int .i64 xo, .bool xc]
    have hXl2 : ∀ k, X k → k < W.heap.size := fun k hk => by have := (hXlt k hk).1; have := kx.lt; omega
    rw [hpl] at hrow hv cv hlt hXg
    gi_wp2_with (gi_at_builtin; refine wpListIn_append_x _ rfl (.tmp 8) (.tmp 10) 22 rfl (s + 3) 44 i0 (.agg #[.int .i64 0, .int .i64 0, .bool false]) 3 24 Try.underlying22 hi hz0 hz1 hz2 rfl (by decide) _ pl (tCells pre) rfl (hrow.alloc _) ⟨W.heap.size, 0, none⟩ 1 1 [.int .i64 xa, .int .i64 xo, .bool xc] rfl rfl (news_three kN) news_one3 (by unfold maxLen; omega) (by omega) (by simp; omega) ?_; intro v' w1 hown' hgrow hblk; rw [← tCells_snoc pre (xa, xo, xc)] at hown'; obtain ⟨hv1, hb2, hf2⟩ := BoxX.appended hv (by decide) hrow hXB hXg hown' hgrow hblk hXl2; obtain ⟨A2, cap2, rfl⟩ := own_nilT hown' (by simp; omega); have cv1 := hv1.cell; have fv1 := hv1.frozen)
    have hgx : ∀ g, (Value.slice A' pl cap').ownBlock = some g → s + 3 ≤ g ∧ ¬ X g := fun g hg => ⟨(hrow.lt g hg).1, hXg g hg⟩
    have hf3 := hf2 (fun k => k = s ∨ (Value.slice A' pl cap').ownBlock = some k) (.inl rfl) (fun g hg => .inr hg)
    refine ⟨hf3.mono fun k _ h => ?_, ?_, hB.trans (hf3.below (by have := hB.size; omega) fun k hk => ?_), hXs⟩
    · rintro (h' | h' | h' | h')
      · have := hK k h'
        rcases h with h | h
        · omega
        · have := hgx k h; omega
      · rcases h with h | h
        · exact hXB (h ▸ h')
        · exact (hgx k h).2 h'
      · rcases h with h | h
        · omega
        · have := hgx k h; omega
      · rcases h with h | h
        · omega
        · have := hgx k h; omega
    · rw [List.length_append, List.length_singleton, hpl]; exact hb2
    · rintro (h | h)
      · omega
      · have := hgx _ h; omega
  case done =>
    rintro X W hsz ⟨hbox, hB, hXs⟩ hd
    obtain ⟨v, hv, hrow, hXB, hXg⟩ := hbox.ex
    have cv := hv.cell
    obtain ⟨A', cap', rfl⟩ := own_nilT hrow rfl
    rw [hs0] at hd hsz
    go_wp2_with fail
    rw [hs0]
    have hfp : Far (fun k => k = s + 1) W (W.putObj (s + 1) (.deferred none)) := Far.putObj (T := fun k => k = s + 1) (Far.refl _ _) (fun _ => rfl) _
    have hrow3 := ownsRow_far hrow hfp (fun g hg h => by have := (hrow.lt g hg).1; omega)
    exact leave_mark (v := .slice A' xs.length cap') hd (by simp [results, Try.results64, go_sem]) ⟨_, rfl, ownsRow_base hrow3 (by omega), by rw [hs]; exact hB.trans (hfp.below (by have := hB.size; omega) (fun k hk => by omega))⟩

theorem collectT_any (g : Nat) (lb : Array Value) (K : Nat → Prop) (xs : List B3) (w : World) (hxs : xs.length ≤ 1000000)
    (hseq : SeqX Try.prog g lb tA (fun _ => False) K xs w) (eg : ∀ args w, (callFunc g args).run Try.prog w = .ok (.enter g args) w) (hK : ∀ k, K k → k < w.heap.size) :
    Calls Try.prog 51 #[.func (.func g) #[] lb] w fun e w' => ∃ v, e = .returned v ∧ w'.ownsRow w.heap.size 44 3 v xs.length (tCells xs) ∧ Below w.heap.size w w' := by
  have HA := Lib.hid (appendSeqT_any g lb K xs w hxs hseq eg hK)
  go_enter Try.func51, Try.ntmps51
  go_wp2_with (go_at_call 64; refine (HA.out).mono ?_; rintro e w1 ⟨v, rfl, hown, hf⟩)
  go_ret
  exact ⟨v, rfl, hown, hf⟩
end Go.Proofs.Ytifdgabfnnkghaa
