/- Walks: slices.Collect over a function value that goes through spans; the usable pages of a plan. -/
import Derived.Test.YtfmnlpgboolpmaaGWalkC
import Derived.Test.YtfmnlpgboolpmaaGLibS
import Derived.Maps.AppendAt
import Derived.Shelf.Abstract
namespace Go.Proofs.Ytfmnlpgboolpmaa
open Go Go.Proofs Go.RowKit Go.Pol Go.Shelf
attribute [local go_sem] Oper.semAt_some Go.Pol.wide_fn Go.Pol.wide_depth Go.Pol.wide_fn' Go.Pol.wide_depth'

theorem runs_any (pg n f b ev : Int) (w : World) :
    Calls Try.prog 68 #[planV pg n f b ev] w fun e w' => e = .returned (.func (.func 102) #[] #[.pointer (some ⟨w.heap.size, 0, none⟩)]) ∧ w' = w.alloc (.cells (planC pg n f b ev) 25) := by
  go_enter Try.func68, Try.ntmps68
  go_wp2
  go_ret
  exact ⟨rfl, rfl⟩
theorem common_any (A1 A2 : Option Addr) (n1 c1 n2 c2 : Nat) (w : World) :
    Calls Try.prog 81 #[.slice A1 n1 c1, .slice A2 n2 c2] w fun e w' => e = .returned (.func (.func 106) #[] #[.pointer (some ⟨w.heap.size, 0, none⟩), .pointer (some ⟨w.heap.size + 1, 0, none⟩)]) ∧
      w' = (w.alloc (.cells #[.slice A1 n1 c1] 36)).alloc (.cells #[.slice A2 n2 c2] 36) := by
  go_enter Try.func81, Try.ntmps81
  go_wp2
  go_ret
  exact ⟨rfl, rfl⟩

theorem infoSp : (Try.prog.info? 40).map (fun i => (i.zero, i.size, i.bytes)) = some (some (.agg #[.int .i64 0, .int .i64 0]), 2, 16) := by kernel_rfl
theorem infoSp_parts : ∃ i0, Try.prog.info? 40 = some i0 ∧ i0.zero = some (.agg #[.int .i64 0, .int .i64 0]) ∧ i0.size = 2 ∧ i0.bytes = 16 := by
  obtain ⟨i0, h⟩ := info_parts infoSp
  exact ⟨i0, h⟩

set_option maxRecDepth 100000 in
set_option maxHeartbeats 1600000 in
theorem appendSeq_any (g : Nat) (lb : Array Value) (T K : Nat → Prop) (xs : List Sp) (w : World) (hxs : xs.length ≤ 1000000)
    (hseq : SeqF Try.prog g lb spV T K xs w) (eg : ∀ args w, (callFunc g args).run Try.prog w = .ok (.enter g args) w) (hT : ∀ k, T k → k < w.heap.size) (hK : ∀ k, K k → k < w.heap.size) :
    Calls Try.prog 105 #[.slice none 0 0, .func (.func g) #[] lb] w fun e w' => ∃ v, e = .returned v ∧ w'.ownsRow w.heap.size 40 2 v xs.length (spCells xs) ∧ (v = .slice none 0 0 ↔ xs = []) ∧ Far T w w' := by
  obtain ⟨i0, hi, hz0, hz1, hz2⟩ := infoSp_parts
  refine calls_of_marks Try.func105 rfl ?_
  simp only [Try.ntmps105, List.size_toArray, List.length_cons, List.length_nil, Nat.reduceAdd, Nat.reduceSub, Array.replicate_succ, Array.replicate_zero, List.push_toArray, List.append_toArray, List.nil_append, List.cons_append]
  go_wp2_with fail
  obtain ⟨W0, hW0⟩ : ∃ W0, w.alloc (.cells #[.slice none 0 0] 36) = W0 := ⟨_, rfl⟩
  have hs0 : W0.heap.size = w.heap.size + 1 := by rw [← hW0]; simp
  have kB : Blk W0 w.heap.size 36 #[.slice none 0 0] := by rw [← hW0]; exact Blk.new _ _ _
  have hF0 : Far (fun _ => False) w W0 := by rw [← hW0]; exact (Far.refl _ w).alloc _
  rw [hW0]
  clear hW0
  refine rangeF (gf := g) (lb := lb) rfl eg (hseq.later (hF0.mono fun _ _ h => h.elim)) (fun _ => rfl) (fun k h => by have := hT k h; omega) (fun k h => by have := hK k h; omega)
    (fun pre W => BoxS W w.heap.size 36 40 (W0.heap.size + 2) pre ∧ Far T w W) (fun _ _ _ => False)
    (fun pre A B h hf => ⟨h.1.far hf (fun h => by rcases h with h | h | h; have := hT _ h; omega; omega; omega) (fun g hg h => by rcases h with h | h | h; have := hT _ h; omega; omega; omega), h.2.trans' hf (fun i hi h => by rcases h with h | h | h; exact h; omega; omega)⟩)
    (fun _ _ _ _ h _ => h.elim) ⟨⟨_, kB, World.ownsRow_nil _ _ _ _, by simp⟩, hF0.mono fun _ _ h => h.elim⟩
    (fun _ x a' W => ∃ Bx, W0.heap.size + 2 ≤ Bx ∧ Blk W Bx 40 #[.int .i64 x.1, .int .i64 x.2] ∧ a' = { tmps := #[.slice none 0 0, .func (.func g) #[] lb, .pointer (some ⟨w.heap.size, 0, none⟩), undef, .slice none 0 0, .pointer (some ⟨Bx, 0, none⟩), .func (.func g) #[] lb, .agg #[.int .i64 x.1, .int .i64 x.2], undef, undef, undef, undef, undef], defers := [] })
    (fun _ x a' A B ⟨Bx, h1, h2, h3⟩ hf => ⟨Bx, h1, hf.blk h2 (by omega), h3⟩) ?assign ?body ?done ?stop
  case assign =>
    intro m l x W C hs hC
    gi_wp2
    exact hC _ _ ((Far.refl _ W).alloc _) ⟨W.heap.size, hs, Blk.new _ _ _, rfl⟩
  case body =>
    rintro m l pre x a' _ W hs ⟨hbox, hF⟩ ⟨Bx, hBx, kx, rfl⟩ hpre _ _
    obtain ⟨v, hv, hrow, hnil⟩ := hbox.ex
    have cx := kx.cell
    have cv := hv.cell
    have fv := hv.frozen
    have hlen : pre.length + 1 ≤ xs.length := by have := hpre.length_le; simpa using this
    have kN := Blk.new W 40 #[.int .i64 x.1, .int .i64 x.2]
    gi_wp2_with (gi_at_builtin; refine wpListIn_append_own _ rfl (.tmp 8) (.tmp 10) 36 rfl (W0.heap.size + 2) 40 i0 (.agg #[.int .i64 0, .int .i64 0]) 2 16 Try.underlying36 hi hz0 hz1 hz2 rfl (by decide) v pre.length (spCells pre) rfl (hrow.alloc _) ⟨W.heap.size, 0, none⟩ 1 1 [.int .i64 x.1, .int .i64 x.2] rfl rfl (news_two kN) news_one2 (by unfold maxLen; omega) (by omega) (by simp; omega) ?_; intro v' w1 hown' hgrow _; rw [← spCells_snoc] at hown'; obtain ⟨hv1, hb2, hf2⟩ := BoxS.appended hv (by decide) hrow hown' (by simp) (by simp) hgrow; obtain ⟨A', cap', rfl⟩ := own_nil_iff hown' (by simp); have cv1 := hv1.cell; have fv1 := hv1.frozen)
    exact ⟨hf2 _ (by rintro (h | h | h); have := hK _ h; omega; omega; omega) (fun g hg => by have := (hrow.lt g hg).1; rintro (h | h | h); have := hK _ h; omega; omega; omega), hb2, hF.trans' (hf2 (fun k => w.heap.size ≤ k) (Nat.le_refl _) (fun g hg => by have := (hrow.lt g hg).1; omega)) (fun i hi h => by omega)⟩
  case done =>
    rintro W hs ⟨hbox, hF⟩ hd
    obtain ⟨v, hv, hrow, hnil⟩ := hbox.ex
    have cv := hv.cell
    obtain ⟨A', cap', rfl⟩ := own_nil_iff hrow rfl
    go_wp2_with fail
    have hfp : Far (fun k => k = W0.heap.size) W (W.putObj W0.heap.size (.deferred none)) := Far.putObj (T := fun k => k = W0.heap.size) (Far.refl _ _) (fun _ => rfl) _
    exact leave_mark (v := .slice A' xs.length cap') hd (by simp [results, Try.results105, go_sem]) ⟨_, rfl, ownsRow_base (ownsRow_far hrow hfp (fun g hg h => by have := (hrow.lt g hg).1; omega)) (by omega), hnil, hF.putObj (fun h => absurd h (by omega)) _⟩
  case stop => exact fun _ _ _ _ _ h _ => h.elim
theorem collect_any (g : Nat) (lb : Array Value) (T K : Nat → Prop) (xs : List Sp) (w : World) (hxs : xs.length ≤ 1000000)
    (hseq : SeqF Try.prog g lb spV T K xs w) (eg : ∀ args w, (callFunc g args).run Try.prog w = .ok (.enter g args) w) (hT : ∀ k, T k → k < w.heap.size) (hK : ∀ k, K k → k < w.heap.size) :
    Calls Try.prog 77 #[.func (.func g) #[] lb] w fun e w' => ∃ v, e = .returned v ∧ w'.ownsRow w.heap.size 40 2 v xs.length (spCells xs) ∧ (v = .slice none 0 0 ↔ xs = []) ∧ Far T w w' := by
  have HA := Lib.hid (appendSeq_any g lb T K xs w hxs hseq eg hT hK)
  go_enter Try.func77, Try.ntmps77
  go_wp2_with (go_at_call 105; refine (HA.out).mono ?_; rintro e w1 ⟨v, rfl, hown, hnil, hf⟩)
  go_ret
  exact ⟨v, rfl, hown, hnil, hf⟩

theorem runsF_len (size en : Int) : ∀ (k : Nat) (a : Int), (runsF size en k a).length ≤ k
  | 0, _ => by simp [runsF]
  | k + 1, a => by
    have := runsF_len size en k (a + size + 1)
    rw [runsF]; split
    · simp; omega
    · simp
theorem runsL_len {pg n f b ev : Int} (_ : PlanOk pg n f b ev) : (runsL pg n f b ev).length ≤ 1000000 := by
  have := runsF_len (if ev = 0 then 1024 else ev) (pg + n - b) 1025 (pg + f)
  unfold runsL; omega
theorem runs_enters : ∀ args w, (callFunc 102 args).run Try.prog w = .ok (.enter 102 args) w := enters_of Try.func102 (by kernel_rfl) rfl
theorem common_enters : ∀ args w, (callFunc 106 args).run Try.prog w = .ok (.enter 106 args) w := enters_of Try.func106 (by kernel_rfl) rfl

/-- what hands back a slice of spans and an error -/
def SpansR (w : World) (us : List Sp) (er : Int) (e : Ending) (w' : World) : Prop :=
  ∃ (A : Option Addr) (cap : Nat), e = .returned (.tuple #[.slice A us.length cap, .int .i64 er]) ∧ RU w' w'.heap.size A us ∧ us.length ≤ cap ∧ cap ≤ maxLen ∧ (∀ b o, A = some ⟨b, o, none⟩ → w.heap.size ≤ b) ∧ Below w.heap.size w w'

set_option maxHeartbeats 400000 in
theorem usable_any (pg n f b ev : Int) (w : World) :
    Calls Try.prog 26 #[planV pg n f b ev] w (SpansR w (if chkG pg n f b ev = 0 then runsL pg n f b ev else []) (chkG pg n f b ev)) := by
  have HC := Lib.hid (fun W => gcheck_any pg n f b ev W)
  have hb0 := (Below.refl w.heap.size w).alloc (Nat.le_refl _) (.cells (planC pg n f b ev) 25)
  have k0 := Blk.new w 25 (planC pg n f b ev)
  have c0 := k0.cell
  by_cases hc : chkG pg n f b ev = 0
  · have hp := chkG_zero.1 hc
    rw [hc] at HC ⊢
    rw [if_pos rfl]
    have HR := Lib.hid (fun W => runs_any pg n f b ev W)
    go_enter Try.func26, Try.ntmps26
    go_wp2_with (first
      | (go_at_call 32; refine (HC.out _).mono ?_; rintro e w1 ⟨rfl, hq⟩; have k1 := k0.call hq; have c1 := k1.cell; have hb1 := hb0.trans (hq.mono hb0.size))
      | (go_at_call 68; refine (HR.out _).mono ?_; rintro e w2 ⟨rfl, rfl⟩; have HS := Lib.hid (runs1_seq pg n f b ev w1.heap.size _ hp (Blk.new w1 25 (planC pg n f b ev))))
      | (go_at_call 77; refine (collect_any _ _ _ _ _ _ (runsL_len hp) HS.out runs_enters (fun _ h => h.elim) (fun k h => by subst h; simp)).mono ?_; rintro e w3 ⟨v, rfl, hown, _, hf⟩; obtain ⟨A, cap, rfl, hru, h1, h2, h3, _⟩ := own_RU hown rfl))
    have hb2 := hb1.alloc hb1.size (.cells (planC pg n f b ev) 25)
    have hb3 := hf.below (n := w.heap.size) (Nat.le_trans hb1.size (by simp)) (fun _ _ h => h)
    go_ret2
    exact ⟨A, cap, rfl, hru, h1, h2, fun b o e => by have := h3 b o e; simp at this; have := hb1.size; omega, hb2.trans hb3⟩
  · rw [if_neg hc]
    generalize chkG pg n f b ev = er at *
    have hc' : (er != 0) = true := by simpa using hc
    clear hc
    go_enter Try.func26, Try.ntmps26
    go_wp2_with (go_at_call 32; refine (HC.out _).mono ?_; rintro e w1 ⟨rfl, hq⟩; have k1 := k0.call hq; have c1 := k1.cell; have hb1 := hb0.trans (hq.mono hb0.size))
    go_ret2
    exact ⟨none, 0, rfl, RU.nil, by simp, by unfold maxLen; omega, fun b o e => (by cases e), hb1⟩
end Go.Proofs.Ytfmnlpgboolpmaa
