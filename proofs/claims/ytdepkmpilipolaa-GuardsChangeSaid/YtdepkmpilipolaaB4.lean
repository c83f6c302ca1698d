/- Merged texts. Walks: Guards, Count, Nth, Index of layer 11. Walks: Hit and Least of layer 11. Walks: bits.Len of small numbers, Least of layer 11. Walks: the examples of the document for layer 11. Plain law: spans sorted by their first pages and joined are the set of their pages. Walks: the reference's usable pages and guards as sets. Plain law: the guards and the usable pages of a plan are disjoint, and together the range. Walks: slices.Clone of spans, Of; the reference's Marks and Of. A range over a function value whose function ranges over another one: what the body must leave, it must leave too where it ends the loop. What the struct 'look' of layer 13 holds, as cells; what a store into it makes of that. Walk: 'open' of layer 13. Walks of layer 13: Check; the groups of one kind as a function value that is ranged over. Walks of layer 13: Check, Groups. Walks of layer 11 over a system: ask. Walks of the reference of layer 6: Write, Join, Split, Plan, New. Walk of layer 13: Score. Walks of layer 13: the reference's touched, Split. Walks of layer 11 over a system: Lift. Walks of layer 11 over no system: Lift; how many guards a plan has. Walks of layer 11 over a system: what Place defers. Walks of the reference of layer 6: the two regions of Save that draw their order, over any slots. Walks of the library: slices.Insert of a span at the front: into no list. A law of no program: copy of elements of several cells each. Walks of the library: slices.Insert of a span at the front of a list whose capacity is spent: the append. Laws of no program: a row of elements of two cells into whose front an element is put. -/
import Derived.Lib.BitFns
import Derived.Lib.Strings
import Derived.Lib.Small
import Derived.Lib.Walk
import Derived.Deep.MidRow
import Derived.Test.YtdepkmpilipolaaProg
import Derived.Shelf.SlSortCmp.WholeK
import Derived.Ground.SlsfProg
import Derived.Sort.OwnSortedInts
import Derived.Shelf.Spec.SlicesGrow
import Derived.Laws.AppendOwnNone
import Derived.Deep.CutRange
import Derived.OwnWalk
import Derived.Laws.CopyRow
import Derived.Lib.AppendZerosOnto
import Derived.Deep.DeepAppendWide
import Derived.Test.YtdepkmpilipolaaB3
namespace Go.Proofs.Ytdepkmpilipolaa
open Go Go.Proofs Go.RowKit Go.Pol Go.Shelf
attribute [local go_sem] Oper.semAt_some Go.Pol.wide_fn Go.Pol.wide_depth Go.Pol.wide_fn' Go.Pol.wide_depth'

/-- what Guards answers -/
def guardsF (pg n f b ev : Int) : List Sp := if chkG pg n f b ev = 0 then gapsF (runsL pg n f b ev) (pg, n) else []
theorem ask_runs {pg n f b ev : Int} (hp : PlanOk pg n f b ev) : askS (runsL pg n f b ev) (pg, n) = 0 := by
  rw [askS, if_pos (chkS_zero.2 (runsL_can hp)), if_pos (vld_iff.2 ⟨hp.pg0, hp.pg1, hp.n0, hp.n1⟩)]

set_option maxHeartbeats 400000 in
theorem guards_own (pg n f b ev : Int) (w : World) :
    Calls Try.prog 9 #[planV pg n f b ev] w (SpansOwn w (guardsF pg n f b ev) (chkG pg n f b ev)) := by
  have HU := Lib.hid (fun W => usable_any pg n f b ev W)
  have hb0 := (Below.refl w.heap.size w).alloc (Nat.le_refl _) (.cells (planC pg n f b ev) 31)
  have k0 := Blk.new w 31 (planC pg n f b ev)
  have c0 := k0.cell
  unfold guardsF
  by_cases hc : chkG pg n f b ev = 0
  · have hp := chkG_zero.1 hc
    have ha := ask_runs hp
    rw [hc, if_pos rfl] at HU
    rw [hc, if_pos rfl]
    have HN := Lib.hid (fun A cap W h1 h2 h3 => not_own A (runsL pg n f b ev).length cap (runsL pg n f b ev) pg n W rfl h1 h2 h3)
    rw [ha, if_pos rfl] at HN
    clear ha hc hp
    generalize gapsF (runsL pg n f b ev) (pg, n) = G at *
    generalize runsL pg n f b ev = L at *
    go_enter Try.func9, Try.ntmps9
    go_wp2_with (first
      | (go_at_call 15; refine (HU.out _).mono ?_; rintro e w1 ⟨A1, c1, rfl, hr1, hl1, hm1, _, hq⟩; have k1 := k0.call hq; have cc := k1.cell; have hb1 := hb0.trans (hq.mono hb0.size))
      | (go_at_call 29; refine (HN.out _ _ _ hl1 hm1 hr1).mono ?_; rintro e w2 ⟨A2, c2, rfl, hr2, hl2, hm2, ho2, hq2, hz2⟩))
    go_ret2
    exact ⟨A2, c2, rfl, hr2, hl2, hm2, fun b o e => by have := ho2 b o e; have := hb1.size; omega, hb1.trans (hq2.mono hb1.size), hz2⟩
  · rw [if_neg hc] at HU ⊢
    generalize chkG pg n f b ev = er at *
    have hc' : (er != 0) = true := by simpa using hc
    clear hc
    go_enter Try.func9, Try.ntmps9
    go_wp2_with (go_at_call 15; refine (HU.out _).mono ?_; rintro e w1 ⟨A1, c1, rfl, hr1, hl1, hm1, _, hq⟩; have hb1 := hb0.trans (hq.mono hb0.size))
    go_ret2
    exact ⟨none, 0, rfl, RU.nil, by simp, by unfold maxLen; omega, fun b o e => (by cases e), hb1, fun _ => rfl⟩

theorem guards_any (pg n f b ev : Int) (w : World) :
    Calls Try.prog 9 #[planV pg n f b ev] w (SpansR w (guardsF pg n f b ev) (chkG pg n f b ev)) := by
  refine (guards_own pg n f b ev w).mono ?_
  rintro e w' ⟨A', cap', h1, h2, h3, h4, h5, h6, _⟩
  exact ⟨A', cap', h1, h2, h3, h4, h5, h6⟩

/-- the world in which the loop over the runs begins -/
theorem runs_start {w1 : World} {pg n f b ev : Int} (hp : PlanOk pg n f b ev) :
    SeqF Try.prog 49 #[.pointer (some ⟨w1.heap.size, 0, none⟩)] spV (fun _ => False) (fun k => k = w1.heap.size) (runsL pg n f b ev) (w1.alloc (.cells (planC pg n f b ev) 31)) :=
  runs1_seq pg n f b ev w1.heap.size _ hp (Blk.new w1 31 (planC pg n f b ev))

set_option maxRecDepth 100000 in
set_option maxHeartbeats 1600000 in
theorem nth_any (pg n f b ev i : Int) (w : World) (hi0 : -9223372036854775808 ≤ i) (hi1 : i ≤ 9223372036854775807) (R : Int × Int) (hR : (if chkG pg n f b ev = 0 then nthF (runsL pg n f b ev) i else (0, chkG pg n f b ev)) = R) :
    Calls Try.prog 16 #[planV pg n f b ev, .int .i64 i] w fun e w' => e = .returned (.tuple #[.int .i64 R.1, .int .i64 R.2]) ∧ Below w.heap.size w w' := by
  have HC := Lib.hid (fun W => gcheck_any pg n f b ev W)
  have HR := Lib.hid (fun W => runs_any pg n f b ev W)
  obtain ⟨s, hs⟩ : ∃ s, w.heap.size = s := ⟨_, rfl⟩
  obtain ⟨Wb, hWb⟩ : ∃ Wb, (((w.alloc (.cells (planC pg n f b ev) 31)).alloc (.cells #[.int .i64 i] 3)).alloc (.cells #[.int .i64 0] 3)).alloc (.cells #[.int .i64 0] 35) = Wb := ⟨_, rfl⟩
  have hb0 : Below s w Wb := by rw [← hWb, ← hs]; exact ((((Below.refl w.heap.size w).alloc (Nat.le_refl _) _).alloc (by simp) _).alloc (by simp; omega) _).alloc (by simp; omega) _
  have kP : Blk Wb s 31 (planC pg n f b ev) := by rw [← hWb, ← hs]; exact (((Blk.new _ _ _).alloc _).alloc _).alloc _
  have kI : Blk Wb (s + 1) 3 #[.int .i64 i] := by
    rw [← hWb, ← hs]; have := Blk.new (w.alloc (.cells (planC pg n f b ev) 31)) 3 #[.int .i64 i]
    rw [World.size_alloc] at this; exact (this.alloc _).alloc _
  have kO : Blk Wb (s + 2) 3 #[.int .i64 0] := by
    rw [← hWb, ← hs]; have := Blk.new ((w.alloc (.cells (planC pg n f b ev) 31)).alloc (.cells #[.int .i64 i] 3)) 3 #[.int .i64 0]
    simp only [World.size_alloc] at this; exact this.alloc _
  have kE : Blk Wb (s + 3) 35 #[.int .i64 0] := by
    rw [← hWb, ← hs]; have := Blk.new (((w.alloc (.cells (planC pg n f b ev) 31)).alloc (.cells #[.int .i64 i] 3)).alloc (.cells #[.int .i64 0] 3)) 35 #[.int .i64 0]
    simp only [World.size_alloc] at this; exact this
  have hW1 : Hid ((((w.alloc (.cells (planC pg n f b ev) 31)).alloc (.cells #[.int .i64 i] 3)).alloc (.cells #[.int .i64 0] 3)).alloc (.cells #[.int .i64 0] 35) = Wb) := Lib.hid hWb
  clear hWb
  have HR1 := Lib.hid hR
  clear hR
  by_cases hc : chkG pg n f b ev = 0
  case neg =>
    rw [if_neg hc] at HR1
    generalize chkG pg n f b ev = er at *
    have hc' : (er != 0) = true := by simpa using hc
    have hE1 : Hid (R = (0, er)) := Lib.hid HR1.out.symm
    clear hc HR1
    have cP := kP.cell
    refine calls_of_marks Try.func16 rfl ?_
    simp only [Try.ntmps16, List.size_toArray, List.length_cons, List.length_nil, Nat.reduceAdd, Nat.reduceSub, Array.replicate_succ, Array.replicate_zero, List.push_toArray, List.append_toArray, List.nil_append, List.cons_append]
    go_upto_region 1 with fail
    simp only [Nat.add_assoc, Nat.reduceAdd]
    rw [hW1.out]
    go_wp2_with (go_at_call 31; refine (HC.out _).mono ?_; rintro e w1 ⟨rfl, hq⟩; have kO1 := kO.call hq; have kE1 := kE.call hq; have cO1 := kO1.cell; have fO1 := kO1.frozen; have cE1 := kE1.cell; have fE1 := kE1.frozen; have hb1 := hb0.trans (hq.mono (by have := hb0.size; omega)))
    obtain ⟨k2, k3, hf2⟩ := two_set (by omega) kO1 kE1 (.int .i64 0) (.int .i64 er)
    have c2 := k2.cell
    have c3 := k3.cell
    exact leave_none (v := .tuple #[.int .i64 0, .int .i64 er]) (by simp [results, Try.results16, go_sem, c2, c3]) ⟨by rw [hE1.out], by rw [hs]; exact hb1.trans (hf2.below (by have := hb1.size; omega) (fun k hk => by omega))⟩
  case pos =>
    have hp := chkG_zero.1 hc
    rw [hc] at HC
    rw [if_pos hc] at HR1
    have HSQ := Lib.hid (fun w1 => runs_start (w1 := w1) hp)
    have hvl := (runsL_can hp).1
    have hlen := (runsL_can hp).len
    clear hc
    generalize runsL pg n f b ev = L at *
    have cP := kP.cell
    refine calls_of_marks Try.func16 rfl ?_
    simp only [Try.ntmps16, List.size_toArray, List.length_cons, List.length_nil, Nat.reduceAdd, Nat.reduceSub, Array.replicate_succ, Array.replicate_zero, List.push_toArray, List.append_toArray, List.nil_append, List.cons_append]
    go_upto_region 1 with fail
    simp only [Nat.add_assoc, Nat.reduceAdd]
    rw [hW1.out]
    go_wp2_with (first
      | (go_at_call 31; refine (HC.out _).mono ?_; rintro e w1 ⟨rfl, hq⟩; have kP1 := kP.call hq; have kI1 := kI.call hq; have kO1 := kO.call hq; have kE1 := kE.call hq; have cP1 := kP1.cell; have hb1 := hb0.trans (hq.mono (by have := hb0.size; omega)))
      | (go_at_call 33; refine (HR.out _).mono ?_; rintro e w2 ⟨rfl, rfl⟩))
    obtain ⟨W0, hW0⟩ : ∃ W0, w1.alloc (.cells (planC pg n f b ev) 31) = W0 := ⟨_, rfl⟩
    have hs0 : W0.heap.size = w1.heap.size + 1 := by rw [← hW0]; simp
    have hB0 : Below s w W0 := by rw [← hW0]; exact hb1.alloc (by have := hb1.size; omega) _
    have hF0 : Far (fun _ => False) w1 W0 := by rw [← hW0]; exact (Far.refl _ _).alloc _
    have hseq := HSQ.out w1
    rw [hW0] at hseq ⊢
    clear hW0
    have kI0 := hF0.blk kI1 id
    have kO0 := hF0.blk kO1 id
    have kE0 := hF0.blk kE1 id
    have ls1 := kE1.lt
    have hszw := hb1.size
    refine rangeFB 7 15 56 (gf := 49) (lb := #[.pointer (some ⟨w1.heap.size, 0, none⟩)]) rfl runs_enters hseq rfl (fun _ h => h.elim) (fun k h => by omega)
      (fun pre W => Blk W (s + 1) 3 #[.int .i64 (i - sumS pre)] ∧ Blk W (s + 2) 3 #[.int .i64 0] ∧ Blk W (s + 3) 35 #[.int .i64 0] ∧ Below s w W ∧ Hid ((pre ≠ [] → 0 ≤ i - sumS pre) ∧ ∀ rest, L = pre ++ rest → nthF L i = nthF rest (i - sumS pre)))
      (fun c pre W => ((c = .ret ∧ Blk W (s + 2) 3 #[.int .i64 R.1] ∧ Blk W (s + 3) 35 #[.int .i64 R.2]) ∨ (c = .exit 0 ∧ Blk W (s + 2) 3 #[.int .i64 0] ∧ Blk W (s + 3) 35 #[.int .i64 0] ∧ Hid (R = (0, 7)))) ∧ Below s w W)
      (fun pre A B h hf => ⟨hf.blk h.1 (by rintro (h | h | h) <;> omega), hf.blk h.2.1 (by rintro (h | h | h) <;> omega), hf.blk h.2.2.1 (by rintro (h | h | h) <;> omega), h.2.2.2.1.trans (hf.below (Nat.le_trans (by omega) h.2.2.2.1.size) (fun k hk => by rintro (h | h | h) <;> omega)), h.2.2.2.2⟩)
      (fun c pre A B h hf => ⟨h.1.imp (fun h => ⟨h.1, hf.blk h.2.1 (by rintro (h | h | h) <;> omega), hf.blk h.2.2 (by rintro (h | h | h) <;> omega)⟩) (fun h => ⟨h.1, hf.blk h.2.1 (by rintro (h | h | h) <;> omega), hf.blk h.2.2.1 (by rintro (h | h | h) <;> omega), h.2.2.2⟩), h.2.trans (hf.below (Nat.le_trans (by omega) h.2.size) (fun k hk => by rintro (h | h | h) <;> omega))⟩)
      ⟨by simpa [sumS] using kI0, kO0, kE0, hB0, Lib.hid ⟨fun h => absurd rfl h, fun rest h => by rw [h]; simp [sumS]⟩⟩ ?assign ?body ?done ?stop
    case assign =>
      intro m l x W C hC
      simp only [List.setIfInBounds_toArray, List.set_cons_succ, List.set_cons_zero] at hC ⊢
      gi_wp2
      exact hC
    case body =>
      rintro m l pre x Bx Wa W hsz ⟨kI, kO, kE, hB, hH⟩ hpre hBx kx _ _ _
      simp only [List.setIfInBounds_toArray, List.set_cons_succ, List.set_cons_zero]
      have hvx := vld_iff.1 (hvl x (prefix_mem hpre (by simp)))
      have hsb := sumS_bound pre (fun y hy => hvl y (prefix_mem hpre (by simp [hy])))
      have hpl : pre.length ≤ 512 := by have := hpre.length_le; simp at this; omega
      have hsn := Lib.hid (sumS_snoc pre x)
      obtain ⟨rest, hrest⟩ := prefix_cons hpre
      have hN := Lib.hid (hH.out.2 _ hrest)
      have hN' := hN
      have hL1 := Lib.hid hrest
      have hv0 := hH.out.1
      clear hrest hpre hH
      obtain ⟨v, hv⟩ : ∃ v, i - sumS pre = v := ⟨_, rfl⟩
      rw [hv] at hN hv0 kI
      have hvb : -9223372036854775808 ≤ v ∧ v ≤ 9223372036854775807 := by
        by_cases h : pre = []
        · subst h; simp [sumS] at hv; omega
        · have := hv0 h; omega
      have hv' := Lib.hid hv
      clear hv hv0 hsb hi0 hi1
      obtain ⟨xa, xb⟩ := x
      dsimp only at kx hvx hsn
      have cx := kx.cell
      have cI := kI.cell
      have fI := kI.frozen
      have cO := kO.cell
      have fO := kO.frozen
      have cE := kE.cell
      have fE := kE.frozen
      by_cases h1 : v < 0
      · have h1' : decide (v < 0) = true := by simpa using h1
        have hE : Hid (R = (0, 7)) := Lib.hid (by rw [← HR1.out, hN.out, nthF, if_pos h1])
        gi_wp2_with fail
        exact ⟨Far.refl _ _, .inr ⟨rfl, kO, kE, hE⟩, hB⟩
      · have h1' : decide (v < 0) = false := by simpa using h1
        by_cases h2 : v < xb
        · have h2' : decide (v < xb) = true := by simpa using h2
          have hE : Hid (R = (xa + v, 0)) := Lib.hid (by rw [← HR1.out, hN.out, nthF, if_neg h1, if_pos h2])
          gi_wp2_with fail
          obtain ⟨k2, k3, hf2⟩ := two_set (by omega) kO kE (.int .i64 (xa + v)) (.int .i64 0)
          exact ⟨hf2.mono fun k _ h => by omega, .inl ⟨rfl, by rw [hE.out]; exact k2, by rw [hE.out]; exact k3⟩, hB.trans (hf2.below (by have := hB.size; omega) (fun k hk => by omega))⟩
        · have h2' : decide (v < xb) = false := by simpa using h2
          have hN2 := Lib.hid (nthF_step hN'.out (by rw [hv'.out]; exact h1) (by rw [hv'.out]; exact h2))
          gi_wp2_with fail
          have hf4 : Far (fun k => k = s + 1) W (W.setCell ⟨s + 1, 0, none⟩ (.int .i64 (v - xb))) := Far.setCell (T := fun k => k = s + 1) (p := ⟨s + 1, 0, none⟩) (Far.refl _ _) (fun _ => rfl) _
          refine ⟨hf4.mono fun k _ h => by omega, ?_, hf4.blk kO (by omega), hf4.blk kE (by omega), hB.trans (hf4.below (by have := hB.size; omega) (fun k hk => by omega)), ?_⟩
          · rw [hsn.out, show i - (sumS pre + xb) = v - xb by have := hv'.out; omega]; exact kI.set_ 0 _
          · refine Lib.hid ⟨fun _ => by rw [hsn.out]; have := hv'.out; omega, fun rest2 h => ?_⟩
            have hr2 : rest2 = rest := by rw [hL1.out] at h; simpa using h.symm
            rw [hr2]; exact hN2.out
    case done =>
      rintro W hsz ⟨kI, kO, kE, hB, hH⟩ hd
      rw [hs0] at hd hsz
      have hE : Hid (R = (0, 7)) := Lib.hid (by rw [← HR1.out, hH.out.2 [] (by simp)]; rfl)
      have cO := kO.cell
      have fO := kO.frozen
      have cE := kE.cell
      have fE := kE.frozen
      go_wp2_with fail
      obtain ⟨k2, k3, hf2⟩ := two_set (by omega) kO kE (.int .i64 0) (.int .i64 7)
      have hd2 := hf2.same hd (by omega)
      have hB2 := hB.trans (hf2.below (by have := hB.size; omega) (fun k hk => by omega))
      generalize ((W.setCell ⟨s + 2, 0, none⟩ (.int .i64 0)).setCell ⟨s + 3, 0, none⟩ (.int .i64 7)) = w5 at *
      rw [hs0]
      have hfp : Far (fun k => k = w1.heap.size + 1) w5 (World.putObj w5 (w1.heap.size + 1) (.deferred none)) := Far.putObj (T := fun k => k = w1.heap.size + 1) (Far.refl _ _) (fun _ => rfl) _
      have c6 := (hfp.blk k2 (by omega)).cell
      have c7 := (hfp.blk k3 (by omega)).cell
      exact leave_mark (v := .tuple #[.int .i64 (((0 : Int), (7 : Int))).1, .int .i64 (((0 : Int), (7 : Int))).2]) hd2 (by simp [results, Try.results16, go_sem, c6, c7]) ⟨by rw [hE.out], (by rw [hs]; exact (hB2).trans (hfp.below (by have := (hB2).size; omega) (fun k hk => by omega)))⟩
    case stop =>
      rintro c pre W hsz hpre ⟨⟨rfl, kO, kE⟩ | ⟨rfl, kO, kE, hE⟩, hB⟩ hd
      · rw [hs0] at hd hsz
        go_wp2_with fail
        have hE : Hid (R = R) := Lib.hid rfl
        rw [hs0]
        have hfp : Far (fun k => k = w1.heap.size + 1) W (World.putObj W (w1.heap.size + 1) (.deferred none)) := Far.putObj (T := fun k => k = w1.heap.size + 1) (Far.refl _ _) (fun _ => rfl) _
        have c6 := (hfp.blk kO (by omega)).cell
        have c7 := (hfp.blk kE (by omega)).cell
        exact leave_mark (v := .tuple #[.int .i64 (R).1, .int .i64 (R).2]) hd (by simp [results, Try.results16, go_sem, c6, c7]) ⟨by rw [hE.out], (by rw [hs]; exact (hB).trans (hfp.below (by have := (hB).size; omega) (fun k hk => by omega)))⟩
      · rw [hs0] at hd hsz
        have cO := kO.cell
        have fO := kO.frozen
        have cE := kE.cell
        have fE := kE.frozen
        go_wp2_with fail
        obtain ⟨k2, k3, hf2⟩ := two_set (by omega) kO kE (.int .i64 0) (.int .i64 7)
        have hd2 := hf2.same hd (by omega)
        have hB2 := hB.trans (hf2.below (by have := hB.size; omega) (fun k hk => by omega))
        generalize ((W.setCell ⟨s + 2, 0, none⟩ (.int .i64 0)).setCell ⟨s + 3, 0, none⟩ (.int .i64 7)) = w5 at *
        rw [hs0]
        have hfp : Far (fun k => k = w1.heap.size + 1) w5 (World.putObj w5 (w1.heap.size + 1) (.deferred none)) := Far.putObj (T := fun k => k = w1.heap.size + 1) (Far.refl _ _) (fun _ => rfl) _
        have c6 := (hfp.blk k2 (by omega)).cell
        have c7 := (hfp.blk k3 (by omega)).cell
        exact leave_mark (v := .tuple #[.int .i64 (((0 : Int), (7 : Int))).1, .int .i64 (((0 : Int), (7 : Int))).2]) hd2 (by simp [results, Try.results16, go_sem, c6, c7]) ⟨by rw [hE.out], (by rw [hs]; exact (hB2).trans (hfp.below (by have := (hB2).size; omega) (fun k hk => by omega)))⟩

set_option maxRecDepth 100000 in
set_option maxHeartbeats 1600000 in
theorem index_any (pg n f b ev page : Int) (w : World) (R : Int × Int) (hR : (if chkG pg n f b ev = 0 then idxF page 0 (runsL pg n f b ev) else (0, chkG pg n f b ev)) = R) :
    Calls Try.prog 17 #[planV pg n f b ev, .int .i64 page] w fun e w' => e = .returned (.tuple #[.int .i64 R.1, .int .i64 R.2]) ∧ Below w.heap.size w w' := by
  have HC := Lib.hid (fun W => gcheck_any pg n f b ev W)
  have HR := Lib.hid (fun W => runs_any pg n f b ev W)
  obtain ⟨s, hs⟩ : ∃ s, w.heap.size = s := ⟨_, rfl⟩
  obtain ⟨Wb, hWb⟩ : ∃ Wb, (((w.alloc (.cells (planC pg n f b ev) 31)).alloc (.cells #[.int .i64 page] 3)).alloc (.cells #[.int .i64 0] 3)).alloc (.cells #[.int .i64 0] 35) = Wb := ⟨_, rfl⟩
  have hb0 : Below s w Wb := by rw [← hWb, ← hs]; exact ((((Below.refl w.heap.size w).alloc (Nat.le_refl _) _).alloc (by simp) _).alloc (by simp; omega) _).alloc (by simp; omega) _
  have kP : Blk Wb s 31 (planC pg n f b ev) := by rw [← hWb, ← hs]; exact (((Blk.new _ _ _).alloc _).alloc _).alloc _
  have kI : Blk Wb (s + 1) 3 #[.int .i64 page] := by
    rw [← hWb, ← hs]; have := Blk.new (w.alloc (.cells (planC pg n f b ev) 31)) 3 #[.int .i64 page]
    rw [World.size_alloc] at this; exact (this.alloc _).alloc _
  have kO : Blk Wb (s + 2) 3 #[.int .i64 0] := by
    rw [← hWb, ← hs]; have := Blk.new ((w.alloc (.cells (planC pg n f b ev) 31)).alloc (.cells #[.int .i64 page] 3)) 3 #[.int .i64 0]
    simp only [World.size_alloc] at this; exact this.alloc _
  have kE : Blk Wb (s + 3) 35 #[.int .i64 0] := by
    rw [← hWb, ← hs]; have := Blk.new (((w.alloc (.cells (planC pg n f b ev) 31)).alloc (.cells #[.int .i64 page] 3)).alloc (.cells #[.int .i64 0] 3)) 35 #[.int .i64 0]
    simp only [World.size_alloc] at this; exact this
  have hW1 : Hid ((((w.alloc (.cells (planC pg n f b ev) 31)).alloc (.cells #[.int .i64 page] 3)).alloc (.cells #[.int .i64 0] 3)).alloc (.cells #[.int .i64 0] 35) = Wb) := Lib.hid hWb
  clear hWb
  have HR1 := Lib.hid hR
  clear hR
  by_cases hc : chkG pg n f b ev = 0
  case neg =>
    rw [if_neg hc] at HR1
    generalize chkG pg n f b ev = er at *
    have hc' : (er != 0) = true := by simpa using hc
    have hE1 : Hid (R = (0, er)) := Lib.hid HR1.out.symm
    clear hc HR1
    have cP := kP.cell
    refine calls_of_marks Try.func17 rfl ?_
    simp only [Try.ntmps17, List.size_toArray, List.length_cons, List.length_nil, Nat.reduceAdd, Nat.reduceSub, Array.replicate_succ, Array.replicate_zero, List.push_toArray, List.append_toArray, List.nil_append, List.cons_append]
    go_upto_region 1 with fail
    simp only [Nat.add_assoc, Nat.reduceAdd]
    rw [hW1.out]
    go_wp2_with (go_at_call 31; refine (HC.out _).mono ?_; rintro e w1 ⟨rfl, hq⟩; have kO1 := kO.call hq; have kE1 := kE.call hq; have cO1 := kO1.cell; have fO1 := kO1.frozen; have cE1 := kE1.cell; have fE1 := kE1.frozen; have hb1 := hb0.trans (hq.mono (by have := hb0.size; omega)))
    obtain ⟨k2, k3, hf2⟩ := two_set (by omega) kO1 kE1 (.int .i64 0) (.int .i64 er)
    have c2 := k2.cell
    have c3 := k3.cell
    exact leave_none (v := .tuple #[.int .i64 0, .int .i64 er]) (by simp [results, Try.results17, go_sem, c2, c3]) ⟨by rw [hE1.out], by rw [hs]; exact hb1.trans (hf2.below (by have := hb1.size; omega) (fun k hk => by omega))⟩
  case pos =>
    have hp := chkG_zero.1 hc
    rw [hc] at HC
    rw [if_pos hc] at HR1
    have HSQ := Lib.hid (fun w1 => runs_start (w1 := w1) hp)
    have hvl := (runsL_can hp).1
    have hlen := (runsL_can hp).len
    clear hc
    generalize runsL pg n f b ev = L at *
    have cP := kP.cell
    refine calls_of_marks Try.func17 rfl ?_
    simp only [Try.ntmps17, List.size_toArray, List.length_cons, List.length_nil, Nat.reduceAdd, Nat.reduceSub, Array.replicate_succ, Array.replicate_zero, List.push_toArray, List.append_toArray, List.nil_append, List.cons_append]
    go_upto_region 1 with fail
    simp only [Nat.add_assoc, Nat.reduceAdd]
    rw [hW1.out]
    go_wp2_with (first
      | (go_at_call 31; refine (HC.out _).mono ?_; rintro e w0 ⟨rfl, hq⟩; have kP1 := (kP.call hq).alloc (.cells #[.int .i64 0] 3); have kI1 := (kI.call hq).alloc (.cells #[.int .i64 0] 3); have kO1 := (kO.call hq).alloc (.cells #[.int .i64 0] 3); have kE1 := (kE.call hq).alloc (.cells #[.int .i64 0] 3); have kN1 := Blk.new w0 3 #[.int .i64 0]; have cP1 := kP1.cell; have ls1 := (kE.call hq).lt; have hb1 := (hb0.trans (hq.mono (by have := hb0.size; omega))).alloc (by have := hb0.size; have := hq.size; omega) (.cells #[.int .i64 0] 3))
      | (go_at_call 33; refine (HR.out _).mono ?_; rintro e w2 ⟨rfl, rfl⟩))
    obtain ⟨w1, hw1⟩ : ∃ w1, w0.alloc (.cells #[.int .i64 0] 3) = w1 := ⟨_, rfl⟩
    have hsw : w1.heap.size = w0.heap.size + 1 := by rw [← hw1]; simp
    obtain ⟨nb, hnb⟩ : ∃ nb, w0.heap.size = nb := ⟨_, rfl⟩
    simp only [hnb] at hsw ls1 kN1 ⊢
    rw [hw1] at hb1 kP1 kI1 kO1 kE1 kN1 ⊢
    rw [show nb + 1 = w1.heap.size from hsw.symm]
    clear hw1 hnb
    obtain ⟨W0, hW0⟩ : ∃ W0, w1.alloc (.cells (planC pg n f b ev) 31) = W0 := ⟨_, rfl⟩
    have hs0 : W0.heap.size = w1.heap.size + 1 := by rw [← hW0]; simp
    have hB0 : Below s w W0 := by rw [← hW0]; exact hb1.alloc (by have := hb1.size; omega) _
    have hF0 : Far (fun _ => False) w1 W0 := by rw [← hW0]; exact (Far.refl _ _).alloc _
    have hseq := HSQ.out w1
    rw [hW0] at hseq ⊢
    clear hW0
    have kI0 := hF0.blk kI1 id
    have kO0 := hF0.blk kO1 id
    have kE0 := hF0.blk kE1 id
    have kN0 := hF0.blk kN1 id
    have hszw := hb1.size
    refine rangeFB 8 16 56 (gf := 49) (lb := #[.pointer (some ⟨w1.heap.size, 0, none⟩)]) rfl runs_enters hseq rfl (fun _ h => h.elim) (fun k h => by omega)
      (fun pre W => Blk W nb 3 #[.int .i64 (sumS pre)] ∧ Blk W (s + 1) 3 #[.int .i64 page] ∧ Blk W (s + 2) 3 #[.int .i64 0] ∧ Blk W (s + 3) 35 #[.int .i64 0] ∧ Below s w W ∧ Hid (∀ rest, L = pre ++ rest → idxF page 0 L = idxF page (sumS pre) rest))
      (fun c pre W => c = .ret ∧ Blk W (s + 2) 3 #[.int .i64 R.1] ∧ Blk W (s + 3) 35 #[.int .i64 R.2] ∧ Below s w W)
      (fun pre A B h hf => ⟨hf.blk h.1 (by rintro (h | h | h) <;> omega), hf.blk h.2.1 (by rintro (h | h | h) <;> omega), hf.blk h.2.2.1 (by rintro (h | h | h) <;> omega), hf.blk h.2.2.2.1 (by rintro (h | h | h) <;> omega), h.2.2.2.2.1.trans (hf.below (Nat.le_trans (by omega) h.2.2.2.2.1.size) (fun k hk => by rintro (h | h | h) <;> omega)), h.2.2.2.2.2⟩)
      (fun c pre A B h hf => ⟨h.1, hf.blk h.2.1 (by rintro (h | h | h) <;> omega), hf.blk h.2.2.1 (by rintro (h | h | h) <;> omega), h.2.2.2.trans (hf.below (Nat.le_trans (by omega) h.2.2.2.size) (fun k hk => by rintro (h | h | h) <;> omega))⟩)
      ⟨by simpa [sumS] using kN0, kI0, kO0, kE0, hB0, Lib.hid (fun rest h => by rw [h]; simp [sumS])⟩ ?assign ?body ?done ?stop
    case assign =>
      intro m l x W C hC
      simp only [List.setIfInBounds_toArray, List.set_cons_succ, List.set_cons_zero] at hC ⊢
      gi_wp2
      exact hC
    case body =>
      rintro m l pre x Bx Wa W hsz ⟨kN, kI, kO, kE, hB, hH⟩ hpre hBx kx _ _ _
      simp only [List.setIfInBounds_toArray, List.set_cons_succ, List.set_cons_zero]
      have hvx := vld_iff.1 (hvl x (prefix_mem hpre (by simp)))
      have hsb := sumS_bound pre (fun y hy => hvl y (prefix_mem hpre (by simp [hy])))
      have hpl : pre.length ≤ 512 := by have := hpre.length_le; simp at this; omega
      have hsn := Lib.hid (sumS_snoc pre x)
      obtain ⟨rest, hrest⟩ := prefix_cons hpre
      have hN := Lib.hid (hH.out _ hrest)
      have hL1 := Lib.hid hrest
      clear hrest hpre hH
      obtain ⟨v, hv⟩ : ∃ v, sumS pre = v := ⟨_, rfl⟩
      have hv' := Lib.hid hv
      rw [hv] at kN hsb
      clear hv
      obtain ⟨xa, xb⟩ := x
      dsimp only at kx hvx hsn
      have cx := kx.cell
      have cN := kN.cell
      have fN := kN.frozen
      have cI := kI.cell
      have cO := kO.cell
      have fO := kO.frozen
      have cE := kE.cell
      have fE := kE.frozen
      by_cases h1 : xa ≤ page
      · have h1' : decide (xa ≤ page) = true := by simpa using h1
        by_cases h2 : page < xa + xb
        · have h2' : decide (page < xa + xb) = true := by simpa using h2
          have hE : Hid (R = (v + page - xa, 0)) := Lib.hid (by rw [← HR1.out, hN.out, idxF, if_pos ⟨h1, h2⟩, hv'.out])
          gi_wp2_with fail
          obtain ⟨k2, k3, hf2⟩ := two_set (by omega) kO kE (.int .i64 (v + page - xa)) (.int .i64 0)
          exact ⟨hf2.mono fun k _ h => by omega, rfl, by rw [hE.out]; exact k2, by rw [hE.out]; exact k3, hB.trans (hf2.below (by have := hB.size; omega) (fun k hk => by omega))⟩
        · have h2' : decide (page < xa + xb) = false := by simpa using h2
          have hN2 := Lib.hid (idxF_step hN.out (fun h => h2 h.2))
          gi_wp2_with fail
          have hf4 : Far (fun k => k = nb) W (W.setCell ⟨nb, 0, none⟩ (.int .i64 (v + xb))) := Far.setCell (T := fun k => k = nb) (p := ⟨nb, 0, none⟩) (Far.refl _ _) (fun _ => rfl) _
          refine ⟨hf4.mono fun k _ h => by omega, ?_, hf4.blk kI (by omega), hf4.blk kO (by omega), hf4.blk kE (by omega), hB.trans (hf4.below (by have := hB.size; omega) (fun k hk => by omega)), ?_⟩
          · rw [hsn.out, hv'.out]; exact kN.set_ 0 _
          · refine Lib.hid (fun rest2 h => ?_)
            have hr2 : rest2 = rest := by rw [hL1.out] at h; simpa using h.symm
            rw [hr2]; exact hN2.out
      · have h1' : decide (xa ≤ page) = false := by simpa using h1
        have hN2 := Lib.hid (idxF_step hN.out (fun h => h1 h.1))
        gi_wp2_with fail
        have hf4 : Far (fun k => k = nb) W (W.setCell ⟨nb, 0, none⟩ (.int .i64 (v + xb))) := Far.setCell (T := fun k => k = nb) (p := ⟨nb, 0, none⟩) (Far.refl _ _) (fun _ => rfl) _
        refine ⟨hf4.mono fun k _ h => by omega, ?_, hf4.blk kI (by omega), hf4.blk kO (by omega), hf4.blk kE (by omega), hB.trans (hf4.below (by have := hB.size; omega) (fun k hk => by omega)), ?_⟩
        · rw [hsn.out, hv'.out]; exact kN.set_ 0 _
        · refine Lib.hid (fun rest2 h => ?_)
          have hr2 : rest2 = rest := by rw [hL1.out] at h; simpa using h.symm
          rw [hr2]; exact hN2.out
    case done =>
      rintro W hsz ⟨kN, kI, kO, kE, hB, hH⟩ hd
      rw [hs0] at hd hsz
      have hE : Hid (R = (0, 4)) := Lib.hid (by rw [← HR1.out, hH.out [] (by simp)]; rfl)
      have cO := kO.cell
      have fO := kO.frozen
      have cE := kE.cell
      have fE := kE.frozen
      go_wp2_with fail
      obtain ⟨k2, k3, hf2⟩ := two_set (by omega) kO kE (.int .i64 0) (.int .i64 4)
      have hd2 := hf2.same hd (by omega)
      have hB2 := hB.trans (hf2.below (by have := hB.size; omega) (fun k hk => by omega))
      generalize ((W.setCell ⟨s + 2, 0, none⟩ (.int .i64 0)).setCell ⟨s + 3, 0, none⟩ (.int .i64 4)) = w5 at *
      rw [hs0]
      have hfp : Far (fun k => k = w1.heap.size + 1) w5 (World.putObj w5 (w1.heap.size + 1) (.deferred none)) := Far.putObj (T := fun k => k = w1.heap.size + 1) (Far.refl _ _) (fun _ => rfl) _
      have c6 := (hfp.blk k2 (by omega)).cell
      have c7 := (hfp.blk k3 (by omega)).cell
      exact leave_mark (v := .tuple #[.int .i64 (((0 : Int), (4 : Int))).1, .int .i64 (((0 : Int), (4 : Int))).2]) hd2 (by simp [results, Try.results17, go_sem, c6, c7]) ⟨by rw [hE.out], (by rw [hs]; exact (hB2).trans (hfp.below (by have := (hB2).size; omega) (fun k hk => by omega)))⟩
    case stop =>
      rintro c pre W hsz hpre ⟨rfl, kO, kE, hB⟩ hd
      rw [hs0] at hd hsz
      go_wp2_with fail
      have hE : Hid (R = R) := Lib.hid rfl
      rw [hs0]
      have hfp : Far (fun k => k = w1.heap.size + 1) W (World.putObj W (w1.heap.size + 1) (.deferred none)) := Far.putObj (T := fun k => k = w1.heap.size + 1) (Far.refl _ _) (fun _ => rfl) _
      have c6 := (hfp.blk kO (by omega)).cell
      have c7 := (hfp.blk kE (by omega)).cell
      exact leave_mark (v := .tuple #[.int .i64 (R).1, .int .i64 (R).2]) hd (by simp [results, Try.results17, go_sem, c6, c7]) ⟨by rw [hE.out], (by rw [hs]; exact (hB).trans (hfp.below (by have := (hB).size; omega) (fun k hk => by omega)))⟩
end Go.Proofs.Ytdepkmpilipolaa
namespace Go.Pol
/-- what is hit at a page that is not usable -/
def hitK (pg n f b q : Int) : Int := if q < pg ∨ pg + n ≤ q then 4 else if q < pg + f then 1 else if pg + n - b ≤ q then 2 else 3
def badHit (a m : Int) : Prop := a < 0 ∨ 65536 < a ∨ m < 1 ∨ 65536 - a < m
instance badHitDec (a m : Int) : Decidable (badHit a m) := by unfold badHit; infer_instance
def hitF (pg n f b ev a m : Int) : Int × Int × Int :=
  if chkG pg n f b ev = 0 then
    if badHit a m then (0, 0, 2)
    else if (a + m - 1) / 64 < skipF (a / 64) (runsL pg n f b ev) then (0, -1, 0)
    else (hitK pg n f b (skipF (a / 64) (runsL pg n f b ev)), skipF (a / 64) (runsL pg n f b ev), 0)
  else (0, 0, chkG pg n f b ev)
theorem skipF_bound : ∀ (l : List Sp) (p : Int), (∀ x ∈ l, vld x = true) → 0 ≤ p ∧ p ≤ 1024 → 0 ≤ skipF p l ∧ skipF p l ≤ 1024
  | [], p, _, h => h
  | x :: r, p, hv, h => by
    have := vld_iff.1 (hv x (by simp))
    rw [skipF]; split
    · omega
    · exact skipF_bound r p (fun y hy => hv y (by simp [hy])) h
end Go.Pol
namespace Go.Proofs.Ytdepkmpilipolaa
open Go Go.Proofs Go.RowKit Go.Pol Go.Shelf
attribute [local go_sem] Oper.semAt_some Go.Pol.wide_fn Go.Pol.wide_depth Go.Pol.wide_fn' Go.Pol.wide_depth'

set_option maxRecDepth 100000 in
set_option maxHeartbeats 3200000 in
theorem hit_any (pg n f b ev a m : Int) (w : World) (R : Int × Int × Int) (hR : hitF pg n f b ev a m = R) :
    Calls Try.prog 18 #[planV pg n f b ev, .int .i64 a, .int .i64 m] w fun e w' => e = .returned (.tuple #[.int .i64 R.1, .int .i64 R.2.1, .int .i64 R.2.2]) ∧ Below w.heap.size w w' := by
  have HC := Lib.hid (fun W => gcheck_any pg n f b ev W)
  have HR := Lib.hid (fun W => runs_any pg n f b ev W)
  obtain ⟨s, hs⟩ : ∃ s, w.heap.size = s := ⟨_, rfl⟩
  obtain ⟨Wb, hWb⟩ : ∃ Wb, ((w.alloc (.cells (planC pg n f b ev) 31)).alloc (.cells #[.int .i64 0] 3)) = Wb := ⟨_, rfl⟩
  have hb0 : Below s w Wb := by rw [← hWb, ← hs]; exact ((Below.refl w.heap.size w).alloc (Nat.le_refl _) _).alloc (by simp) _
  have kP : Blk Wb s 31 (planC pg n f b ev) := by rw [← hWb, ← hs]; exact (Blk.new _ _ _).alloc _
  have kQ : Blk Wb (s + 1) 3 #[.int .i64 0] := by
    rw [← hWb, ← hs]; have := Blk.new (w.alloc (.cells (planC pg n f b ev) 31)) 3 #[.int .i64 0]
    rw [World.size_alloc] at this; exact this
  have hW1 : Hid (((w.alloc (.cells (planC pg n f b ev) 31)).alloc (.cells #[.int .i64 0] 3)) = Wb) := Lib.hid hWb
  clear hWb
  have HR1 := Lib.hid hR
  clear hR
  by_cases hc : chkG pg n f b ev = 0
  case neg =>
    have hE1 : Hid (R = (0, 0, chkG pg n f b ev)) := Lib.hid (by rw [← HR1.out, hitF, if_neg hc])
    generalize chkG pg n f b ev = er at *
    have hc' : (er != 0) = true := by simpa using hc
    clear hc HR1
    have cP := kP.cell
    refine calls_of_marks Try.func18 rfl ?_
    simp only [Try.ntmps18, List.size_toArray, List.length_cons, List.length_nil, Nat.reduceAdd, Nat.reduceSub, Array.replicate_succ, Array.replicate_zero, List.push_toArray, List.append_toArray, List.nil_append, List.cons_append]
    go_upto_region 1 with fail
    try simp only [Nat.add_assoc, Nat.reduceAdd]
    rw [hW1.out]
    go_wp2_with (go_at_call 31; refine (HC.out _).mono ?_; rintro e w1 ⟨rfl, hq⟩; have kO1 := kQ.call hq; have cO1 := kO1.cell; have fO1 := kO1.frozen; have hb1 := hb0.trans (hq.mono (by have := hb0.size; omega)))
    have k2 := kO1.set_ 0 (.int .i64 0)
    have c2 := k2.cell
    exact leave_none (v := .tuple #[.int .i64 0, .int .i64 0, .int .i64 er]) (by simp [results, Try.results18, go_sem, c2]) ⟨by rw [hE1.out], by rw [hs]; exact hb1.setCell (p := ⟨s + 1, 0, none⟩) (by simp) _⟩
  case pos =>
    have hp := chkG_zero.1 hc
    have HSQ := Lib.hid (fun w1 => runs_start (w1 := w1) hp)
    have HIN := Lib.hid (fun W => inner_any pg n f b ev W hp)
    have hvl := (runsL_can hp).1
    have hlen := (runsL_can hp).len
    rw [hc] at HC
    by_cases hbad : badHit a m
    · have hE1 : Hid (R = (0, 0, 2)) := Lib.hid (by rw [← HR1.out, hitF, if_pos hc, if_pos hbad])
      clear hc HR1
      have cP := kP.cell
      have kQ' := kQ
      by_cases b1 : a < 0
      · have b1' : decide (a < 0) = true := by simpa using b1
        refine calls_of_marks Try.func18 rfl ?_
        simp only [Try.ntmps18, List.size_toArray, List.length_cons, List.length_nil, Nat.reduceAdd, Nat.reduceSub, Array.replicate_succ, Array.replicate_zero, List.push_toArray, List.append_toArray, List.nil_append, List.cons_append]
        go_upto_region 1 with fail
        try simp only [Nat.add_assoc, Nat.reduceAdd]
        rw [hW1.out]
        go_wp2_with (go_at_call 31; refine (HC.out _).mono ?_; rintro e w1 ⟨rfl, hq⟩; have kO1 := kQ.call hq; have cO1 := kO1.cell; have fO1 := kO1.frozen; have hb1 := hb0.trans (hq.mono (by have := hb0.size; omega)))
        have k2 := kO1.set_ 0 (.int .i64 0)
        have c2 := k2.cell
        exact leave_none (v := .tuple #[.int .i64 0, .int .i64 0, .int .i64 2]) (by simp [results, Try.results18, go_sem, c2]) ⟨by rw [hE1.out], by rw [hs]; exact hb1.setCell (p := ⟨s + 1, 0, none⟩) (by simp) _⟩
      · have b1' : decide (a < 0) = false := by simpa using b1
        by_cases b2 : 65536 < a
        · have b2' : decide (65536 < a) = true := by simpa using b2
          refine calls_of_marks Try.func18 rfl ?_
          simp only [Try.ntmps18, List.size_toArray, List.length_cons, List.length_nil, Nat.reduceAdd, Nat.reduceSub, Array.replicate_succ, Array.replicate_zero, List.push_toArray, List.append_toArray, List.nil_append, List.cons_append]
          go_upto_region 1 with fail
          try simp only [Nat.add_assoc, Nat.reduceAdd]
          rw [hW1.out]
          go_wp2_with (go_at_call 31; refine (HC.out _).mono ?_; rintro e w1 ⟨rfl, hq⟩; have kO1 := kQ.call hq; have cO1 := kO1.cell; have fO1 := kO1.frozen; have hb1 := hb0.trans (hq.mono (by have := hb0.size; omega)))
          have k2 := kO1.set_ 0 (.int .i64 0)
          have c2 := k2.cell
          exact leave_none (v := .tuple #[.int .i64 0, .int .i64 0, .int .i64 2]) (by simp [results, Try.results18, go_sem, c2]) ⟨by rw [hE1.out], by rw [hs]; exact hb1.setCell (p := ⟨s + 1, 0, none⟩) (by simp) _⟩
        · have b2' : decide (65536 < a) = false := by simpa using b2
          by_cases b3 : m < 1
          · have b3' : decide (m < 1) = true := by simpa using b3
            refine calls_of_marks Try.func18 rfl ?_
            simp only [Try.ntmps18, List.size_toArray, List.length_cons, List.length_nil, Nat.reduceAdd, Nat.reduceSub, Array.replicate_succ, Array.replicate_zero, List.push_toArray, List.append_toArray, List.nil_append, List.cons_append]
            go_upto_region 1 with fail
            try simp only [Nat.add_assoc, Nat.reduceAdd]
            rw [hW1.out]
            go_wp2_with (go_at_call 31; refine (HC.out _).mono ?_; rintro e w1 ⟨rfl, hq⟩; have kO1 := kQ.call hq; have cO1 := kO1.cell; have fO1 := kO1.frozen; have hb1 := hb0.trans (hq.mono (by have := hb0.size; omega)))
            have k2 := kO1.set_ 0 (.int .i64 0)
            have c2 := k2.cell
            exact leave_none (v := .tuple #[.int .i64 0, .int .i64 0, .int .i64 2]) (by simp [results, Try.results18, go_sem, c2]) ⟨by rw [hE1.out], by rw [hs]; exact hb1.setCell (p := ⟨s + 1, 0, none⟩) (by simp) _⟩
          · have b3' : decide (m < 1) = false := by simpa using b3
            have b4 : 65536 - a < m := by unfold badHit at hbad; omega
            have b4' : decide (65536 - a < m) = true := by simpa using b4
            refine calls_of_marks Try.func18 rfl ?_
            simp only [Try.ntmps18, List.size_toArray, List.length_cons, List.length_nil, Nat.reduceAdd, Nat.reduceSub, Array.replicate_succ, Array.replicate_zero, List.push_toArray, List.append_toArray, List.nil_append, List.cons_append]
            go_upto_region 1 with fail
            try simp only [Nat.add_assoc, Nat.reduceAdd]
            rw [hW1.out]
            go_wp2_with (go_at_call 31; refine (HC.out _).mono ?_; rintro e w1 ⟨rfl, hq⟩; have kO1 := kQ.call hq; have cO1 := kO1.cell; have fO1 := kO1.frozen; have hb1 := hb0.trans (hq.mono (by have := hb0.size; omega)))
            have k2 := kO1.set_ 0 (.int .i64 0)
            have c2 := k2.cell
            exact leave_none (v := .tuple #[.int .i64 0, .int .i64 0, .int .i64 2]) (by simp [results, Try.results18, go_sem, c2]) ⟨by rw [hE1.out], by rw [hs]; exact hb1.setCell (p := ⟨s + 1, 0, none⟩) (by simp) _⟩
    · have hHR0 : R = if (a + m - 1) / 64 < skipF (a / 64) (runsL pg n f b ev) then (0, -1, 0) else (hitK pg n f b (skipF (a / 64) (runsL pg n f b ev)), skipF (a / 64) (runsL pg n f b ev), 0) := by rw [← HR1.out, hitF, if_pos hc, if_neg hbad]
      unfold badHit at hbad
      have b1 : 0 ≤ a := by omega
      have b2 : a ≤ 65536 := by omega
      have b3 : 1 ≤ m := by omega
      have b4 : m ≤ 65536 - a := by omega
      have b1' : decide (a < 0) = false := by simpa using b1
      have b2' : decide (65536 < a) = false := by simpa using b2
      have b3' : decide (m < 1) = false := by simp; omega
      have b4' : decide (65536 - a < m) = false := by simpa using b4
      have hd1 : Int.tdiv a 64 = a / 64 := Int.tdiv_eq_ediv_of_nonneg b1
      have hd2 : Int.tdiv (a + m - 1) 64 = (a + m - 1) / 64 := Int.tdiv_eq_ediv_of_nonneg (by omega)
      have hpa : 0 ≤ a / 64 ∧ a / 64 ≤ 1024 := by omega
      have hla : 0 ≤ (a + m - 1) / 64 ∧ (a + m - 1) / 64 ≤ 1024 := by omega
      clear hc HR1 hbad
      generalize runsL pg n f b ev = L at *
      have cP := kP.cell
      refine calls_of_marks Try.func18 rfl ?_
      simp only [Try.ntmps18, List.size_toArray, List.length_cons, List.length_nil, Nat.reduceAdd, Nat.reduceSub, Array.replicate_succ, Array.replicate_zero, List.push_toArray, List.append_toArray, List.nil_append, List.cons_append]
      go_upto_region 1 with fail
      try simp only [Nat.add_assoc, Nat.reduceAdd]
      rw [hW1.out]
      go_wp2_with (first
        | (go_at_call 31; refine (HC.out _).mono ?_; rintro e wc ⟨rfl, hq⟩; have kP1 := kP.call hq; have kQ1 := kQ.call hq; have cP1 := kP1.cell; have cQ1 := kQ1.cell; have fQ1 := kQ1.frozen; have hb1 := hb0.trans (hq.mono (by have := hb0.size; omega)))
        | (go_at_call 33; refine (HR.out _).mono ?_; rintro e w2 ⟨rfl, rfl⟩))
      have hf1 : Far (fun k => k = s + 1) wc (wc.setCell ⟨s + 1, 0, none⟩ (.int .i64 (a / 64))) := Far.setCell (T := fun k => k = s + 1) (p := ⟨s + 1, 0, none⟩) (Far.refl _ _) (fun _ => rfl) _
      have kQ2 : Blk (wc.setCell ⟨s + 1, 0, none⟩ (.int .i64 (a / 64))) (s + 1) 3 #[.int .i64 (a / 64)] := kQ1.set_ 0 _
      have kP2 := hf1.blk kP1 (by omega)
      have hb2 := hb1.trans (hf1.below (by have := hb1.size; omega) (fun k hk => by omega))
      have hsc : (wc.setCell ⟨s + 1, 0, none⟩ (.int .i64 (a / 64))).heap.size = wc.heap.size := by simp [World.setCell]
      rw [← hsc]
      generalize wc.setCell ⟨s + 1, 0, none⟩ (.int .i64 (a / 64)) = w1 at *
      replace hb1 := hb2
      clear hf1 hb2 hsc kQ1 kP1 cP1 cQ1 fQ1 kP kQ cP hb0
      obtain ⟨W0, hW0⟩ : ∃ W0, w1.alloc (.cells (planC pg n f b ev) 31) = W0 := ⟨_, rfl⟩
      have hs0 : W0.heap.size = w1.heap.size + 1 := by rw [← hW0]; simp
      have hB0 : Below s w W0 := by rw [← hW0]; exact hb1.alloc (by have := hb1.size; omega) _
      have hF0 : Far (fun _ => False) w1 W0 := by rw [← hW0]; exact (Far.refl _ _).alloc _
      have hseq := HSQ.out w1
      rw [hW0] at hseq ⊢
      clear hW0
      have kQ0 := hF0.blk kQ2 id
      have kP0 := hF0.blk kP2 id
      have ls1 := kQ2.lt
      have hszw := hb1.size
      obtain ⟨pa, hpa0⟩ : ∃ pa, a / 64 = pa := ⟨_, rfl⟩
      obtain ⟨la, hla0⟩ : ∃ la, (a + m - 1) / 64 = la := ⟨_, rfl⟩
      rw [hpa0] at kQ0 hpa hHR0 ⊢
      rw [hla0] at hla hHR0 ⊢
      have hHR := Lib.hid hHR0
      have hsk := skipF_bound L pa hvl hpa
      clear hHR0 hd1 hd2 hpa0 hla0 kQ2
      refine rangeFB 11 44 56 (gf := 49) (lb := #[.pointer (some ⟨w1.heap.size, 0, none⟩)]) rfl runs_enters hseq rfl (fun _ h => h.elim) (fun k h => by omega)
        (fun pre W => Blk W (s + 1) 3 #[.int .i64 pa] ∧ Blk W s 31 (planC pg n f b ev) ∧ Below s w W ∧ Hid (∀ rest, L = pre ++ rest → skipF pa L = skipF pa rest))
        (fun c pre W => c = .exit 0 ∧ Blk W (s + 1) 3 #[.int .i64 (skipF pa L)] ∧ Blk W s 31 (planC pg n f b ev) ∧ Below s w W)
        (fun pre A B h hf => ⟨hf.blk h.1 (by rintro (h | h | h) <;> omega), hf.blk h.2.1 (by rintro (h | h | h) <;> omega), h.2.2.1.trans (hf.below (Nat.le_trans (by omega) h.2.2.1.size) (fun k hk => by rintro (h | h | h) <;> omega)), h.2.2.2⟩)
        (fun c pre A B h hf => ⟨h.1, hf.blk h.2.1 (by rintro (h | h | h) <;> omega), hf.blk h.2.2.1 (by rintro (h | h | h) <;> omega), h.2.2.2.trans (hf.below (Nat.le_trans (by omega) h.2.2.2.size) (fun k hk => by rintro (h | h | h) <;> omega))⟩)
        ⟨kQ0, kP0, hB0, Lib.hid (fun rest h => by rw [h]; rfl)⟩ ?assign ?body ?done ?stop
      case assign =>
        intro m l x W C hC
        simp only [List.setIfInBounds_toArray, List.set_cons_succ, List.set_cons_zero] at hC ⊢
        gi_wp2
        exact hC
      case body =>
        rintro mm l pre x Bx Wa W hsz ⟨kQ, kP, hB, hH⟩ hpre hBx kx _ _ _
        simp only [List.setIfInBounds_toArray, List.set_cons_succ, List.set_cons_zero]
        have hvx := vld_iff.1 (hvl x (prefix_mem hpre (by simp)))
        obtain ⟨rest, hrest⟩ := prefix_cons hpre
        have hN := Lib.hid (hH.out _ hrest)
        have hL1 := Lib.hid hrest
        clear hrest hpre hH
        obtain ⟨xa, xb⟩ := x
        dsimp only at kx hvx
        have cx := kx.cell
        have cQ := kQ.cell
        have fQ := kQ.frozen
        by_cases h1 : xa ≤ pa
        · have h1' : decide (xa ≤ pa) = true := by simpa using h1
          by_cases h2 : pa < xa + xb
          · have h2' : decide (pa < xa + xb) = true := by simpa using h2
            have hE : Hid (skipF pa L = xa + xb) := Lib.hid (by rw [hN.out, skipF, if_pos ⟨h1, h2⟩])
            clear h1 h2
            gi_wp2_with fail
            have hf4 : Far (fun k => k = s + 1) W (W.setCell ⟨s + 1, 0, none⟩ (.int .i64 (xa + xb))) := Far.setCell (T := fun k => k = s + 1) (p := ⟨s + 1, 0, none⟩) (Far.refl _ _) (fun _ => rfl) _
            exact ⟨hf4.mono fun k _ h => by omega, rfl, by rw [hE.out]; exact kQ.set_ 0 _, hf4.blk kP (by omega), hB.trans (hf4.below (by have := hB.size; omega) (fun k hk => by omega))⟩
          · have h2' : decide (pa < xa + xb) = false := by simpa using h2
            have hN2 := Lib.hid (skipF_step hN.out (fun h => h2 h.2))
            gi_wp2_with fail
            exact ⟨Far.refl _ _, kQ, kP, hB, Lib.hid (fun rest2 h => by
              have hr2 : rest2 = rest := by rw [hL1.out] at h; simpa using h.symm
              rw [hr2]; exact hN2.out)⟩
        · have h1' : decide (xa ≤ pa) = false := by simpa using h1
          have hN2 := Lib.hid (skipF_step hN.out (fun h => h1 h.1))
          gi_wp2_with fail
          exact ⟨Far.refl _ _, kQ, kP, hB, Lib.hid (fun rest2 h => by
            have hr2 : rest2 = rest := by rw [hL1.out] at h; simpa using h.symm
            rw [hr2]; exact hN2.out)⟩
      case done =>
        rintro W hsz ⟨kQ, kP, hB, hH⟩ hd
        have hq0 : skipF pa L = pa := by rw [hH.out [] (by simp)]; rfl
        obtain ⟨q, hq⟩ : ∃ q, skipF pa L = q := ⟨_, rfl⟩
        rw [← hq0, hq] at kQ
        rw [hq] at hHR hsk
        clear hq hq0 hH
        have g1 := hp.pg0
        have g2 := hp.pg1
        have g3 := hp.n0
        have g4 := hp.n1
        have g5 := hp.f0
        have g6 := hp.f1
        have g7 := hp.b0
        have g8 := hp.b1
        have cQ := kQ.cell
        have fQ := kQ.frozen
        have cP := kP.cell
        rw [hs0] at hd hsz
        by_cases hgt : la < q
        · have hgt' : decide (la < q) = true := by simpa using hgt
          have hE : Hid (R = (0, -1, 0)) := Lib.hid (by rw [hHR.out, if_pos hgt])
          go_wp2_with fail
          have hf5 : Far (fun k => k = s + 1) W (W.setCell ⟨s + 1, 0, none⟩ (.int .i64 (-1))) := Far.setCell (T := fun k => k = s + 1) (p := ⟨s + 1, 0, none⟩) (Far.refl _ _) (fun _ => rfl) _
          have kQ5 : Blk (W.setCell ⟨s + 1, 0, none⟩ (.int .i64 (-1))) (s + 1) 3 #[.int .i64 (-1)] := kQ.set_ 0 _
          have hd5 := hf5.same hd (by omega)
          have hB5 := hB.trans (hf5.below (by have := hB.size; omega) (fun k hk => by omega))
          generalize W.setCell ⟨s + 1, 0, none⟩ (.int .i64 (-1)) = w5 at *
          rw [hs0]
          have hfp : Far (fun k => k = w1.heap.size + 1) w5 (w5.putObj (w1.heap.size + 1) (.deferred none)) := Far.putObj (T := fun k => k = w1.heap.size + 1) (Far.refl _ _) (fun _ => rfl) _
          have c6 := (hfp.blk kQ5 (by omega)).cell
          exact leave_mark (v := .tuple #[.int .i64 0, .int .i64 (-1), .int .i64 0]) hd5 (by simp [results, Try.results18, go_sem, c6]) ⟨by rw [hE.out], (by rw [hs]; exact (hB5).trans (hfp.below (by have := (hB5).size; omega) (fun k hk => by omega)))⟩
        · have hgt' : decide (la < q) = false := by simpa using hgt
          have hE2 : Hid (R = (hitK pg n f b q, q, 0)) := Lib.hid (by rw [hHR.out, if_neg hgt])
          rw [hs0]
          by_cases d1 : q < pg
          · have d1' : decide (q < pg) = true := by simpa using d1
            have hE : Hid (R = (4, q, 0)) := Lib.hid (by rw [hE2.out, hitK, if_pos (.inl d1)])
            clear d1
            go_wp2_with (go_at_call 34; refine (HIN.out _).mono ?_; rintro e w3 ⟨rfl, hq3⟩; have kQ3 := kQ.call hq3; have kP3 := kP.call hq3; have cQ3 := kQ3.cell; have fQ3 := kQ3.frozen; have cP3 := kP3.cell; have hd3 := (Far.of_below (T := fun _ => False) hq3).same hd id; have hB3 := hB.trans (hq3.mono (by have := hB.size; omega)))
            have ez := fun z : Ext w3 => (z.blk kQ3).cell
            go_upto_region 15 with fail
            refine region_ext_tail 2 (by kernel_rfl) (by kernel_rfl) ?_
            simp only [List.take_succ_cons, List.take_zero, List.drop_succ_cons, List.drop_zero]
            repeat (go_big_quiet_step (fail))
            refine wpQuiet_nil ?_
            intro x
            have kQx := x.blk kQ3
            have cQx := kQx.cell
            have fQx := kQx.frozen
            go_wp2_with fail
            have hf5 : Far (fun k => k = s + 1) w3 (x.w.setCell ⟨s + 1, 0, none⟩ (.int .i64 q)) := Far.setCell (T := fun k => k = s + 1) (p := ⟨s + 1, 0, none⟩) (.of_below x.le) (fun _ => rfl) _
            have kQ5 : Blk (x.w.setCell ⟨s + 1, 0, none⟩ (.int .i64 q)) (s + 1) 3 #[.int .i64 q] := kQx.set_ 0 _
            have hd5 := hf5.same hd3 (by omega)
            have hB5 := hB3.trans (hf5.below (by have := hB3.size; omega) (fun k hk => by omega))
            generalize x.w.setCell ⟨s + 1, 0, none⟩ (.int .i64 q) = w5 at *
            have hfp : Far (fun k => k = w1.heap.size + 1) w5 (w5.putObj (w1.heap.size + 1) (.deferred none)) := Far.putObj (T := fun k => k = w1.heap.size + 1) (Far.refl _ _) (fun _ => rfl) _
            have c6 := (hfp.blk kQ5 (by omega)).cell
            exact leave_mark (v := .tuple #[.int .i64 4, .int .i64 q, .int .i64 0]) hd5 (by simp [results, Try.results18, go_sem, c6]) ⟨by rw [hE.out], (by rw [hs]; exact (hB5).trans (hfp.below (by have := (hB5).size; omega) (fun k hk => by omega)))⟩
          · have d1' : decide (q < pg) = false := by simpa using d1
            by_cases d2 : pg + n ≤ q
            · have d2' : decide (pg + n ≤ q) = true := by simpa using d2
              have hE : Hid (R = (4, q, 0)) := Lib.hid (by rw [hE2.out, hitK, if_pos (.inr d2)])
              clear d1 d2
              go_wp2_with (go_at_call 34; refine (HIN.out _).mono ?_; rintro e w3 ⟨rfl, hq3⟩; have kQ3 := kQ.call hq3; have kP3 := kP.call hq3; have cQ3 := kQ3.cell; have fQ3 := kQ3.frozen; have cP3 := kP3.cell; have hd3 := (Far.of_below (T := fun _ => False) hq3).same hd id; have hB3 := hB.trans (hq3.mono (by have := hB.size; omega)))
              have ez := fun z : Ext w3 => (z.blk kQ3).cell
              go_upto_region 15 with fail
              refine region_ext_tail 2 (by kernel_rfl) (by kernel_rfl) ?_
              simp only [List.take_succ_cons, List.take_zero, List.drop_succ_cons, List.drop_zero]
              repeat (go_big_quiet_step (fail))
              refine wpQuiet_nil ?_
              intro x
              have kQx := x.blk kQ3
              have cQx := kQx.cell
              have fQx := kQx.frozen
              go_wp2_with fail
              have hf5 : Far (fun k => k = s + 1) w3 (x.w.setCell ⟨s + 1, 0, none⟩ (.int .i64 q)) := Far.setCell (T := fun k => k = s + 1) (p := ⟨s + 1, 0, none⟩) (.of_below x.le) (fun _ => rfl) _
              have kQ5 : Blk (x.w.setCell ⟨s + 1, 0, none⟩ (.int .i64 q)) (s + 1) 3 #[.int .i64 q] := kQx.set_ 0 _
              have hd5 := hf5.same hd3 (by omega)
              have hB5 := hB3.trans (hf5.below (by have := hB3.size; omega) (fun k hk => by omega))
              generalize x.w.setCell ⟨s + 1, 0, none⟩ (.int .i64 q) = w5 at *
              have hfp : Far (fun k => k = w1.heap.size + 1) w5 (w5.putObj (w1.heap.size + 1) (.deferred none)) := Far.putObj (T := fun k => k = w1.heap.size + 1) (Far.refl _ _) (fun _ => rfl) _
              have c6 := (hfp.blk kQ5 (by omega)).cell
              exact leave_mark (v := .tuple #[.int .i64 4, .int .i64 q, .int .i64 0]) hd5 (by simp [results, Try.results18, go_sem, c6]) ⟨by rw [hE.out], (by rw [hs]; exact (hB5).trans (hfp.below (by have := (hB5).size; omega) (fun k hk => by omega)))⟩
            · have d2' : decide (pg + n ≤ q) = false := by simpa using d2
              by_cases d3 : q < pg + f
              · have d3' : decide (q < pg + f) = true := by simpa using d3
                have hE : Hid (R = (1, q, 0)) := Lib.hid (by rw [hE2.out, hitK, if_neg (by omega), if_pos d3])
                clear d1 d2 d3
                go_wp2_with (go_at_call 34; refine (HIN.out _).mono ?_; rintro e w3 ⟨rfl, hq3⟩; have kQ3 := kQ.call hq3; have kP3 := kP.call hq3; have cQ3 := kQ3.cell; have fQ3 := kQ3.frozen; have cP3 := kP3.cell; have hd3 := (Far.of_below (T := fun _ => False) hq3).same hd id; have hB3 := hB.trans (hq3.mono (by have := hB.size; omega)))
                have ez := fun z : Ext w3 => (z.blk kQ3).cell
                go_upto_region 17 with fail
                refine region_ext_tail 2 (by kernel_rfl) (by kernel_rfl) ?_
                simp only [List.take_succ_cons, List.take_zero, List.drop_succ_cons, List.drop_zero]
                repeat (go_big_quiet_step (fail))
                refine wpQuiet_nil ?_
                intro x
                have kQx := x.blk kQ3
                have cQx := kQx.cell
                have fQx := kQx.frozen
                go_wp2_with fail
                have hf5 : Far (fun k => k = s + 1) w3 (x.w.setCell ⟨s + 1, 0, none⟩ (.int .i64 q)) := Far.setCell (T := fun k => k = s + 1) (p := ⟨s + 1, 0, none⟩) (.of_below x.le) (fun _ => rfl) _
                have kQ5 : Blk (x.w.setCell ⟨s + 1, 0, none⟩ (.int .i64 q)) (s + 1) 3 #[.int .i64 q] := kQx.set_ 0 _
                have hd5 := hf5.same hd3 (by omega)
                have hB5 := hB3.trans (hf5.below (by have := hB3.size; omega) (fun k hk => by omega))
                generalize x.w.setCell ⟨s + 1, 0, none⟩ (.int .i64 q) = w5 at *
                have hfp : Far (fun k => k = w1.heap.size + 1) w5 (w5.putObj (w1.heap.size + 1) (.deferred none)) := Far.putObj (T := fun k => k = w1.heap.size + 1) (Far.refl _ _) (fun _ => rfl) _
                have c6 := (hfp.blk kQ5 (by omega)).cell
                exact leave_mark (v := .tuple #[.int .i64 1, .int .i64 q, .int .i64 0]) hd5 (by simp [results, Try.results18, go_sem, c6]) ⟨by rw [hE.out], (by rw [hs]; exact (hB5).trans (hfp.below (by have := (hB5).size; omega) (fun k hk => by omega)))⟩
              · have d3' : decide (q < pg + f) = false := by simpa using d3
                by_cases d4 : pg + n - b ≤ q
                · have d4' : decide (pg + n - b ≤ q) = true := by simpa using d4
                  have hE : Hid (R = (2, q, 0)) := Lib.hid (by rw [hE2.out, hitK, if_neg (by omega), if_neg d3, if_pos d4])
                  clear d1 d2 d3 d4
                  go_wp2_with (go_at_call 34; refine (HIN.out _).mono ?_; rintro e w3 ⟨rfl, hq3⟩; have kQ3 := kQ.call hq3; have kP3 := kP.call hq3; have cQ3 := kQ3.cell; have fQ3 := kQ3.frozen; have cP3 := kP3.cell; have hd3 := (Far.of_below (T := fun _ => False) hq3).same hd id; have hB3 := hB.trans (hq3.mono (by have := hB.size; omega)))
                  have ez := fun z : Ext w3 => (z.blk kQ3).cell
                  go_upto_region 19 with fail
                  refine region_ext_tail 2 (by kernel_rfl) (by kernel_rfl) ?_
                  simp only [List.take_succ_cons, List.take_zero, List.drop_succ_cons, List.drop_zero]
                  repeat (go_big_quiet_step (fail))
                  refine wpQuiet_nil ?_
                  intro x
                  have kQx := x.blk kQ3
                  have cQx := kQx.cell
                  have fQx := kQx.frozen
                  go_wp2_with fail
                  have hf5 : Far (fun k => k = s + 1) w3 (x.w.setCell ⟨s + 1, 0, none⟩ (.int .i64 q)) := Far.setCell (T := fun k => k = s + 1) (p := ⟨s + 1, 0, none⟩) (.of_below x.le) (fun _ => rfl) _
                  have kQ5 : Blk (x.w.setCell ⟨s + 1, 0, none⟩ (.int .i64 q)) (s + 1) 3 #[.int .i64 q] := kQx.set_ 0 _
                  have hd5 := hf5.same hd3 (by omega)
                  have hB5 := hB3.trans (hf5.below (by have := hB3.size; omega) (fun k hk => by omega))
                  generalize x.w.setCell ⟨s + 1, 0, none⟩ (.int .i64 q) = w5 at *
                  have hfp : Far (fun k => k = w1.heap.size + 1) w5 (w5.putObj (w1.heap.size + 1) (.deferred none)) := Far.putObj (T := fun k => k = w1.heap.size + 1) (Far.refl _ _) (fun _ => rfl) _
                  have c6 := (hfp.blk kQ5 (by omega)).cell
                  exact leave_mark (v := .tuple #[.int .i64 2, .int .i64 q, .int .i64 0]) hd5 (by simp [results, Try.results18, go_sem, c6]) ⟨by rw [hE.out], (by rw [hs]; exact (hB5).trans (hfp.below (by have := (hB5).size; omega) (fun k hk => by omega)))⟩
                · have d4' : decide (pg + n - b ≤ q) = false := by simpa using d4
                  have hE : Hid (R = (3, q, 0)) := Lib.hid (by rw [hE2.out, hitK, if_neg (by omega), if_neg d3, if_neg d4])
                  clear d1 d2 d3 d4
                  go_wp2_with (go_at_call 34; refine (HIN.out _).mono ?_; rintro e w3 ⟨rfl, hq3⟩; have kQ3 := kQ.call hq3; have kP3 := kP.call hq3; have cQ3 := kQ3.cell; have fQ3 := kQ3.frozen; have cP3 := kP3.cell; have hd3 := (Far.of_below (T := fun _ => False) hq3).same hd id; have hB3 := hB.trans (hq3.mono (by have := hB.size; omega)))
                  have ez := fun z : Ext w3 => (z.blk kQ3).cell
                  go_upto_region 20 with fail
                  refine region_ext_tail 2 (by kernel_rfl) (by kernel_rfl) ?_
                  simp only [List.take_succ_cons, List.take_zero, List.drop_succ_cons, List.drop_zero]
                  repeat (go_big_quiet_step (fail))
                  refine wpQuiet_nil ?_
                  intro x
                  have kQx := x.blk kQ3
                  have cQx := kQx.cell
                  have fQx := kQx.frozen
                  go_wp2_with fail
                  have hf5 : Far (fun k => k = s + 1) w3 (x.w.setCell ⟨s + 1, 0, none⟩ (.int .i64 q)) := Far.setCell (T := fun k => k = s + 1) (p := ⟨s + 1, 0, none⟩) (.of_below x.le) (fun _ => rfl) _
                  have kQ5 : Blk (x.w.setCell ⟨s + 1, 0, none⟩ (.int .i64 q)) (s + 1) 3 #[.int .i64 q] := kQx.set_ 0 _
                  have hd5 := hf5.same hd3 (by omega)
                  have hB5 := hB3.trans (hf5.below (by have := hB3.size; omega) (fun k hk => by omega))
                  generalize x.w.setCell ⟨s + 1, 0, none⟩ (.int .i64 q) = w5 at *
                  have hfp : Far (fun k => k = w1.heap.size + 1) w5 (w5.putObj (w1.heap.size + 1) (.deferred none)) := Far.putObj (T := fun k => k = w1.heap.size + 1) (Far.refl _ _) (fun _ => rfl) _
                  have c6 := (hfp.blk kQ5 (by omega)).cell
                  exact leave_mark (v := .tuple #[.int .i64 3, .int .i64 q, .int .i64 0]) hd5 (by simp [results, Try.results18, go_sem, c6]) ⟨by rw [hE.out], (by rw [hs]; exact (hB5).trans (hfp.below (by have := (hB5).size; omega) (fun k hk => by omega)))⟩
      case stop =>
        rintro c pre W hsz hpre ⟨rfl, kQ, kP, hB⟩ hd
        obtain ⟨q, hq⟩ : ∃ q, skipF pa L = q := ⟨_, rfl⟩
        rw [hq] at kQ hHR hsk
        clear hq
        have g1 := hp.pg0
        have g2 := hp.pg1
        have g3 := hp.n0
        have g4 := hp.n1
        have g5 := hp.f0
        have g6 := hp.f1
        have g7 := hp.b0
        have g8 := hp.b1
        have cQ := kQ.cell
        have fQ := kQ.frozen
        have cP := kP.cell
        rw [hs0] at hd hsz
        by_cases hgt : la < q
        · have hgt' : decide (la < q) = true := by simpa using hgt
          have hE : Hid (R = (0, -1, 0)) := Lib.hid (by rw [hHR.out, if_pos hgt])
          go_wp2_with fail
          have hf5 : Far (fun k => k = s + 1) W (W.setCell ⟨s + 1, 0, none⟩ (.int .i64 (-1))) := Far.setCell (T := fun k => k = s + 1) (p := ⟨s + 1, 0, none⟩) (Far.refl _ _) (fun _ => rfl) _
          have kQ5 : Blk (W.setCell ⟨s + 1, 0, none⟩ (.int .i64 (-1))) (s + 1) 3 #[.int .i64 (-1)] := kQ.set_ 0 _
          have hd5 := hf5.same hd (by omega)
          have hB5 := hB.trans (hf5.below (by have := hB.size; omega) (fun k hk => by omega))
          generalize W.setCell ⟨s + 1, 0, none⟩ (.int .i64 (-1)) = w5 at *
          rw [hs0]
          have hfp : Far (fun k => k = w1.heap.size + 1) w5 (w5.putObj (w1.heap.size + 1) (.deferred none)) := Far.putObj (T := fun k => k = w1.heap.size + 1) (Far.refl _ _) (fun _ => rfl) _
          have c6 := (hfp.blk kQ5 (by omega)).cell
          exact leave_mark (v := .tuple #[.int .i64 0, .int .i64 (-1), .int .i64 0]) hd5 (by simp [results, Try.results18, go_sem, c6]) ⟨by rw [hE.out], (by rw [hs]; exact (hB5).trans (hfp.below (by have := (hB5).size; omega) (fun k hk => by omega)))⟩
        · have hgt' : decide (la < q) = false := by simpa using hgt
          have hE2 : Hid (R = (hitK pg n f b q, q, 0)) := Lib.hid (by rw [hHR.out, if_neg hgt])
          rw [hs0]
          by_cases d1 : q < pg
          · have d1' : decide (q < pg) = true := by simpa using d1
            have hE : Hid (R = (4, q, 0)) := Lib.hid (by rw [hE2.out, hitK, if_pos (.inl d1)])
            clear d1
            go_wp2_with (go_at_call 34; refine (HIN.out _).mono ?_; rintro e w3 ⟨rfl, hq3⟩; have kQ3 := kQ.call hq3; have kP3 := kP.call hq3; have cQ3 := kQ3.cell; have fQ3 := kQ3.frozen; have cP3 := kP3.cell; have hd3 := (Far.of_below (T := fun _ => False) hq3).same hd id; have hB3 := hB.trans (hq3.mono (by have := hB.size; omega)))
            have ez := fun z : Ext w3 => (z.blk kQ3).cell
            go_upto_region 15 with fail
            refine region_ext_tail 2 (by kernel_rfl) (by kernel_rfl) ?_
            simp only [List.take_succ_cons, List.take_zero, List.drop_succ_cons, List.drop_zero]
            repeat (go_big_quiet_step (fail))
            refine wpQuiet_nil ?_
            intro x
            have kQx := x.blk kQ3
            have cQx := kQx.cell
            have fQx := kQx.frozen
            go_wp2_with fail
            have hf5 : Far (fun k => k = s + 1) w3 (x.w.setCell ⟨s + 1, 0, none⟩ (.int .i64 q)) := Far.setCell (T := fun k => k = s + 1) (p := ⟨s + 1, 0, none⟩) (.of_below x.le) (fun _ => rfl) _
            have kQ5 : Blk (x.w.setCell ⟨s + 1, 0, none⟩ (.int .i64 q)) (s + 1) 3 #[.int .i64 q] := kQx.set_ 0 _
            have hd5 := hf5.same hd3 (by omega)
            have hB5 := hB3.trans (hf5.below (by have := hB3.size; omega) (fun k hk => by omega))
            generalize x.w.setCell ⟨s + 1, 0, none⟩ (.int .i64 q) = w5 at *
            have hfp : Far (fun k => k = w1.heap.size + 1) w5 (w5.putObj (w1.heap.size + 1) (.deferred none)) := Far.putObj (T := fun k => k = w1.heap.size + 1) (Far.refl _ _) (fun _ => rfl) _
            have c6 := (hfp.blk kQ5 (by omega)).cell
            exact leave_mark (v := .tuple #[.int .i64 4, .int .i64 q, .int .i64 0]) hd5 (by simp [results, Try.results18, go_sem, c6]) ⟨by rw [hE.out], (by rw [hs]; exact (hB5).trans (hfp.below (by have := (hB5).size; omega) (fun k hk => by omega)))⟩
          · have d1' : decide (q < pg) = false := by simpa using d1
            by_cases d2 : pg + n ≤ q
            · have d2' : decide (pg + n ≤ q) = true := by simpa using d2
              have hE : Hid (R = (4, q, 0)) := Lib.hid (by rw [hE2.out, hitK, if_pos (.inr d2)])
              clear d1 d2
              go_wp2_with (go_at_call 34; refine (HIN.out _).mono ?_; rintro e w3 ⟨rfl, hq3⟩; have kQ3 := kQ.call hq3; have kP3 := kP.call hq3; have cQ3 := kQ3.cell; have fQ3 := kQ3.frozen; have cP3 := kP3.cell; have hd3 := (Far.of_below (T := fun _ => False) hq3).same hd id; have hB3 := hB.trans (hq3.mono (by have := hB.size; omega)))
              have ez := fun z : Ext w3 => (z.blk kQ3).cell
              go_upto_region 15 with fail
              refine region_ext_tail 2 (by kernel_rfl) (by kernel_rfl) ?_
              simp only [List.take_succ_cons, List.take_zero, List.drop_succ_cons, List.drop_zero]
              repeat (go_big_quiet_step (fail))
              refine wpQuiet_nil ?_
              intro x
              have kQx := x.blk kQ3
              have cQx := kQx.cell
              have fQx := kQx.frozen
              go_wp2_with fail
              have hf5 : Far (fun k => k = s + 1) w3 (x.w.setCell ⟨s + 1, 0, none⟩ (.int .i64 q)) := Far.setCell (T := fun k => k = s + 1) (p := ⟨s + 1, 0, none⟩) (.of_below x.le) (fun _ => rfl) _
              have kQ5 : Blk (x.w.setCell ⟨s + 1, 0, none⟩ (.int .i64 q)) (s + 1) 3 #[.int .i64 q] := kQx.set_ 0 _
              have hd5 := hf5.same hd3 (by omega)
              have hB5 := hB3.trans (hf5.below (by have := hB3.size; omega) (fun k hk => by omega))
              generalize x.w.setCell ⟨s + 1, 0, none⟩ (.int .i64 q) = w5 at *
              have hfp : Far (fun k => k = w1.heap.size + 1) w5 (w5.putObj (w1.heap.size + 1) (.deferred none)) := Far.putObj (T := fun k => k = w1.heap.size + 1) (Far.refl _ _) (fun _ => rfl) _
              have c6 := (hfp.blk kQ5 (by omega)).cell
              exact leave_mark (v := .tuple #[.int .i64 4, .int .i64 q, .int .i64 0]) hd5 (by simp [results, Try.results18, go_sem, c6]) ⟨by rw [hE.out], (by rw [hs]; exact (hB5).trans (hfp.below (by have := (hB5).size; omega) (fun k hk => by omega)))⟩
            · have d2' : decide (pg + n ≤ q) = false := by simpa using d2
              by_cases d3 : q < pg + f
              · have d3' : decide (q < pg + f) = true := by simpa using d3
                have hE : Hid (R = (1, q, 0)) := Lib.hid (by rw [hE2.out, hitK, if_neg (by omega), if_pos d3])
                clear d1 d2 d3
                go_wp2_with (go_at_call 34; refine (HIN.out _).mono ?_; rintro e w3 ⟨rfl, hq3⟩; have kQ3 := kQ.call hq3; have kP3 := kP.call hq3; have cQ3 := kQ3.cell; have fQ3 := kQ3.frozen; have cP3 := kP3.cell; have hd3 := (Far.of_below (T := fun _ => False) hq3).same hd id; have hB3 := hB.trans (hq3.mono (by have := hB.size; omega)))
                have ez := fun z : Ext w3 => (z.blk kQ3).cell
                go_upto_region 17 with fail
                refine region_ext_tail 2 (by kernel_rfl) (by kernel_rfl) ?_
                simp only [List.take_succ_cons, List.take_zero, List.drop_succ_cons, List.drop_zero]
                repeat (go_big_quiet_step (fail))
                refine wpQuiet_nil ?_
                intro x
                have kQx := x.blk kQ3
                have cQx := kQx.cell
                have fQx := kQx.frozen
                go_wp2_with fail
                have hf5 : Far (fun k => k = s + 1) w3 (x.w.setCell ⟨s + 1, 0, none⟩ (.int .i64 q)) := Far.setCell (T := fun k => k = s + 1) (p := ⟨s + 1, 0, none⟩) (.of_below x.le) (fun _ => rfl) _
                have kQ5 : Blk (x.w.setCell ⟨s + 1, 0, none⟩ (.int .i64 q)) (s + 1) 3 #[.int .i64 q] := kQx.set_ 0 _
                have hd5 := hf5.same hd3 (by omega)
                have hB5 := hB3.trans (hf5.below (by have := hB3.size; omega) (fun k hk => by omega))
                generalize x.w.setCell ⟨s + 1, 0, none⟩ (.int .i64 q) = w5 at *
                have hfp : Far (fun k => k = w1.heap.size + 1) w5 (w5.putObj (w1.heap.size + 1) (.deferred none)) := Far.putObj (T := fun k => k = w1.heap.size + 1) (Far.refl _ _) (fun _ => rfl) _
                have c6 := (hfp.blk kQ5 (by omega)).cell
                exact leave_mark (v := .tuple #[.int .i64 1, .int .i64 q, .int .i64 0]) hd5 (by simp [results, Try.results18, go_sem, c6]) ⟨by rw [hE.out], (by rw [hs]; exact (hB5).trans (hfp.below (by have := (hB5).size; omega) (fun k hk => by omega)))⟩
              · have d3' : decide (q < pg + f) = false := by simpa using d3
                by_cases d4 : pg + n - b ≤ q
                · have d4' : decide (pg + n - b ≤ q) = true := by simpa using d4
                  have hE : Hid (R = (2, q, 0)) := Lib.hid (by rw [hE2.out, hitK, if_neg (by omega), if_neg d3, if_pos d4])
                  clear d1 d2 d3 d4
                  go_wp2_with (go_at_call 34; refine (HIN.out _).mono ?_; rintro e w3 ⟨rfl, hq3⟩; have kQ3 := kQ.call hq3; have kP3 := kP.call hq3; have cQ3 := kQ3.cell; have fQ3 := kQ3.frozen; have cP3 := kP3.cell; have hd3 := (Far.of_below (T := fun _ => False) hq3).same hd id; have hB3 := hB.trans (hq3.mono (by have := hB.size; omega)))
                  have ez := fun z : Ext w3 => (z.blk kQ3).cell
                  go_upto_region 19 with fail
                  refine region_ext_tail 2 (by kernel_rfl) (by kernel_rfl) ?_
                  simp only [List.take_succ_cons, List.take_zero, List.drop_succ_cons, List.drop_zero]
                  repeat (go_big_quiet_step (fail))
                  refine wpQuiet_nil ?_
                  intro x
                  have kQx := x.blk kQ3
                  have cQx := kQx.cell
                  have fQx := kQx.frozen
                  go_wp2_with fail
                  have hf5 : Far (fun k => k = s + 1) w3 (x.w.setCell ⟨s + 1, 0, none⟩ (.int .i64 q)) := Far.setCell (T := fun k => k = s + 1) (p := ⟨s + 1, 0, none⟩) (.of_below x.le) (fun _ => rfl) _
                  have kQ5 : Blk (x.w.setCell ⟨s + 1, 0, none⟩ (.int .i64 q)) (s + 1) 3 #[.int .i64 q] := kQx.set_ 0 _
                  have hd5 := hf5.same hd3 (by omega)
                  have hB5 := hB3.trans (hf5.below (by have := hB3.size; omega) (fun k hk => by omega))
                  generalize x.w.setCell ⟨s + 1, 0, none⟩ (.int .i64 q) = w5 at *
                  have hfp : Far (fun k => k = w1.heap.size + 1) w5 (w5.putObj (w1.heap.size + 1) (.deferred none)) := Far.putObj (T := fun k => k = w1.heap.size + 1) (Far.refl _ _) (fun _ => rfl) _
                  have c6 := (hfp.blk kQ5 (by omega)).cell
                  exact leave_mark (v := .tuple #[.int .i64 2, .int .i64 q, .int .i64 0]) hd5 (by simp [results, Try.results18, go_sem, c6]) ⟨by rw [hE.out], (by rw [hs]; exact (hB5).trans (hfp.below (by have := (hB5).size; omega) (fun k hk => by omega)))⟩
                · have d4' : decide (pg + n - b ≤ q) = false := by simpa using d4
                  have hE : Hid (R = (3, q, 0)) := Lib.hid (by rw [hE2.out, hitK, if_neg (by omega), if_neg d3, if_neg d4])
                  clear d1 d2 d3 d4
                  go_wp2_with (go_at_call 34; refine (HIN.out _).mono ?_; rintro e w3 ⟨rfl, hq3⟩; have kQ3 := kQ.call hq3; have kP3 := kP.call hq3; have cQ3 := kQ3.cell; have fQ3 := kQ3.frozen; have cP3 := kP3.cell; have hd3 := (Far.of_below (T := fun _ => False) hq3).same hd id; have hB3 := hB.trans (hq3.mono (by have := hB.size; omega)))
                  have ez := fun z : Ext w3 => (z.blk kQ3).cell
                  go_upto_region 20 with fail
                  refine region_ext_tail 2 (by kernel_rfl) (by kernel_rfl) ?_
                  simp only [List.take_succ_cons, List.take_zero, List.drop_succ_cons, List.drop_zero]
                  repeat (go_big_quiet_step (fail))
                  refine wpQuiet_nil ?_
                  intro x
                  have kQx := x.blk kQ3
                  have cQx := kQx.cell
                  have fQx := kQx.frozen
                  go_wp2_with fail
                  have hf5 : Far (fun k => k = s + 1) w3 (x.w.setCell ⟨s + 1, 0, none⟩ (.int .i64 q)) := Far.setCell (T := fun k => k = s + 1) (p := ⟨s + 1, 0, none⟩) (.of_below x.le) (fun _ => rfl) _
                  have kQ5 : Blk (x.w.setCell ⟨s + 1, 0, none⟩ (.int .i64 q)) (s + 1) 3 #[.int .i64 q] := kQx.set_ 0 _
                  have hd5 := hf5.same hd3 (by omega)
                  have hB5 := hB3.trans (hf5.below (by have := hB3.size; omega) (fun k hk => by omega))
                  generalize x.w.setCell ⟨s + 1, 0, none⟩ (.int .i64 q) = w5 at *
                  have hfp : Far (fun k => k = w1.heap.size + 1) w5 (w5.putObj (w1.heap.size + 1) (.deferred none)) := Far.putObj (T := fun k => k = w1.heap.size + 1) (Far.refl _ _) (fun _ => rfl) _
                  have c6 := (hfp.blk kQ5 (by omega)).cell
                  exact leave_mark (v := .tuple #[.int .i64 3, .int .i64 q, .int .i64 0]) hd5 (by simp [results, Try.results18, go_sem, c6]) ⟨by rw [hE.out], (by rw [hs]; exact (hB5).trans (hfp.below (by have := (hB5).size; omega) (fun k hk => by omega)))⟩
end Go.Proofs.Ytdepkmpilipolaa
namespace Go.Pol
def badLeast (u f b ev : Int) : Prop := u < 1 ∨ 1024 < u ∨ wrongG f b ev = true
instance badLeastDec (u f b ev : Int) : Decidable (badLeast u f b ev) := by unfold badLeast; infer_instance
def leastP (u f b ev : Int) : Int := u + f + b + (if 0 < ev then (u - 1) / ev else 0)
def leastF (u f b ev : Int) : Int × Int × Int :=
  if badLeast u f b ev then (0, 0, 7) else if 1024 < leastP u f b ev then (0, 0, 7) else (leastP u f b ev, (Lib.bitLen (leastP u f b ev - 1).toNat : Int), 0)
theorem tab_size : Lib.len8tab.size = 256 := by decide +kernel
theorem tab_fin : ∀ i : Fin 256, ((Lib.len8tab[i.val]?).map UInt8.toNat).getD 0 = Lib.bitLen i.val := by decide +kernel
theorem tab_get (i : Nat) (h : i < Lib.len8tab.size) : (Lib.len8tab[i]'h).toNat = Lib.bitLen i := by
  have h2 : i < 256 := by rw [← tab_size]; exact h
  have := tab_fin ⟨i, h2⟩
  simpa [getElem?_pos Lib.len8tab i h] using this
end Go.Pol
namespace Go.Proofs.Ytdepkmpilipolaa
open Go Go.Proofs Go.RowKit Go.Pol

set_option maxHeartbeats 4000000 in
set_option maxRecDepth 100000 in
theorem len64_any (x : Int) (w : World) (h0 : 0 ≤ x) (h1 : x ≤ 4000) :
    Calls Try.prog 51 #[.int .u64 x] w fun e w' => e = .returned (.int .i64 (Lib.bitLen x.toNat : Nat)) ∧ w = w' := by
  have q1 : decide (4294967296 ≤ x) = false := by simp; omega
  have q2 : decide (65536 ≤ x) = false := by simp; omega
  obtain ⟨L, hL⟩ : ∃ L : Int, ((Lib.bitLen x.toNat : Nat) : Int) = L := ⟨_, rfl⟩
  rw [hL]
  have hL' := Lib.hid hL
  clear hL
  by_cases hx : 256 ≤ x
  · have q3 : decide (256 ≤ x) = true := by simpa using hx
    have hsz : (x / 256).toNat < Lib.len8tab.size := by rw [tab_size]; omega
    have hb := Lib.bitLen_le8' (x / 256) (by omega) (by omega)
    have hs := Lib.hid (Lib.bitLen_shift8 x.toNat (by omega) (by omega))
    have ht := Lib.hid (show (x / 256).toNat = x.toNat / 256 by omega)
    have hg := Lib.hid (tab_get (x / 256).toNat hsz)
    go_enter Try.func51, Try.ntmps51
    go_wp2
    go_ret
    simp only [Array.getD, List.size_toArray, List.length_cons, List.length_nil]
    refine ⟨?_, by first | trivial | rfl⟩
    simp
    rw [hg.out, ← hL'.out, hs.out, ← ht.out]
    simp only [wrap64]
    omega
  · have q3 : decide (256 ≤ x) = false := by simpa using hx
    have hsz : x.toNat < Lib.len8tab.size := by rw [tab_size]; omega
    have hb := Lib.bitLen_le8' x (by omega) (by omega)
    have hg := Lib.hid (tab_get x.toNat hsz)
    go_enter Try.func51, Try.ntmps51
    go_wp2
    go_ret
    refine ⟨?_, by first | trivial | rfl⟩
    simp
    rw [hg.out, ← hL'.out]
    simp only [wrap64]
    omega

theorem len_any (x : Int) (w : World) (h0 : 0 ≤ x) (h1 : x ≤ 4000) :
    Calls Try.prog 37 #[.int .u64 x] w fun e w' => e = .returned (.int .i64 (Lib.bitLen x.toNat : Nat)) ∧ w = w' := by
  have HL := Lib.hid (fun W => len64_any x W h0 h1)
  generalize (Lib.bitLen x.toNat : Nat) = L at *
  go_enter Try.func37, Try.ntmps37
  go_wp2_with (go_at_call 51; refine (HL.out _).mono ?_; rintro e w' ⟨rfl, rfl⟩)
  go_ret
  exact ⟨rfl, rfl⟩

set_option maxHeartbeats 400000 in
theorem least_any (u f b ev : Int) (w : World) (R : Int × Int × Int) (hR : leastF u f b ev = R) :
    Calls Try.prog 19 #[.int .i64 u, .agg #[.int .i64 f, .int .i64 b, .int .i64 ev]] w fun e w' => e = .returned (.tuple #[.int .i64 R.1, .int .i64 R.2.1, .int .i64 R.2.2]) ∧ Below w.heap.size w w' := by
  have hb0 := (Below.refl w.heap.size w).alloc (Nat.le_refl _) (.cells #[.int .i64 f, .int .i64 b, .int .i64 ev] 29)
  have k0 := Blk.new w 29 #[.int .i64 f, .int .i64 b, .int .i64 ev]
  have c0 := k0.cell
  have HO := Lib.hid (fun W => outside_any u 1 1024 W)
  have HW := Lib.hid (fun W => gwrong_any f b ev W)
  by_cases hu : 1 ≤ u ∧ u ≤ 1024
  case neg =>
    have hE : Hid (R = (0, 0, 7)) := Lib.hid (by rw [← hR, leastF, if_pos (by unfold badLeast; omega)])
    have hv : (!(decide (1 ≤ u) && decide (u ≤ 1024))) = true := by
      rw [Bool.eq_iff_iff]; simp; omega
    rw [hv] at HO
    clear hR hu hv
    go_enter Try.func19, Try.ntmps19
    go_wp2_with (go_at_call 35; refine (HO.out _).mono ?_; rintro e w' ⟨rfl, rfl⟩)
    refine bodyPost_ret (v := .tuple #[.int .i64 0, .int .i64 0, .int .i64 7]) (by simp [results, Try.results19, go_sem]) rfl ⟨by rw [hE.out], hb0⟩
  have hv : (!(decide (1 ≤ u) && decide (u ≤ 1024))) = false := by
    simp; omega
  rw [hv] at HO
  cases hw : wrongG f b ev with
  | true =>
    rw [hw] at HW
    have hE : Hid (R = (0, 0, 7)) := Lib.hid (by rw [← hR, leastF, if_pos (by unfold badLeast; exact .inr (.inr hw))])
    clear hR hu hv hw
    go_enter Try.func19, Try.ntmps19
    go_wp2_with (first
      | (go_at_call 35; refine (HO.out _).mono ?_; rintro e w' ⟨rfl, rfl⟩)
      | (go_at_call 36; refine (HW.out _).mono ?_; rintro e w1 ⟨rfl, hq⟩))
    refine bodyPost_ret (v := .tuple #[.int .i64 0, .int .i64 0, .int .i64 7]) (by simp [results, Try.results19, go_sem]) rfl ⟨by rw [hE.out], hb0.trans (hq.mono hb0.size)⟩
  | false =>
    rw [hw] at HW
    have hw' := wrongG_iff.1 hw
    have hR2 : Hid (R = if 1024 < leastP u f b ev then (0, 0, 7) else (leastP u f b ev, (Lib.bitLen (leastP u f b ev - 1).toNat : Int), 0)) := Lib.hid (by rw [← hR, leastF, if_neg (by unfold badLeast; rw [hw]; simp; omega)])
    clear hR hv hw
    by_cases h0 : 0 < ev
    · have h0' : decide (0 < ev) = true := by simpa using h0
      have hd : Int.tdiv (u - 1) ev = (u - 1) / ev := Int.tdiv_eq_ediv_of_nonneg (by omega)
      have hdb : 0 ≤ (u - 1) / ev ∧ (u - 1) / ev ≤ 1024 := by
        have h1 : 0 ≤ (u - 1) / ev := Int.ediv_nonneg (by omega) (by omega)
        have h2 := Int.ediv_le_self (a := u - 1) ev (by omega)
        omega
      have hP : Hid (leastP u f b ev = u + f + b + (u - 1) / ev) := Lib.hid (by rw [leastP, if_pos h0])
      generalize (u - 1) / ev = dv at *
      rw [hP.out] at hR2
      clear hP
      have hlb : 1 ≤ u + f + b + dv ∧ u + f + b + dv ≤ 3000 := by omega
      have HL := Lib.hid (fun W => len_any (u + f + b + dv - 1) W (by omega) (by omega))
      by_cases hbig : 1024 < u + f + b + dv
      · have hbig' : decide (1024 < u + f + b + dv) = true := by simpa using hbig
        have hE : Hid (R = (0, 0, 7)) := Lib.hid (by rw [hR2.out, if_pos hbig])
        clear hR2
        go_enter Try.func19, Try.ntmps19
        go_wp2_with (first
          | (go_at_call 35; refine (HO.out _).mono ?_; rintro e w' ⟨rfl, rfl⟩)
          | (go_at_call 36; refine (HW.out _).mono ?_; rintro e w1 ⟨rfl, hq⟩; have k1 := k0.call hq; have c1 := k1.cell)
          | (go_at_call 37; refine (HL.out _).mono ?_; rintro e w' ⟨rfl, rfl⟩))
        refine bodyPost_ret (v := .tuple #[.int .i64 0, .int .i64 0, .int .i64 7]) (by simp [results, Try.results19, go_sem]) rfl ⟨by rw [hE.out], hb0.trans (hq.mono hb0.size)⟩
      · have hbig' : decide (1024 < u + f + b + dv) = false := by simpa using hbig
        have hE : Hid (R = (u + f + b + dv, (Lib.bitLen (u + f + b + dv - 1).toNat : Int), 0)) := Lib.hid (by rw [hR2.out, if_neg hbig])
        clear hR2
        generalize (Lib.bitLen (u + f + b + dv - 1).toNat : Nat) = BL at *
        go_enter Try.func19, Try.ntmps19
        go_wp2_with (first
          | (go_at_call 35; refine (HO.out _).mono ?_; rintro e w' ⟨rfl, rfl⟩)
          | (go_at_call 36; refine (HW.out _).mono ?_; rintro e w1 ⟨rfl, hq⟩; have k1 := k0.call hq; have c1 := k1.cell)
          | (go_at_call 37; refine (HL.out _).mono ?_; rintro e w' ⟨rfl, rfl⟩))
        refine bodyPost_ret (v := .tuple #[.int .i64 (u + f + b + dv), .int .i64 (BL : Int), .int .i64 0]) (by simp [results, Try.results19, go_sem]) rfl ⟨by rw [hE.out], hb0.trans (hq.mono hb0.size)⟩
    · have h0' : decide (0 < ev) = false := by simpa using h0
      have hP : Hid (leastP u f b ev = u + f + b) := Lib.hid (by rw [leastP, if_neg h0]; omega)
      rw [hP.out] at hR2
      clear hP
      have hlb : 1 ≤ u + f + b ∧ u + f + b ≤ 3000 := by omega
      have HL := Lib.hid (fun W => len_any (u + f + b - 1) W (by omega) (by omega))
      by_cases hbig : 1024 < u + f + b
      · have hbig' : decide (1024 < u + f + b) = true := by simpa using hbig
        have hE : Hid (R = (0, 0, 7)) := Lib.hid (by rw [hR2.out, if_pos hbig])
        clear hR2
        go_enter Try.func19, Try.ntmps19
        go_wp2_with (first
          | (go_at_call 35; refine (HO.out _).mono ?_; rintro e w' ⟨rfl, rfl⟩)
          | (go_at_call 36; refine (HW.out _).mono ?_; rintro e w1 ⟨rfl, hq⟩; have k1 := k0.call hq; have c1 := k1.cell)
          | (go_at_call 37; refine (HL.out _).mono ?_; rintro e w' ⟨rfl, rfl⟩))
        refine bodyPost_ret (v := .tuple #[.int .i64 0, .int .i64 0, .int .i64 7]) (by simp [results, Try.results19, go_sem]) rfl ⟨by rw [hE.out], hb0.trans (hq.mono hb0.size)⟩
      · have hbig' : decide (1024 < u + f + b) = false := by simpa using hbig
        have hE : Hid (R = (u + f + b, (Lib.bitLen (u + f + b - 1).toNat : Int), 0)) := Lib.hid (by rw [hR2.out, if_neg hbig])
        clear hR2
        generalize (Lib.bitLen (u + f + b - 1).toNat : Nat) = BL at *
        go_enter Try.func19, Try.ntmps19
        go_wp2_with (first
          | (go_at_call 35; refine (HO.out _).mono ?_; rintro e w' ⟨rfl, rfl⟩)
          | (go_at_call 36; refine (HW.out _).mono ?_; rintro e w1 ⟨rfl, hq⟩; have k1 := k0.call hq; have c1 := k1.cell)
          | (go_at_call 37; refine (HL.out _).mono ?_; rintro e w' ⟨rfl, rfl⟩))
        refine bodyPost_ret (v := .tuple #[.int .i64 (u + f + b), .int .i64 (BL : Int), .int .i64 0]) (by simp [results, Try.results19, go_sem]) rfl ⟨by rw [hE.out], hb0.trans (hq.mono hb0.size)⟩
end Go.Proofs.Ytdepkmpilipolaa
namespace Go.Pol
open Go Go.RowKit
theorem ru_blkL {w : World} {B : Nat} {t : TypeId} {us : List Sp} {cs : Array Value} (h : Blk w B t cs) (hc : cs = (spCells us).toArray) : RU w w.heap.size (some ⟨B, 0, none⟩) us := fun k hk => by
  subst hc
  obtain ⟨h1, h2⟩ := spCells_at us k hk
  refine ⟨B, 0, rfl, h.lt, ?_, ?_⟩
  · rw [Nat.zero_add, h.cell]; simpa using h1
  · rw [Nat.zero_add, h.cell]; simpa using h2
theorem RU.on {w w' : World} {A : Option Addr} {us : List Sp} (h : RU w w.heap.size A us) (hb : Below w.heap.size w w') : RU w' w'.heap.size A us := (h.below hb).more hb.size
end Go.Pol
namespace Go.Proofs.Ytdepkmpilipolaa
open Go Go.Proofs Go.RowKit Go.Pol
theorem example_any (w : World) : Calls Try.prog 14 #[] w fun e w' => e = .returned (.agg #[.int .i64 8, .int .i64 12, .int .i64 1, .int .i64 2, .int .i64 3]) ∧ Below w.heap.size w w' := by
  have k1 := Blk.new w 31 (planC 8 12 1 2 3)
  have hb := (Below.refl w.heap.size w).alloc (Nat.le_refl _) (.cells (planC 8 12 1 2 3) 31)
  go_enter Try.func14, Try.ntmps14
  go_wp2
  exact bodyPost_ret (v := planV 8 12 1 2 3) (by simp [results, Try.results14, go_sem]) rfl ⟨rfl, hb⟩
theorem ex_chk : chkG 8 12 1 2 3 = 0 := by decide +kernel
theorem ex_runs : runsL 8 12 1 2 3 = [(9, 3), (13, 3), (17, 1)] := by decide +kernel
theorem ex_guards : guardsF 8 12 1 2 3 = [(8, 1), (12, 1), (16, 1), (18, 2)] := by decide +kernel
theorem ex_nth : (if chkG 8 12 1 2 3 = 0 then nthF (runsL 8 12 1 2 3) 3 else (0, chkG 8 12 1 2 3)) = (13, 0) := by decide +kernel
theorem ex_idx : (if chkG 8 12 1 2 3 = 0 then idxF 17 0 (runsL 8 12 1 2 3) else (0, chkG 8 12 1 2 3)) = (6, 0) := by decide +kernel
theorem ex_hit : hitF 8 12 1 2 3 576 193 = (3, 12, 0) := by decide +kernel
theorem ex_least : leastF 7 1 2 3 = (12, 4, 0) := by decide +kernel
def GR (w : World) (us : List Sp) (e : Ending) (w' : World) : Prop := ∃ (A : Option Addr) (cap : Nat), e = .returned (.tuple #[.slice A us.length cap, .int .i64 0]) ∧ RU w' w'.heap.size A us ∧ Below w.heap.size w w'
theorem exg_any (W : World) : Calls Try.prog 9 #[planV 8 12 1 2 3] W (GR W [(8, 1), (12, 1), (16, 1), (18, 2)]) := by
  have h := guards_any 8 12 1 2 3 W
  rw [ex_chk, ex_guards] at h
  refine h.mono ?_
  rintro e w' ⟨A, cap, rfl, hr, _, _, _, hb⟩
  exact ⟨A, cap, rfl, hr, hb⟩
theorem exu_any (W : World) : Calls Try.prog 15 #[planV 8 12 1 2 3] W (GR W [(9, 3), (13, 3), (17, 1)]) := by
  have h := usable_any 8 12 1 2 3 W
  rw [ex_chk, if_pos rfl, ex_runs] at h
  refine h.mono ?_
  rintro e w' ⟨A, cap, rfl, hr, _, _, _, hb⟩
  exact ⟨A, cap, rfl, hr, hb⟩
theorem sameT_any (A B : Option Addr) (n cap cap' : Nat) (xs ys : List Sp) (w : World) (hn : xs.length = n) (hm : n ≤ maxLen) (he : ys = xs) (hr : RU w w.heap.size A xs) (hs : RU w w.heap.size B ys) :
    Calls Try.prog 11 #[.slice A n cap, .slice B n cap'] w fun e w' => e = .returned (.bool true) ∧ Below w.heap.size w w' := by
  have h := same_any A B n n cap cap' xs ys w hn hm (by rw [he]; exact hn) hm hr hs
  rw [decide_eq_true he.symm] at h
  exact h
set_option maxRecDepth 100000 in
theorem field_ex (W : World) : (Instr.field 31 (.agg #[.int .i64 8, .int .i64 12, .int .i64 1, .int .i64 2, .int .i64 3]) 2).run Try.prog W = .ok (.agg #[.int .i64 1, .int .i64 2, .int .i64 3]) W := by
  have u := Try.underlying31
  have a3 := Try.isAgg29
  have z3 := Try.sizeOf29
  unfold Instr.field
  simp only [Sem.run_bind, run_underlying u, Result.andThen_ok]
  simp [part, asAgg, Sem.run_bind, a3, z3, Result.andThen]
set_option maxRecDepth 100000 in
set_option maxHeartbeats 1600000 in
theorem awake_any (w : World) : Calls Try.prog 5 #[] w fun e w' => e = .returned (.bool true) ∧ Below w.heap.size w w' := by
  go_enter Try.func5, Try.ntmps5
  go_wp2_with fail
  refine (example_any _).mono ?_
  rintro e w1 ⟨rfl, hb1⟩
  go_wp2_with fail
  refine (exg_any _).mono ?_
  rintro e w2 ⟨A2, c2, rfl, hr2, hb2⟩
  have B2 := hb1.trans (hb2.mono hb1.size)
  clear hb1 hb2
  go_wp2_with fail
  refine (example_any _).mono ?_
  rintro e w3 ⟨rfl, hb3⟩
  have B3 := B2.trans (hb3.mono B2.size)
  have hr2b := hr2.on hb3
  clear hb3 B2 hr2
  go_wp2_with fail
  refine (exu_any _).mono ?_
  rintro e w4 ⟨A4, c4, rfl, hr4, hb4⟩
  have B4 := B3.trans (hb4.mono B3.size)
  have hr2c := hr2b.on hb4
  clear hb4 B3 hr2b
  go_wp2_with fail
  refine (example_any _).mono ?_
  rintro e w5 ⟨rfl, hb5⟩
  go_wp2_with fail
  refine (nth_any 8 12 1 2 3 3 _ (by omega) (by omega) _ ex_nth).mono ?_
  rintro e w6 ⟨rfl, hb6⟩
  have hb56 := hb5.trans (hb6.mono hb5.size)
  have B6 := B4.trans (hb56.mono B4.size)
  have hr2d := hr2c.on hb56
  have hr4d := hr4.on hb56
  clear hb5 hb6 hb56 B4 hr2c hr4
  go_wp2_with fail
  refine (example_any _).mono ?_
  rintro e w7 ⟨rfl, hb7⟩
  go_wp2_with fail
  refine (index_any 8 12 1 2 3 17 _ _ ex_idx).mono ?_
  rintro e w8 ⟨rfl, hb8⟩
  have hb78 := hb7.trans (hb8.mono hb7.size)
  have B8 := B6.trans (hb78.mono B6.size)
  have hr2e := hr2d.on hb78
  have hr4e := hr4d.on hb78
  clear hb7 hb8 hb78 B6 hr2d hr4d
  go_wp2_with fail
  refine (example_any _).mono ?_
  rintro e w9 ⟨rfl, hb9⟩
  go_wp2_with fail
  refine (hit_any 8 12 1 2 3 576 193 _ _ ex_hit).mono ?_
  rintro e w10 ⟨rfl, hb10⟩
  have hb910 := hb9.trans (hb10.mono hb9.size)
  have B10 := B8.trans (hb910.mono B8.size)
  have hr2f := hr2e.on hb910
  have hr4f := hr4e.on hb910
  clear hb9 hb10 hb910 B8 hr2e hr4e
  have hfd := field_ex
  go_wp2_with fail
  refine (example_any _).mono ?_
  rintro e w11 ⟨rfl, hb11⟩
  go_wp2_with fail
  refine (least_any 7 1 2 3 _ _ ex_least).mono ?_
  rintro e w12 ⟨rfl, hb12⟩
  have hb112 := hb11.trans (hb12.mono hb11.size)
  have B12 := B10.trans (hb112.mono B10.size)
  have hr2g := hr2f.on hb112
  have hr4g := hr4f.on hb112
  clear hb11 hb12 hb112 B10 hr2f hr4f
  have hbA := (Below.refl w12.heap.size w12).alloc (Nat.le_refl _) (.cells #[.int .i64 8, .int .i64 1, .int .i64 12, .int .i64 1, .int .i64 16, .int .i64 1, .int .i64 18, .int .i64 2] 56)
  have kA := Blk.new w12 56 #[.int .i64 8, .int .i64 1, .int .i64 12, .int .i64 1, .int .i64 16, .int .i64 1, .int .i64 18, .int .i64 2]
  have HSA := Lib.hid (sameT_any A2 (some ⟨w12.heap.size, 0, none⟩) 4 c2 4 _ _ _ rfl (by unfold maxLen; omega) rfl (hr2g.on hbA) (ru_blkL kA rfl))
  have hr4h := hr4g.on hbA
  have BA := B12.trans (hbA.mono B12.size)
  clear hr2g hr4g kA hbA
  go_wp2_with fail
  refine (HSA.out).mono ?_
  rintro e w13 ⟨rfl, hb13⟩
  have B13 := BA.trans (hb13.mono BA.size)
  have hr4i := hr4h.on hb13
  have hbB := (Below.refl w13.heap.size w13).alloc (Nat.le_refl _) (.cells #[.int .i64 9, .int .i64 3, .int .i64 13, .int .i64 3, .int .i64 17, .int .i64 1] 56)
  have kB := Blk.new w13 56 #[.int .i64 9, .int .i64 3, .int .i64 13, .int .i64 3, .int .i64 17, .int .i64 1]
  have HSB := Lib.hid (sameT_any A4 (some ⟨w13.heap.size, 0, none⟩) 3 c4 3 _ _ _ rfl (by unfold maxLen; omega) rfl (hr4i.on hbB) (ru_blkL kB rfl))
  have BB := B13.trans (hbB.mono B13.size)
  clear hr4h hr4i kB hbB BA B13 hb13
  go_wp2_with fail
  refine (HSB.out).mono ?_
  rintro e w14 ⟨rfl, hb14⟩
  go_wp2_with fail
  go_ret
  exact ⟨rfl, BB.trans (hb14.mono BB.size)⟩
end Go.Proofs.Ytdepkmpilipolaa
namespace Go.Proofs.Ytdepkmpilipolaa
open Go Go.Proofs Go.RowKit Go.Pol

theorem mem_perm {us vs : List Sp} (h : us.Perm vs) (q : Int) : mem q us = mem q vs := by
  rw [Bool.eq_iff_iff]; simp only [mem, List.any_eq_true]
  exact ⟨fun ⟨x, hx, e⟩ => ⟨x, h.mem_iff.1 hx, e⟩, fun ⟨x, hx, e⟩ => ⟨x, h.mem_iff.2 hx, e⟩⟩
end Go.Proofs.Ytdepkmpilipolaa
namespace Go.Pol
open Go Go.RowKit
theorem MarksAre.set {cs : Array Value} {f g : Nat → Bool} (h : MarksAre cs f) (k : Nat) (hk : k < 1024) (b : Bool) (hb : g k = b) (hg : ∀ j, j ≠ k → g j = f j) : MarksAre (cs.setIfInBounds k (.bool b)) g :=
  ⟨by simp [h.size], fun j hj => by
    by_cases hjk : j = k
    · subst hjk
      rw [Array.getElem?_setIfInBounds_self_of_lt (by rw [h.size]; exact hk), hb]
    · rw [Array.getElem?_setIfInBounds_ne (Ne.symm hjk), hg j hjk]; exact h.at_ j hj⟩
theorem rangeAt_blk {w : World} {g : Nat} {t : TypeId} {cs : Array Value} (h : Blk w g t cs) : w.rangeAt g 0 cs.toList := fun j v hj => by
  rw [Nat.zero_add, h.cell]; simpa using hj
end Go.Pol
namespace Go.Proofs.Ytdepkmpilipolaa
open Go Go.Proofs Go.RowKit Go.Pol
theorem zeros_are : MarksAre Try.zeroCells46 (fun _ => false) := by
  have e : Try.zeroCells46 = Array.replicate 1024 (.bool false) := by kernel_rfl
  rw [e]
  exact ⟨by simp, fun k hk => by simp [hk]⟩

end Go.Proofs.Ytdepkmpilipolaa
namespace Go.Proofs.Ytdepkmpilipolaa
open Go Go.Proofs Go.RowKit Go.Pol
section
variable {pg n f b ev : Int}
theorem plan_vld (hp : PlanOk pg n f b ev) : vld (pg, n) = true := vld_iff.2 ⟨hp.pg0, hp.pg1, hp.n0, hp.n1⟩
theorem guards_set (hp : PlanOk pg n f b ev) : Go.Pol.Can (guardsF pg n f b ev) ∧ ∀ q, mem q (guardsF pg n f b ev) = true ↔ (pg ≤ q ∧ q < pg + n) ∧ mem q (runsL pg n f b ev) = false := by
  unfold guardsF
  rw [if_pos (chkG_zero.2 hp)]
  exact (runsL_can hp).gaps (plan_vld hp)
end
end Go.Proofs.Ytdepkmpilipolaa
namespace Go.Pol
open Go Go.RowKit
theorem MarksAre.congr {cs : Array Value} {f g : Nat → Bool} (h : MarksAre cs f) (hg : ∀ k, k < 1024 → f k = g k) : MarksAre cs g :=
  ⟨h.size, fun k hk => by rw [← hg k hk]; exact h.at_ k hk⟩
theorem MarksAre.one {cs : Array Value} {f : Nat → Bool} (h : MarksAre cs f) : cs.all (·.oneCell') = true := by
  rw [Array.all_eq_true]
  intro i hi
  have := h.at_ i (by rw [← h.size]; exact hi)
  rw [Array.getElem?_eq_getElem hi] at this
  cases this' : cs[i] <;> simp_all [Value.oneCell']
theorem below_setCells {s : Nat} {w : World} (b : Nat) (hb : s ≤ b) : ∀ (vs : List Value) (o : Nat) (W : World), Below s w W → Below s w (W.setCells b o vs)
  | [], _, _, h => h
  | v :: vs, o, _, h => below_setCells b hb vs (o + 1) _ (h.setCell (p := ⟨b, o, none⟩) hb v)
theorem results_cell {P : Program} {fn : Func} {a : Tmp} {t : TypeId} {tmps : Array Value} {w : World} {v : Value} {p : Addr} (h : fn.results = #[.cell a t]) (ha : tmps.getD a undef = .pointer (some p)) (hl : (loadVar t p).run P w = .ok v w) :
    (results fn tmps).run P w = .ok v w := by
  have ha' : tmps[a]?.getD undef = .pointer (some p) := by rw [← ha, Array.getD_eq_getD_getElem?]
  simp [results, h, ha', asAddr, hl]
theorem blk_there {w : World} {g : Nat} {t : TypeId} {cs : Array Value} (h : Blk w g t cs) : w.there g 0 cs.size := fun j hj => by
  rw [Nat.zero_add]
  exact ⟨by rw [h.cell]; simp [hj], h.frozen j⟩
end Go.Pol
namespace Go.Proofs.Ytdepkmpilipolaa
open Go Go.Proofs Go.RowKit Go.Pol Go.Shelf

theorem marks_step (us : List Sp) (k : Nat) (hk : k < us.length) (p : Int) : mem p (us.take (k + 1)) = (mem p (us.take k) || decide ((us.getD k (0,0)).1 ≤ p ∧ p < (us.getD k (0,0)).1 + (us.getD k (0,0)).2)) := by
  rw [take_snoc us k hk, mem_append, mem_cons, mem_nil, Bool.or_false]
  congr 1
  rw [Bool.eq_iff_iff]; simp

set_option maxRecDepth 100000 in
set_option maxHeartbeats 1600000 in
theorem marks_any (A : Option Addr) (n cap : Nat) (us : List Sp) (w : World) (hn : us.length = n) (hm : n ≤ 1000000) (hr : RU w w.heap.size A us) (hv : ∀ x ∈ us, vld x = true) :
    Calls Try.prog 12 #[.slice A n cap] w fun e w' => ∃ cs, e = .returned (.agg cs) ∧ MarksAre cs (fun k => mem (k : Int) us) ∧ Below w.heap.size w w' := by
  obtain ⟨s, hs⟩ : ∃ s, w.heap.size = s := ⟨_, rfl⟩
  obtain ⟨W0, hW0⟩ : ∃ W0, (w.alloc (.cells Try.zeroCells46 46)).alloc (.cells Try.zeroCells46 46) = W0 := ⟨_, rfl⟩
  have hb0 : Below s w W0 := by rw [← hW0, ← hs]; exact ((Below.refl w.heap.size w).alloc (Nat.le_refl _) _).alloc (by simp) _
  have kR : Blk W0 s 46 Try.zeroCells46 := by rw [← hW0, ← hs]; exact (Blk.new _ _ _).alloc _
  have kM : Blk W0 (s + 1) 46 Try.zeroCells46 := by
    have := Blk.new (w.alloc (.cells Try.zeroCells46 46)) 46 Try.zeroCells46
    rw [World.size_alloc, hs, hW0] at this; exact this
  have hZ := zeros_are
  have hW1 := Lib.hid hW0
  have hn' := Lib.hid hn
  have hv' := Lib.hid hv
  rw [hs] at hr
  clear hW0 hn hv
  go_enter Try.func12, Try.ntmps12
  go_upto_region 2 with fail
  try simp only [Nat.add_assoc, Nat.reduceAdd]
  try rw [hs]
  rw [hW1.out]
  generalize Try.zeroCells46 = Z at *
  clear hW1
  go_wp2_with fail
  go_loopw [4] (fun i wr => ∃ (k : Nat) (cs : Array Value), k ≤ n ∧ i = .int .i64 k ∧ Blk wr s 46 Z ∧ Blk wr (s + 1) 46 cs ∧ MarksAre cs (fun p => mem (p : Int) (us.take k)) ∧ Below s w wr) (fun i _ => n - (intOf i).toNat)
  case atStart => exact ⟨0, Z, by omega, rfl, kR, kM, hZ.congr (fun k _ => by simp [mem_nil]), hb0⟩
  case round =>
    obtain ⟨k, cs, hk, rfl, kR, kM, hM, hB⟩ := hrel
    by_cases hlt : k < n
    · have hlt' : decide ((k : Int) < (n : Int)) = true := by simpa using hlt
      obtain ⟨b, o, rfl, hbl, hcw, hdw⟩ := RU.at_' hr (k := k) (by have := hn'.out; omega)
      have hvx := vld_iff.1 (hv'.out (us.getD k (0,0)) (by rw [List.getD_eq_getElem?_getD, List.getElem?_eq_getElem (by have := hn'.out; omega)]; simp))
      have hst := Lib.hid (marks_step us k (by have := hn'.out; omega))
      generalize us.getD k (0,0) = x at *
      obtain ⟨xa, xb⟩ := x
      dsimp only at hcw hdw hvx hst
      have hc := (hB.cell (p := ⟨b, o + k * 2, none⟩) hbl).trans hcw
      go_wp2_with fail
      go_loopw [5] (fun p wr => ∃ (j : Nat) (cs : Array Value), (j : Int) ≤ xb ∧ p = .int .i64 (xa + j) ∧ Blk wr s 46 Z ∧ Blk wr (s + 1) 46 cs ∧ MarksAre cs (fun q => mem (q : Int) (us.take k) || decide (xa ≤ (q : Int) ∧ (q : Int) < xa + j)) ∧ Below s w wr) (fun p _ => (xa + xb - intOf p).toNat)
      case atStart => exact ⟨0, cs, by omega, by simp, kR, kM, hM.congr (fun p _ => by rw [decide_eq_false (by omega), Bool.or_false]), hB⟩
      case round =>
        clear hM kM kR hc hB
        obtain ⟨j, cs, hj, rfl, kR, kM, hM, hB⟩ := hrel
        have hBs := hB.size
        have hc := (hB.cell (p := ⟨b, o + k * 2, none⟩) hbl).trans hcw
        have hd := (hB.cell (p := ⟨b, o + k * 2 + 1, none⟩) hbl).trans hdw
        have e1 := fun z : Ext wr => z.cell hc
        have e2 := fun z : Ext wr => z.cell hd
        by_cases hjx : (j : Int) < xb
        · have hj' : decide (xa + (j : Int) < xa + xb) = true := by simp; omega
          have hmm := Lib.hid (hM.set (g := fun q => mem (q : Int) (us.take k) || decide (xa ≤ (q : Int) ∧ (q : Int) < xa + (j + 1 : Nat))) (xa + j).toNat (by omega) true (by
            have e : (((xa + (j : Int)).toNat : Nat) : Int) = xa + j := by omega
            simp only [e]
            rw [decide_eq_true (by omega), Bool.or_true]) (fun q hq => by
            congr 1
            exact decide_eq_decide.2 (by omega)))
          have hold := hM.at_ (xa + j).toNat (by omega)
          generalize (mem (((xa + (j : Int)).toNat : Nat) : Int) (us.take k) || decide (xa ≤ (((xa + (j : Int)).toNat : Nat) : Int) ∧ (((xa + (j : Int)).toNat : Nat) : Int) < xa + j)) = B0 at hold
          go_upto_region 6 with fail
          refine region_ext (by kernel_rfl) (by kernel_rfl) ?_
          repeat (go_big_quiet_step (fail))
          refine wpQuiet_nil ?_
          rintro w2 ⟨⟨_, hw2⟩, rfl⟩
          have kM2 := kM.call hw2
          have kR2 := kR.call hw2
          have hB2 := hB.trans (hw2.mono (by omega))
          have fM2 := kM2.frozen
          have cM2 : w2.cell? ⟨s + 1, (xa + (j : Int)).toNat, none⟩ = some (.bool B0) := (kM2.cell _).trans hold
          have hf4 : Far (fun k => k = s + 1) w2 (w2.setCell ⟨s + 1, (xa + (j : Int)).toNat, none⟩ (.bool true)) := Far.setCell (T := fun k => k = s + 1) (p := ⟨s + 1, (xa + (j : Int)).toNat, none⟩) (Far.refl _ _) (fun _ => rfl) _
          go_wp2_with fail
          go_roundw
          case rel => exact ⟨j + 1, _, by omega, by go_num, hf4.blk kR2 (by omega), kM2.set_ _ _, hmm.out, hB2.trans (hf4.below (by have := hB2.size; omega) (fun k hk => by omega))⟩
          case measure => simp [intOf]; omega
        · have hj' : decide (xa + (j : Int) < xa + xb) = false := by simp; omega
          have hjx2 : (j : Int) = xb := by omega
          have hM2 := hM.congr (g := fun p => mem (p : Int) (us.take (k + 1))) (fun p _ => by rw [hst.out, hjx2])
          go_upto_region 6 with fail
          refine region_ext (by kernel_rfl) (by kernel_rfl) ?_
          repeat (go_big_quiet_step (fail))
          refine wpQuiet_nil ?_
          rintro w2 ⟨⟨_, hw2⟩, rfl⟩
          have kM2 := kM.call hw2
          have kR2 := kR.call hw2
          have hB2 := hB.trans (hw2.mono (by omega))
          go_wp2_with fail
          go_roundw
          case rel => exact ⟨k + 1, cs, by omega, by go_num, kR2, kM2, hM2, hB2⟩
          case measure => simp [intOf]; omega
    · have hlt' : decide ((k : Int) < (n : Int)) = false := by simp; omega
      have hkn : k = us.length := by have := hn'.out; omega
      have hMe := hM.congr (g := fun p => mem (p : Int) us) (fun p _ => by rw [hkn, List.take_length])
      have hsz := hM.size
      have hth := blk_there kR
      have hzs := hZ.size
      have hone := hM.one
      go_wp2_with (first
        | (refine wpList_load_mid rfl 46 (.tmp 3) rfl (s + 1) 0 rfl cs.toList _ (rangeAt_blk kM) Try.underlying46 rfl (by rw [Array.length_toList, hsz]; kernel_rfl) ?_; rw [Array.toArray_toList])
        | (refine wpList_store_mid rfl 46 (.tmp 2) (.tmp 34) rfl s 0 cs rfl rfl (by rw [hsz, ← hzs]; exact hth) (by rw [hsz]; kernel_rfl) hone ?_))
      have hrg := World.rangeAt_setCells_same wr s 0 cs.toList (by rw [Array.length_toList, hsz, ← hzs]; exact hth)
      have hB9 := below_setCells s (Nat.le_refl _) cs.toList 0 wr hB
      generalize wr.setCells s 0 cs.toList = w9 at *
      have hld := run_loadVar_mid (P := Try.prog) w9 s 0 46 cs.toList _ hrg Try.underlying46 rfl (by rw [Array.length_toList, hsz]; kernel_rfl)
      rw [Array.toArray_toList] at hld
      exact bodyPost_ret (v := .agg cs) (results_cell rfl rfl hld) rfl ⟨cs, rfl, hMe, by rw [hs]; exact hB9⟩

end Go.Proofs.Ytdepkmpilipolaa
namespace Go.Pol
open Go Go.RowKit

/-- the contract of a function value that is ranged over, and that makes blocks of its own (X): it goes through just 'xs' -/
def SeqY {α : Type} (P : Program) (g : Nat) (lb : Array Value) (encs : α → Array Value) (T K : Nat → Prop) (xs : List α) (w : World) : Prop :=
  ∀ (n l : Nat) (J Jx : (Nat → Prop) → List α → World → Prop) (W : World), Far (fun k => ¬ K k) w W →
    (∀ X pre A B, J X pre A → Far (fun k => T k ∨ X k) A B → J X pre B) → (∀ X pre A B, Jx X pre A → Far (fun k => T k ∨ X k) A B → Jx X pre B) →
    (∀ X X' pre A, J X pre A → (∀ k, X' k → X k ∨ A.heap.size ≤ k) → J X' pre A) →
    (∀ m X pre x W1, J X pre W1 → (∀ k, X k → k < W1.heap.size) → pre ++ [x] <+: xs → YieldAt Fence.wide m P l (encs x) W1 fun e W' =>
      (e = .returned (.bool true) ∧ J X (pre ++ [x]) W' ∧ Far (fun k => ¬ (K k ∨ X k)) W1 W') ∨ (e = .returned (.bool false) ∧ Jx X (pre ++ [x]) W' ∧ Far (fun k => ¬ (K k ∨ X k)) W1 W')) →
    J (fun _ => False) [] W →
    CallsIn Fence.wide n P g (#[.func (.yield l) #[] #[]] ++ lb) W fun e W' => (∃ v, e = .returned v) ∧ ((∃ X, J X xs W') ∨ ∃ X pre, pre <+: xs ∧ Jx X pre W')

theorem SeqY.later {α : Type} {P : Program} {g : Nat} {lb : Array Value} {encs : α → Array Value} {T K : Nat → Prop} {xs : List α} {w w' : World}
    (h : SeqY P g lb encs T K xs w) (hw : Far (fun k => ¬ K k) w w') : SeqY P g lb encs T K xs w' :=
  fun n l J Jx W hW => h n l J Jx W (hw.trans hW)
end Go.Pol
namespace Go.Pol
open Go
/-- page q: committed, live; group q: number, committed, live, huge -/
structure LookIs (cs : Array Value) (cm lv : Nat → Bool) (nm gc gl : Nat → Int) (gh : Nat → Bool) : Prop where
  size : cs.size = 2304
  cm : ∀ q, q < 1024 → cs[q * 2]? = some (.bool (cm q))
  lv : ∀ q, q < 1024 → cs[q * 2 + 1]? = some (.bool (lv q))
  nm : ∀ q, q < 64 → cs[2048 + q * 4]? = some (.int .i64 (nm q))
  gc : ∀ q, q < 64 → cs[2048 + q * 4 + 1]? = some (.int .i64 (gc q))
  gl : ∀ q, q < 64 → cs[2048 + q * 4 + 2]? = some (.int .i64 (gl q))
  gh : ∀ q, q < 64 → cs[2048 + q * 4 + 3]? = some (.bool (gh q))
end Go.Pol
namespace Go.Pol
open Go Go.RowKit
theorem RI.on {w w' : World} {A : Option Addr} {us : List Int} (h : RI w w.heap.size A us) (hb : Below w.heap.size w w')   : RI w' w'.heap.size A us := (h.below hb).more hb.size
end Go.Pol
namespace Go.Pol
open Go Go.RowKit
/-- a group: number, committed, live, huge -/
abbrev Gp := Int × Int × Int × Bool
def gV (g : Gp) : Value := .agg #[.int .i64 g.1, .int .i64 g.2.1, .int .i64 g.2.2.1, .bool g.2.2.2]
theorem ext_get {cs : Array Value} {s e j : Nat} (h : j < min e cs.size - s) : (cs.extract s e)[j]? = cs[s + j]? := by
  rw [Array.getElem?_extract_of_lt h]; exact (Array.getElem?_eq_getElem _).symm
theorem LookIs.rangeAt {w : World} {b : Nat} {t : TypeId} {cs : Array Value} {cm lv : Nat → Bool} {nm gc gl : Nat → Int} {gh : Nat → Bool} (h : LookIs cs cm lv nm gc gl gh) (hb : Blk w b t cs) :
    w.rangeAt b 2048 (cs.extract 2048 2304).toList := fun j v hj => by
  rw [Array.getElem?_toList] at hj
  have hlt : j < 256 := by
    have := (Array.getElem?_eq_some_iff.1 hj).1
    simp [h.size] at this
    exact this
  rw [hb.cell, ← hj, ext_get (by rw [h.size]; omega)]
end Go.Pol
namespace Go.Pol
open Go Go.RowKit
def hugeP (g : Gp) : Bool := g.2.2.2
end Go.Pol
namespace Go.Proofs.Ytdepkmpilipolaa
open Go Go.Proofs Go.RowKit Go.Pol Go.Shelf
attribute [local go_sem] Oper.semAt_some Go.Pol.wide_fn Go.Pol.wide_depth Go.Pol.wide_fn' Go.Pol.wide_depth'

/-- the value of a state, and what its slices hold -/
structure StIs (w : World) (S : Value) (C L : List Sp) (H : List Int) : Prop where
  ex : ∃ (A1 A2 A3 : Option Addr) (n1 c1 n2 c2 n3 c3 : Nat), S = .agg #[.slice A1 n1 c1, .slice A2 n2 c2, .slice A3 n3 c3] ∧ C.length = n1 ∧ n1 ≤ maxLen ∧ RU w w.heap.size A1 C ∧
    L.length = n2 ∧ n2 ≤ maxLen ∧ RU w w.heap.size A2 L ∧ H.length = n3 ∧ n3 ≤ maxLen ∧ RI w w.heap.size A3 H
theorem StIs.on {w w' : World} {S : Value} {C L : List Sp} {H : List Int} (h : StIs w S C L H) (hb : Below w.heap.size w w') : StIs w' S C L H := by
  obtain ⟨A1, A2, A3, n1, c1, n2, c2, n3, c3, h0, h1, h2, h3, h4, h5, h6, h7, h8, h9⟩ := h.ex
  exact ⟨A1, A2, A3, n1, c1, n2, c2, n3, c3, h0, h1, h2, h3.on hb, h4, h5, h6.on hb, h7, h8, RI.on h9 hb⟩
/-- what a list of numbers and an error look like that are handed back -/
def IntsE (r : List Int × Int) (w : World) (e : Ending) (w' : World) : Prop := ∃ (A : Option Addr) (cap : Nat), e = .returned (.tuple #[.slice A r.1.length cap, .int .i64 r.2]) ∧ RI w' w'.heap.size A r.1 ∧ Below w.heap.size w w'
/-- such a list in memory of its own -/
def IntsN (r : List Int × Int) (w : World) (e : Ending) (w' : World) : Prop := ∃ (A : Option Addr) (cap : Nat), e = .returned (.tuple #[.slice A r.1.length cap, .int .i64 r.2]) ∧ RI w' w'.heap.size A r.1 ∧ (∀ b o, A = some ⟨b, o, none⟩ → w.heap.size ≤ b) ∧ Below w.heap.size w w'
theorem IntsN.e {r : List Int × Int} {w : World} {e : Ending} {w' : World} (h : IntsN r w e w') : IntsE r w e w' := by
  obtain ⟨A, cap, h1, h2, _, h4⟩ := h
  exact ⟨A, cap, h1, h2, h4⟩
end Go.Proofs.Ytdepkmpilipolaa
namespace Go.Proofs.Ytdepkmpilipolaa
open Go Go.Proofs Go.RowKit Go.Pol Go.Shelf
attribute [local go_sem] Oper.semAt_some Go.Pol.wide_fn Go.Pol.wide_depth Go.Pol.wide_fn' Go.Pol.wide_depth'

set_option maxRecDepth 100000 in
set_option maxHeartbeats 1600000 in
theorem askG_any (b : Nat) (pg n f bk ev : Int) (V : Vm) (w : World) (hV : SysIs w b V) (hK : KindOk V) :
    Calls Try.prog 26 #[.pointer (some ⟨b, 0, none⟩), planV pg n f bk ev] w (SpansOwn w (guardsF pg n f bk ev) (chkG pg n f bk ev)) := by
  have hb0 := (Below.refl w.heap.size w).alloc (Nat.le_refl _) (.cells (planC pg n f bk ev) 31)
  have k0 := Blk.new w 31 (planC pg n f bk ev)
  have HC := Lib.hid (fun W h => counts_any b V W h hK)
  have HG := Lib.hid (fun W => guards_own pg n f bk ev W)
  have V0 := hV.call hb0
  obtain ⟨s, hs⟩ : ∃ s, w.heap.size = s := ⟨_, rfl⟩
  rw [hs] at k0
  generalize chkG pg n f bk ev = er at *
  generalize guardsF pg n f bk ev = G at *
  unfold SpansOwn at HG
  clear hV hK
  go_enter Try.func26, Try.ntmps26
  go_upto_region 1 with fail
  generalize w.alloc _ = w0 at *
  go_wp2_with fail
  refine (HC.out _ V0).mono ?_
  rintro e w1 ⟨⟨cs, hcs, rfl⟩, hb1⟩
  obtain ⟨q, hq⟩ : ∃ q, w1.heap.size = q := ⟨_, rfl⟩
  have hsz := hcs.size
  have kz := Blk.new w1 95 #[.int .i64 0, .int .i64 0, .int .i64 0, .int .i64 0, .int .i64 0]
  rw [hq] at kz
  have ht : (w1.alloc (.cells #[.int .i64 0, .int .i64 0, .int .i64 0, .int .i64 0, .int .i64 0] 95)).there q 0 cs.size := by rw [hsz]; exact z_there kz 0 5 (by simp)
  have hF2 := Far.puts (T := fun k => k = q) rfl cs.toList 0 w1 _ ((Far.refl _ w1).alloc (.cells #[.int .i64 0, .int .i64 0, .int .i64 0, .int .i64 0, .int .i64 0] 95))
  have hone := Go.all_oneCell_toArray (hcs.one)
  rw [Array.toArray_toList] at hone
  have hinf : (Try.prog.info? 95).map (·.size) = some cs.size := by rw [hsz]; exact infoVc
  clear kz HC V0
  go_upto_region 2 with (refine wpList_store_mid rfl 95 (.tmp 6) (.tmp 11) rfl q 0 cs rfl rfl ht hinf hone ?_)
  generalize World.setCells _ q 0 _ = w2 at *
  have hb2 := hF2.below (n := w1.heap.size) (Nat.le_refl _) (fun k hk e => by omega)
  have hb12 := hb1.trans (hb2.mono hb1.size)
  have B2 := hb0.trans (hb12.mono hb0.size)
  have k2 := k0.call hb12
  have c2 := k2.cell
  clear hF2 ht hone hinf hcs hsz hb1 hb2 hb12 k0
  go_wp2_with fail
  refine (HG.out _).mono ?_
  rintro e w3 ⟨A, c, rfl, g1, g2, g3, g4, g5, g6⟩
  have B3 := B2.trans (g5.mono B2.size)
  have hsz2 := B2.size
  clear HG c2 k2
  go_wp2_with fail
  go_ret2
  exact ⟨A, c, rfl, g1, g2, g3, fun x o e => by have := g4 x o e; omega, B3, g6⟩
end Go.Proofs.Ytdepkmpilipolaa
namespace Go.Pol
open Go Go.RowKit
/-- pages of huge groups are committed; pages that are not have no bytes; kinds are kinds -/
structure GoodV (V : Vm) : Prop where
  kinds : KindOk V
  hug : ∀ p, p < 1024 → (V.pg p).huge = true → (V.pg p).kind = 2
  byt : ∀ p, p < 1024 → (V.pg p).kind ≠ 2 → ∀ k, (V.pg p).byt k = 0
theorem GoodV.of_pg {V U : Vm} (h : GoodV V) (e : U.pg = V.pg) : GoodV U := ⟨fun p hp => by rw [e]; exact h.kinds p hp, fun p hp => by rw [e]; exact h.hug p hp, fun p hp => by rw [e]; exact h.byt p hp⟩
theorem GoodV.eachP {V : Vm} (h : GoodV V) (a n : Nat) (f : Pg → Pg) (hk : ∀ p, p < 1024 → a ≤ p → p < a + n → 0 ≤ (f (V.pg p)).kind ∧ (f (V.pg p)).kind ≤ 3 ∧ ((f (V.pg p)).huge = true → (f (V.pg p)).kind = 2) ∧ ((f (V.pg p)).kind ≠ 2 → ∀ k, (f (V.pg p)).byt k = 0)) : GoodV (V.eachP a n f) := by
  have e : ∀ p, (V.eachP a n f).pg p = if a ≤ p ∧ p < a + n then f (V.pg p) else V.pg p := fun p => rfl
  refine ⟨fun p hp => ?_, fun p hp => ?_, fun p hp => ?_⟩
  · rw [e]
    split
    · rename_i h1; exact ⟨(hk p hp h1.1 h1.2).1, (hk p hp h1.1 h1.2).2.1⟩
    · exact h.kinds p hp
  · rw [e]
    split
    · rename_i h1; exact (hk p hp h1.1 h1.2).2.2.1
    · exact h.hug p hp
  · rw [e]
    split
    · rename_i h1; exact (hk p hp h1.1 h1.2).2.2.2
    · exact h.byt p hp
theorem GoodV.make {V : Vm} (h : GoodV V) (a n : Int) (call : Nat) (pr : Pg → Bool) (f : Pg → Pg) (hf : ∀ p, p < 1024 → pr (V.pg p) = true → 0 ≤ (f (V.pg p)).kind ∧ (f (V.pg p)).kind ≤ 3 ∧ ((f (V.pg p)).huge = true → (f (V.pg p)).kind = 2) ∧ ((f (V.pg p)).kind ≠ 2 → ∀ k, (f (V.pg p)).byt k = 0)) :
    GoodV (makeF V a n call pr f).2 := by
  unfold makeF
  split
  · exact h
  · split
    · exact h
    · rename_i hp
      rw [Bool.not_eq_false] at hp
      split
      · exact h.of_pg rfl
      · exact (h.of_pg (U := V.ref call) rfl).eachP _ _ _ (fun p hp2 h1 h2 => hf p hp2 (allP_iff.1 hp p h1 h2))
theorem GoodV.bec {V : Vm} (h : GoodV V) (a n : Int) (call : Nat) (fr tk : Int) (ht : 0 ≤ tk ∧ tk ≤ 3) : GoodV (bec V a n call fr tk).2 :=
  h.make a n call _ _ (fun p _ _ => ⟨ht.1, ht.2, fun h => (by cases h), fun _ _ => rfl⟩)
theorem GoodV.split {V : Vm} (h : GoodV V) (p : Int) : GoodV (splitF V p).2 := by
  unfold splitF
  split
  · exact h
  · refine h.make _ _ _ _ _ (fun q hq hk => ?_)
    have hb := h.kinds q hq
    exact ⟨hb.1, hb.2, fun h => (by cases h), h.byt q hq⟩
theorem GoodV.new : GoodV newVm := ⟨fun p _ => by show (0 : Int) ≤ 0 ∧ (0 : Int) ≤ 3; omega, fun p _ h => (by cases h), fun p _ _ k => rfl⟩
theorem GoodV.plan {V : Vm} (h : GoodV V) (l : List Ru) : GoodV (planF V l) := by
  unfold planF
  split
  · exact h.of_pg rfl
  · exact h
end Go.Pol
namespace Go.Proofs.Ytdepkmpilipolaa
open Go Go.Proofs Go.RowKit Go.Pol Go.Shelf
attribute [local go_sem] Oper.semAt_some Go.Pol.wide_fn Go.Pol.wide_depth Go.Pol.wide_fn' Go.Pol.wide_depth'

/-- the three counts -/
structure Cnt3 (w W : World) (s D : Nat) (X : Nat → Prop) (a b c : Int) : Prop where
  k1 : Blk W (s + 1) 3 #[.int .i64 a]
  k2 : Blk W (s + 2) 3 #[.int .i64 b]
  k3 : Blk W (s + 3) 3 #[.int .i64 c]
  below : Below s w W
  size : D ≤ W.heap.size
  own : ∀ k, X k → D ≤ k
theorem Cnt3.far {w A B : World} {s D D0 : Nat} {X : Nat → Prop} {a b c : Int} (h : Cnt3 w A s D X a b c) (hf : Far (fun k => False ∨ X k ∨ k = D0 ∨ k = D0 + 1) A B) (hD : s + 4 ≤ D) (h0 : D ≤ D0) : Cnt3 w B s D X a b c := by
  have hn : ∀ k, k < D → ¬ (False ∨ X k ∨ k = D0 ∨ k = D0 + 1) := by
    rintro k hk (h' | h' | h' | h')
    · exact h'
    · have := h.own k h'; omega
    · omega
    · omega
  exact ⟨hf.blk h.k1 (hn _ (by omega)), hf.blk h.k2 (hn _ (by omega)), hf.blk h.k3 (hn _ (by omega)), h.below.trans (hf.below (by have := h.size; omega) (fun k hk => hn k (by omega))), Nat.le_trans h.size hf.size, h.own⟩
theorem Cnt3.new {w W : World} {s D : Nat} {X X' : Nat → Prop} {a b c : Int} (h : Cnt3 w W s D X a b c) (hX : ∀ k, X' k → X k ∨ W.heap.size ≤ k) : Cnt3 w W s D X' a b c :=
  ⟨h.k1, h.k2, h.k3, h.below, h.size, fun k hk => (hX k hk).elim (h.own k) (fun h' => by have := h.size; omega)⟩
theorem Cnt3.later {w A B : World} {s D D2 : Nat} {X : Nat → Prop} {a b c : Int} (h : Cnt3 w A s D X a b c) (hb : Below A.heap.size A B) (hD : D2 ≤ B.heap.size) (hs4 : s + 4 ≤ D) : Cnt3 w B s D2 (fun _ => False) a b c :=
  ⟨h.k1.call hb, h.k2.call hb, h.k3.call hb, h.below.trans (hb.mono (by have := h.size; omega)), hD, fun _ h => h.elim⟩

end Go.Proofs.Ytdepkmpilipolaa
namespace Go.Proofs.Ytdepkmpilipolaa
open Go Go.Proofs Go.RowKit Go.Pol Go.Shelf
attribute [local go_sem] Oper.semAt_some Go.Pol.wide_fn Go.Pol.wide_depth Go.Pol.wide_fn' Go.Pol.wide_depth'

def IntsNC (r : List Int × Int) (w : World) (e : Ending) (w' : World) : Prop := ∃ (A : Option Addr) (cap : Nat), e = .returned (.tuple #[.slice A r.1.length cap, .int .i64 r.2]) ∧ RI w' w'.heap.size A r.1 ∧ (∀ b o, A = some ⟨b, o, none⟩ → w.heap.size ≤ b) ∧ r.1.length ≤ cap ∧ Below w.heap.size w w'
theorem IntsNC.e {r : List Int × Int} {w : World} {e : Ending} {w' : World} (h : IntsNC r w e w') : IntsE r w e w' := by
  obtain ⟨A, cap, h1, h2, _, _, h4⟩ := h
  exact ⟨A, cap, h1, h2, h4⟩
end Go.Proofs.Ytdepkmpilipolaa
namespace Go.Pol
open Go Go.RowKit
/-- one guard is lifted -/
def lftStep (S : List Sp × Int × Vm) (x : Sp) : List Sp × Int × Vm :=
  (if (bec S.2.2 x.1 x.2 4 3 1).1 = 0 then S.1 else S.1 ++ [x], if (bec S.2.2 x.1 x.2 4 3 1).1 = 0 then S.2.1 else if S.2.1 = 0 then (bec S.2.2 x.1 x.2 4 3 1).1 else S.2.1, (bec S.2.2 x.1 x.2 4 3 1).2)
/-- what Lift does -/
def liftG (V : Vm) (ck : Int) (G : List Sp) : List Sp × Int × Vm := if ck = 0 then G.foldl lftStep ([], 0, V) else ([], ck, V)
/-- spans and an error are handed back, the system changed -/
def SpanSys (b : Nat) (r : List Sp × Int × Vm) (w : World) (e : Ending) (w' : World) : Prop :=
  ∃ (A : Option Addr) (cap : Nat), e = .returned (.tuple #[.slice A r.1.length cap, .int .i64 r.2.1]) ∧ RU w' w'.heap.size A r.1 ∧ (∀ g o, A = some ⟨g, o, none⟩ → w.heap.size ≤ g) ∧ r.1.length ≤ maxLen ∧ SysIs w' b r.2.2 ∧ Far (fun k => k = b) w w'
end Go.Pol
namespace Go.Proofs.Ytdepkmpilipolaa
open Go Go.Proofs Go.RowKit Go.Pol Go.Shelf
attribute [local go_sem] Oper.semAt_some Go.Pol.wide_fn Go.Pol.wide_depth Go.Pol.wide_fn' Go.Pol.wide_depth'

set_option maxRecDepth 100000 in
set_option maxHeartbeats 3200000 in
theorem lift_any (b : Nat) (pg n f bk ev : Int) (V : Vm) (w : World) (hV : SysIs w b V) (hK : KindOk V) (hGl : (guardsF pg n f bk ev).length ≤ 512) :
    Calls Try.prog 13 #[.pointer (some ⟨b, 0, none⟩), planV pg n f bk ev] w (SpanSys b (liftG V (chkG pg n f bk ev) (guardsF pg n f bk ev)) w) := by
  obtain ⟨j0, hj, hy0, hy1, hy2⟩ := infoSp_parts
  have hb0 := (Below.refl w.heap.size w).alloc (Nat.le_refl _) (.cells (planC pg n f bk ev) 31)
  have k0 := Blk.new w 31 (planC pg n f bk ev)
  have HA := Lib.hid (fun W h => askG_any b pg n f bk ev V W h hK)
  have V0 := hV.call hb0
  have hbw := hV.lt
  have c0 := k0.cell
  obtain ⟨R, hR⟩ : ∃ R, liftG V (chkG pg n f bk ev) (guardsF pg n f bk ev) = R := ⟨_, rfl⟩
  rw [hR]
  have hR' := Lib.hid hR
  unfold liftG at hR'
  generalize chkG pg n f bk ev = ck at *
  generalize guardsF pg n f bk ev = G at *
  unfold SpansOwn at HA
  obtain ⟨gn, hgn⟩ : ∃ gn, G.length = gn := ⟨_, rfl⟩
  rw [hgn] at HA hGl
  have hgn' := Lib.hid hgn
  clear hV hK hR hgn
  by_cases h0 : ck = 0
  case neg =>
    have h0' : (ck != 0) = true := by simpa using h0
    have hR2 : Hid (R = ([], ck, V)) := Lib.hid (by rw [← hR'.out, if_neg h0])
    clear hR' h0
    go_enter Try.func13, Try.ntmps13
    go_wp2_with fail
    refine (HA.out _ V0).mono ?_
    rintro e w1 ⟨A1, c1, rfl, g1, g2, g3, g4, g5, g6⟩
    have B1 := hb0.trans (g5.mono hb0.size)
    have V1 := V0.call g5
    clear HA V0
    go_wp2_with fail
    go_ret2
    rw [hR2.out]
    exact ⟨none, 0, rfl, RU.nil, fun _ _ h => (by cases h), by unfold maxLen; simp, V1, .of_below B1⟩
  case pos =>
    subst h0
    have hR2 : Hid (G.foldl lftStep ([], 0, V) = R) := Lib.hid (by rw [← hR'.out, if_pos rfl])
    clear hR'
    go_enter Try.func13, Try.ntmps13
    go_wp2_with fail
    refine (HA.out _ V0).mono ?_
    rintro e w1 ⟨A1, c1, rfl, g1, g2, g3, g4, g5, g6⟩
    have B1 := hb0.trans (g5.mono hb0.size)
    have V1 := Lib.hid (V0.call g5)
    have hs1 := B1.size
    have hA1 : ∀ g o, A1 = some ⟨g, o, none⟩ → ¬ g = b := fun g o e h => by have := g4 g o e; have := hb0.size; omega
    have g1' := Lib.hid g1
    have hgm : gn ≤ maxLen := by omega
    have hgm' := Lib.hid hgm
    have hA1' := Lib.hid hA1
    unfold maxLen at hgm
    have hB1 := Lib.hid B1
    clear HA V0 g1 g2 g3 g4 g5 g6 hA1 c0 k0 hb0 B1
    go_wp2_with fail
    go_loopw [4, 5, 21] (fun v4 v5 i wr => ∃ (k : Nat) (L : List Sp) (er : Int) (T : Vm), k ≤ gn ∧ i = .int .i64 k ∧ v5 = .int .i64 er ∧ L.length ≤ k ∧ Hid ((G.drop k).foldl lftStep (L, er, T) = R) ∧ wr.ownsRow w1.heap.size 56 2 v4 L.length (spCells L) ∧ Hid (SysIs wr b T) ∧ Far (fun k => k = b) w1 wr) (fun _ _ i _ => gn - (intOf i).toNat)
    case atStart => exact ⟨0, [], 0, V, by omega, rfl, rfl, by simp, Lib.hid (by simpa using hR2.out), World.ownsRow_nil _ _ _ _, V1, Far.refl _ _⟩
    case round =>
      clear V1
      obtain ⟨k, L, er, T, hk, rfl, rfl, hL, hfl, hrow, hT, hF⟩ := hrel
      have hs4 := hF.size
      have hbz := hT.out.lt
      by_cases hlt : k < gn
      · have hlt' : decide ((k : Int) < (gn : Int)) = true := by simpa using hlt
        obtain ⟨rb, ro, rfl, hrb, c5, c6⟩ := g1'.out.at_' (k := k) (by have := hgn'.out; omega)
        have hne := hA1'.out _ _ rfl
        have d5 := hF.cell c5 (by show ¬ rb = b; omega)
        have d6 := hF.cell c6 (by show ¬ rb = b; omega)
        have hsn := hfl.out
        rw [Go.Pol.drop_cons (0, 0) G k (by have := hgn'.out; omega), List.foldl_cons] at hsn
        generalize G.getD k (0, 0) = x at *
        obtain ⟨xa, xb⟩ := x
        rw [show lftStep (L, er, T) (xa, xb) = (if (bec T xa xb 4 3 1).1 = 0 then L else L ++ [(xa, xb)], if (bec T xa xb 4 3 1).1 = 0 then er else if er = 0 then (bec T xa xb 4 3 1).1 else er, (bec T xa xb 4 3 1).2) from rfl] at hsn
        simp only at d5 d6
        have hsn' := Lib.hid hsn
        have kx := Blk.new wr 56 #[.int .i64 xa, .int .i64 xb]
        have hbx : Below wr.heap.size wr (wr.alloc (.cells #[.int .i64 xa, .int .i64 xb] 56)) := (Below.refl _ _).alloc (Nat.le_refl _) _
        have cx := kx.cell
        obtain ⟨gx, hgx⟩ : ∃ gx, wr.heap.size = gx := ⟨_, rfl⟩
        rw [hgx] at kx cx
        clear hsn c5 c6 hfl
        go_upto_region 7 with fail
        have Tx := Lib.hid (hT.out.call hbx)
        have rowx := ownsRow_call hrow hbx
        have hFx : Far (fun k => k = b) w1 _ := hF.trans (.of_below hbx)
        generalize wr.alloc _ = w5 at *
        try simp only [hgx]
        have HD := Lib.hid (unguard_any b xa xb T w5 Tx.out)
        clear hbx hT hrow hF d5 d6
        go_wp2_with fail
        refine HD.out.mono ?_
        rintro e w6 ⟨rfl, V6, F6⟩
        have V6' := Lib.hid V6
        have row6 := ownsRow_far rowx F6 (fun g hg h => by have := (rowx.lt g hg).1; omega)
        have hF6 := hFx.trans F6
        have kx6 := F6.blk kx (by show ¬ gx = b; omega)
        generalize bec T xa xb 4 3 1 = J at *
        obtain ⟨je, jV⟩ := J
        simp only at hsn' V6'
        have hsn2 := hsn'.out
        clear HD Tx rowx hFx F6 V6 hsn' kx cx
        by_cases hj2 : je = 0
        · subst hj2
          rw [if_pos rfl, if_pos rfl] at hsn2
          have hsn3 := Lib.hid hsn2
          clear hsn2
          go_wp2_with fail
          go_roundw
          case rel => exact ⟨k + 1, L, er, jV, by omega, by go_num, rfl, by omega, hsn3, row6, V6', hF6⟩
          case measure => simp [intOf]; omega
        · have hj' : (je != 0) = true := by simpa using hj2
          rw [if_neg hj2, if_neg hj2] at hsn2
          have hsn3 := Lib.hid hsn2
          have cx := kx6.cell
          have hs6 := hF6.size
          have hsc := Lib.hid (spCells_snoc L (xa, xb))
          have hlc := Lib.hid (spCells_len L)
          have kN := Blk.new w6 56 #[.int .i64 xa, .int .i64 xb]
          have hbN : Below w6.heap.size w6 (w6.alloc (.cells #[.int .i64 xa, .int .i64 xb] 56)) := (Below.refl _ _).alloc (Nat.le_refl _) _
          clear hsn2 hj2
          by_cases he : er = 0
          · subst he
            have hsn4 := hsn3.out
            rw [if_pos rfl] at hsn4
            have hsn5 := Lib.hid hsn4
            clear hsn3 hsn4
            go_wp2_with (refine wpList_append_own _ rfl (.tmp 33) (.tmp 35) 22 rfl w1.heap.size 56 j0 (.agg #[.int .i64 0, .int .i64 0]) 2 16 Try.underlying22 hj hy0 hy1 hy2 rfl (by decide) _ L.length (spCells L) rfl (row6.alloc _) ⟨w6.heap.size, 0, none⟩ 1 1 [.int .i64 xa, .int .i64 xb] rfl rfl (news_two kN) news_one2 (by unfold maxLen; omega) (by omega) (by simp; omega) ?_; intro v' w7 hown' hgrow _; rw [← hsc.out] at hown')
            go_roundw
            case rel =>
              have F7 : Far (fun k => w1.heap.size ≤ k) w6 w7 := (Far.of_below hbN).grown hgrow (fun g hg hlt => (row6.lt g hg).1)
              have F37 : Far (fun k => k = b) w1 w7 := hF6.trans' F7 (fun i hi h => by omega)
              have F8 := (Far.of_below hbN).grown hgrow (T := fun k => Value.ownBlock _ = some k) (fun g hg _ => hg)
              exact ⟨k + 1, L ++ [(xa, xb)], _, jV, by omega, by go_num, rfl, by rw [List.length_append]; exact Nat.succ_le_succ hL, hsn5, by rw [List.length_append]; exact hown', Lib.hid (V6'.out.far F8 (fun h => by have := (row6.lt b h).1; omega) (fun _ _ _ _ _ _ g _ _ _ hc hg => hc.elim fun cr hcr => own_other row6 hg hcr (by decide))), F37⟩
            case measure => simp [intOf]; omega
          · have he' : (er == 0) = false := by simpa using he
            have hsn4 := hsn3.out
            rw [if_neg he] at hsn4
            have hsn5 := Lib.hid hsn4
            clear hsn3 hsn4 he
            go_wp2_with (refine wpList_append_own _ rfl (.tmp 33) (.tmp 35) 22 rfl w1.heap.size 56 j0 (.agg #[.int .i64 0, .int .i64 0]) 2 16 Try.underlying22 hj hy0 hy1 hy2 rfl (by decide) _ L.length (spCells L) rfl (row6.alloc _) ⟨w6.heap.size, 0, none⟩ 1 1 [.int .i64 xa, .int .i64 xb] rfl rfl (news_two kN) news_one2 (by unfold maxLen; omega) (by omega) (by simp; omega) ?_; intro v' w7 hown' hgrow _; rw [← hsc.out] at hown')
            go_roundw
            case rel =>
              have F7 : Far (fun k => w1.heap.size ≤ k) w6 w7 := (Far.of_below hbN).grown hgrow (fun g hg hlt => (row6.lt g hg).1)
              have F37 : Far (fun k => k = b) w1 w7 := hF6.trans' F7 (fun i hi h => by omega)
              have F8 := (Far.of_below hbN).grown hgrow (T := fun k => Value.ownBlock _ = some k) (fun g hg _ => hg)
              exact ⟨k + 1, L ++ [(xa, xb)], _, jV, by omega, by go_num, rfl, by rw [List.length_append]; exact Nat.succ_le_succ hL, hsn5, by rw [List.length_append]; exact hown', Lib.hid (V6'.out.far F8 (fun h => by have := (row6.lt b h).1; omega) (fun _ _ _ _ _ _ g _ _ _ hc hg => hc.elim fun cr hcr => own_other row6 hg hcr (by decide))), F37⟩
            case measure => simp [intOf]; omega
      · obtain rfl : k = gn := by omega
        have hlt' : decide ((k : Int) < (k : Int)) = false := by simp
        have hR3 : Hid (R = (L, er, T)) := Lib.hid (by rw [← hfl.out, List.drop_of_length_le (by have := hgn'.out; omega)]; rfl)
        obtain ⟨A5, cap5, rfl, hru5, _, _, hfr5, _⟩ := own_RU hrow rfl
        have FF := (Far.of_below hB1.out).trans hF
        clear hR2 hfl
        go_wp2_with fail
        go_ret2
        rw [hR3.out]
        exact ⟨A5, cap5, rfl, hru5, fun g o e => by have := hfr5 g o e; omega, by have := hgm'.out; show L.length ≤ maxLen; omega, hT.out, FF⟩
end Go.Proofs.Ytdepkmpilipolaa
namespace Go.Pol
open Go Go.RowKit
/-- the error that is to be handed back -/
def ErS (g : Nat) (x : Int) (W : World) : Prop := W.cell? ⟨g, 0, none⟩ = some (.int .i64 x) ∧ True
end Go.Pol
namespace Go.Proofs.Ytdepkmpilipolaa
open Go Go.Proofs Go.RowKit Go.Pol Go.Shelf
attribute [local go_sem] Oper.semAt_some Go.Pol.wide_fn Go.Pol.wide_depth Go.Pol.wide_fn' Go.Pol.wide_depth'

theorem guardsF_len (pg n f bk ev : Int) : (guardsF pg n f bk ev).length ≤ 512 := by
  by_cases h : chkG pg n f bk ev = 0
  · exact (guards_set (chkG_zero.1 h)).1.len
  · unfold guardsF; rw [if_neg h]; exact Nat.zero_le _
/-- the boxes that Place makes -/
theorem place_boxes (p : Value) (C : Array Value) (w : World) : ∃ w0 : World, w0 = (((w.alloc (.cells #[p] 34)).alloc (.cells C 31)).alloc (.cells #[.slice none 0 0] 22)).alloc (.cells #[.int .i64 0] 35) ∧
    w0.heap.size = w.heap.size + 4 ∧ Below w.heap.size w w0 ∧ Blk w0 w.heap.size 34 #[p] ∧ Blk w0 (w.heap.size + 1) 31 C ∧ Blk w0 (w.heap.size + 2) 22 #[.slice none 0 0] ∧ Blk w0 (w.heap.size + 3) 35 #[.int .i64 0] := by
  have e1 := World.size_alloc w (.cells #[p] 34)
  have e2 := World.size_alloc (w.alloc (.cells #[p] 34)) (.cells C 31)
  have e3 := World.size_alloc ((w.alloc (.cells #[p] 34)).alloc (.cells C 31)) (.cells #[.slice none 0 0] 22)
  have e4 := World.size_alloc (((w.alloc (.cells #[p] 34)).alloc (.cells C 31)).alloc (.cells #[.slice none 0 0] 22)) (.cells #[.int .i64 0] 35)
  have k1 := ((Blk.new w 34 #[p]).alloc (.cells C 31)).alloc (.cells #[.slice none 0 0] 22) |>.alloc (.cells #[.int .i64 0] 35)
  have k2 := ((Blk.new (w.alloc (.cells #[p] 34)) 31 C).alloc (.cells #[.slice none 0 0] 22)).alloc (.cells #[.int .i64 0] 35)
  have k3 := (Blk.new ((w.alloc (.cells #[p] 34)).alloc (.cells C 31)) 22 #[.slice none 0 0]).alloc (.cells #[.int .i64 0] 35)
  have k4 := Blk.new (((w.alloc (.cells #[p] 34)).alloc (.cells C 31)).alloc (.cells #[.slice none 0 0] 22)) 35 #[.int .i64 0]
  have hb := ((((Below.refl w.heap.size w).alloc (Nat.le_refl _) (.cells #[p] 34)).alloc (by omega) (.cells C 31)).alloc (by omega) (.cells #[.slice none 0 0] 22)).alloc (by omega) (.cells #[.int .i64 0] 35)
  rw [e1] at k2
  rw [e2, e1] at k3
  rw [e3, e2, e1] at k4
  exact ⟨_, rfl, by omega, hb, k1, k2, k3, k4⟩
end Go.Proofs.Ytdepkmpilipolaa
namespace Go.Pol
open Go Go.RowKit
/-- the deferred calls are made one after the other -/
theorem leaves_inv {P : Program} {fn : Func} {tmps : Array Value} {R : Ending → World → Prop} (I : List Deferred → World → Prop)
    (hfin : ∀ w, I [] w → ∃ v, (results fn tmps).run P w = .ok v w ∧ R (.returned v) w)
    (hstep : ∀ d ds w, I (d :: ds) w → ∃ fv cap f args, d.target = .fn fv cap ∧ (invoke d.target d.args).run P w = .ok (.enter f args) w ∧ CallsD P f args .returning w (fun e u' w' => u' = .returning ∧ ((∃ v, e = .returned v) ∧ I ds w'))) :
    ∀ ds w, I ds w → Leaves P fn tmps R ds .returning w
  | [], w, h => hfin w h
  | d :: ds, w, h => by
    obtain ⟨fv, cap, f, args, ht, hi, hc⟩ := hstep d ds w h
    refine ⟨by simp, fv, cap, f, args, ht, hi, hc.mono ?_⟩
    rintro e u' w' ⟨rfl, ⟨v, rfl⟩, hI⟩
    exact leaves_inv I hfin hstep ds w' hI
end Go.Pol
namespace Go.Proofs.Ytdepkmpilipolaa
open Go Go.Proofs Go.RowKit Go.Pol Go.Shelf
attribute [local go_sem] Oper.semAt_some Go.Pol.wide_fn Go.Pol.wide_depth Go.Pol.wide_fn' Go.Pol.wide_depth'

set_option maxRecDepth 100000 in
set_option maxHeartbeats 800000 in
/-- nothing is to be undone -/
theorem place1Ok_any (p0 p1 p2 p3 : Nat) (w : World) (k0 : Blk w p0 35 #[.int .i64 0]) :
    CallsD Try.prog 27 #[.pointer (some ⟨p0, 0, none⟩), .pointer (some ⟨p1, 0, none⟩), .pointer (some ⟨p2, 0, none⟩), .pointer (some ⟨p3, 0, none⟩)] .returning w fun e u' w' => u' = .returning ∧ ((∃ v, e = .returned v) ∧ w' = w) := by
  have c0 := k0.cell
  go_enter_d Try.func27, Try.ntmps27
  go_wp2_with fail
  exact ⟨rfl, _, by simp [results, Try.results27, go_sem]; rfl, ⟨_, rfl⟩, rfl⟩
set_option maxRecDepth 100000 in
set_option maxHeartbeats 800000 in
/-- a guard is taken away again -/
theorem place1Un_any (b p0 p1 p2 p3 : Nat) (er xa xb : Int) (V : Vm) (w : World) (hV : SysIs w b V) (he : er ≠ 0) (k0 : Blk w p0 35 #[.int .i64 er]) (k1 : Blk w p1 34 #[.pointer (some ⟨b, 0, none⟩)]) (k2 : Blk w p2 56 #[.int .i64 xa, .int .i64 xb])
    (h0 : (bec V xa xb 4 3 1).1 = 0) :
    CallsD Try.prog 27 #[.pointer (some ⟨p0, 0, none⟩), .pointer (some ⟨p1, 0, none⟩), .pointer (some ⟨p2, 0, none⟩), .pointer (some ⟨p3, 0, none⟩)] .returning w fun e u' w' => u' = .returning ∧ ((∃ v, e = .returned v) ∧ SysTo b (bec V xa xb 4 3 1).2 w w') := by
  have c0 := k0.cell
  have c1 := k1.cell
  have c2 := k2.cell
  have he' : (er != 0) = true := by simpa using he
  have HD := Lib.hid (unguard_any b xa xb V w hV)
  rw [h0] at HD
  generalize (bec V xa xb 4 3 1).2 = J at *
  clear he hV h0
  go_enter_d Try.func27, Try.ntmps27
  go_wp2_with fail
  refine HD.out.mono ?_
  rintro e w1 ⟨rfl, hS⟩
  clear HD
  go_wp2_with fail
  exact ⟨rfl, _, by simp [results, Try.results27, go_sem]; rfl, ⟨_, rfl⟩, hS⟩
end Go.Proofs.Ytdepkmpilipolaa
namespace Go.Proofs.Ytdepkmpilipolaa
open Go Go.Proofs Go.RowKit Go.Pol Go.Shelf
attribute [local go_sem] Oper.semAt_some Go.Pol.wide_fn Go.Pol.wide_depth Go.Pol.wide_fn' Go.Pol.wide_depth'
def RunS (b s k : Nat) (v : Value) (K : Int) (w : World) : Prop := w.cell? ⟨s, 0, none⟩ = some v ∧ w.cell? ⟨b, k, none⟩ = some (.int .i64 K)
theorem RunS.later {b s k : Nat} {v : Value} {K : Int} {w w' : World} (h : RunS b s k v K w) (hF : Below w.heap.size w w') (hb : b < w.heap.size) (hs : s < w.heap.size) : RunS b s k v K w' :=
  ⟨(hF.cell (p := ⟨s, 0, none⟩) hs).trans h.1, (hF.cell (p := ⟨b, k, none⟩) hb).trans h.2⟩
def DatS (b s k : Nat) (v : Value) (cs : List Value) (w : World) : Prop := w.cell? ⟨s, 2, none⟩ = some v ∧ w.rangeAt b (1088 + k * 64) cs
theorem DatS.later {b s k : Nat} {v : Value} {cs : List Value} {w w' : World} (h : DatS b s k v cs w) (hF : Below w.heap.size w w') (hb : b < w.heap.size) (hs : s < w.heap.size) : DatS b s k v cs w' :=
  ⟨(hF.cell (p := ⟨s, 2, none⟩) hs).trans h.1, fun j u hj => (hF.cell (p := ⟨b, _, none⟩) hb).trans (h.2 j u hj)⟩
end Go.Proofs.Ytdepkmpilipolaa
namespace Go.Proofs.Ytdepkmpilipolaa
open Go Go.Proofs Go.RowKit Go.Pol Go.Shelf
attribute [local go_sem] Oper.semAt_some Go.Pol.wide_fn Go.Pol.wide_depth Go.Pol.wide_fn' Go.Pol.wide_depth'

set_option maxRecDepth 100000 in
set_option maxHeartbeats 1600000 in
theorem insNil_any (base g : Nat) (xa xb : Int) (w : World) (k : Blk w g 56 #[.int .i64 xa, .int .i64 xb]) (hb : base ≤ w.heap.size) :
    Calls Try.prog 28 #[.slice none 0 0, .int .i64 0, .slice (some ⟨g, 0, none⟩) 1 1] w fun e w' => ∃ v, e = .returned v ∧ w'.ownsRow base 56 2 v 1 [.int .i64 xa, .int .i64 xb] ∧ Below w.heap.size w w' := by
  obtain ⟨j0, hj, hy0, hy1, hy2⟩ := infoSp_parts
  have hrow := World.ownsRow_nil w base 56 2
  go_enter Try.func28, Try.ntmps28
  go_wp2_with (refine wpList_append_own _ rfl (.tmp 23) (.tmp 24) 22 rfl base 56 j0 (.agg #[.int .i64 0, .int .i64 0]) 2 16 Try.underlying22 hj hy0 hy1 hy2 rfl (by decide) _ 0 [] rfl hrow ⟨g, 0, none⟩ 1 1 [.int .i64 xa, .int .i64 xb] rfl rfl (news_two k) news_one2 (by unfold maxLen; omega) (by omega) hb ?_; intro v' w7 hown' hgrow _)
  go_ret
  exact ⟨v', rfl, by simpa using hown', (Below.refl _ _).grown hgrow (Nat.le_refl _) (fun j hj => by cases hj)⟩
end Go.Proofs.Ytdepkmpilipolaa
namespace Go.Pol
open Go Go.RowKit
/-- copy(d, s) at elements of sz cells: the row of the block d lies in afterwards -/
theorem run_copy_rowN {P : Program} (w : World) (dT sT ty elem : TypeId) (sz g o dLen dCap : Nat) (a : Addr) (sLen sCap m : Nat) (cur : Array Value) (t : TypeId) (cs : List Value)
    (hu : P.underlying dT = some (.slice elem)) (hs : (P.info? elem).map (·.size) = some sz)
    (hg : w.heap[g]? = some (.cells cur t (0, 0))) (hm : Nat.min sLen dLen = m) (hn : cs.length = m * sz)
    (hsrc : ∀ j v, cs[j]? = some v → w.cell? (a.add j) = some v) (hfit : o + cs.length ≤ cur.size) (h1 : ∀ v ∈ cs, v.oneCell' = true) :
    (Builtin.copy_ #[dT, sT] ty #[.slice (some ⟨g, o, none⟩) dLen dCap, .slice (some a) sLen sCap]).run P w =
      .ok (goInt m) (w.setRow g (cur.toList.take o ++ cs ++ cur.toList.drop (o + cs.length)).toArray) := by
  have hl := run_loadCells_list (P := P) w a cs hsrc
  have hst := run_storeCells_at P g o t cs 0 cur w hg (by simpa using hfit) h1
  cases hq : P.info? elem with
  | none => simp [hq] at hs
  | some i =>
    have hi : i.size = sz := by simpa [hq] using hs
    simp [Builtin.copy_, run_underlying hu, Builtin.lenOf, Builtin.firstCells, sizeOf, typeInfo, hq, hi, hm, ← hn, hl, hst]
end Go.Pol
namespace Go.Proofs.Ytdepkmpilipolaa
open Go Go.Proofs Go.RowKit Go.Pol Go.Shelf
attribute [local go_sem] Oper.semAt_some Go.Pol.wide_fn Go.Pol.wide_depth Go.Pol.wide_fn' Go.Pol.wide_depth'

/-- room for one more is made in a new block -/
theorem appZ (ad : Addr) (n c : Nat) (hc : c < n + 1) (hn : n ≤ 512) (ty : TypeId) (w : World) :
    (Builtin.append_ #[22, 3] ty #[.slice (some ad) 0 c, .int .i64 ((n + 1 : Nat) : Int)]).run Try.prog w =
      .ok (.slice (some ⟨w.heap.size, 0, none⟩) (n + 1) (grownCap w (n + 1) c 56)) (w.drew.alloc (.cells (#[] ++ Builtin.zeroCells #[.int .i64 0, .int .i64 0] (n + 1) ++ Builtin.zeroCells #[.int .i64 0, .int .i64 0] (grownCap w (n + 1) c 56 - (n + 1))) 56)) := by
  obtain ⟨j0, hj, hy0, hy1, hy2⟩ := infoSp_parts
  have h := Lib.run_append_grow_zeros (P := Try.prog) w 22 3 ty 56 j0 _ .i64 .i64 Try.underlying22 Try.underlying3 hj hy0 (some ad) 0 c [] (by
    rw [hy1]
    exact run_firstCells_some w.drew 2 0 ad 0 c [] rfl (fun j v hv => by cases hv)) (n + 1) (by omega) (by omega) (by omega) (by omega) (by rw [hy2]; omega) (by rw [hy2]; exact growslice_fits_wide (by omega) (by omega))
  rw [Nat.zero_add] at h
  exact h
end Go.Proofs.Ytdepkmpilipolaa
namespace Go.Pol
open Go Go.RowKit
/-- the same, of an operation of a region that draws -/
theorem step_copy_runW {P : Program} {ops : Array Oper} {o : Oper} {a : Act} {w : World} {K : Act → World → Prop} {Q : Exit → Act → World → Prop} {E : Prop}
    (hg : o.guard = none) (d x : Operand) (dT sT : TypeId) (hop : o.op = Op.call { callee := Callee.builtin Builtin.copy, args := #[d, x], argTypes := #[dT, sT] })
    (v u : Value) (hd : a.eval d = v) (hx : a.eval x = u) {v' : Value} {w' : World} (hr : (Builtin.copy_ #[dT, sT] o.type #[v, u]).run P w = .ok v' w') (hK : K (a.put o.dst v') w') :
    if Region.wanted o (yielded ops a.tmps) = true then Oper.wp P o a w K Q else E := by
  have hw : Region.wanted o (yielded ops a.tmps) = true := by simp [Region.wanted, hg]
  rw [if_pos hw]
  unfold Oper.wp
  simp [execOp, hop, resolve, invoke, builtin, hd, hx, hr, Result.andThen]
  exact hK
/-- the cells once the first copy is done -/
def insrtB (cur : List Value) (xa xb : Value) : List Value := cur.take 0 ++ [xa, xb] ++ cur.drop (0 + 2)
/-- the cells once both copies are done -/
def insrtC (cur xs : List Value) (xa xb : Value) : List Value := xa :: xb :: xs ++ cur.drop (2 + xs.length)
theorem insrtC_grow (cur xs : List Value) (xa xb : Value) : (insrtB cur xa xb).take 2 ++ xs ++ (insrtB cur xa xb).drop (2 + xs.length) = insrtC cur xs xa xb := by
  unfold insrtB insrtC
  simp [Nat.add_comm 2 xs.length]
theorem insrtC_room (cur xs : List Value) (xa xb : Value) (h : 2 ≤ cur.length) : insrtB (cur.take 2 ++ xs ++ cur.drop (2 + xs.length)) xa xb = insrtC cur xs xa xb := by
  unfold insrtB insrtC
  obtain ⟨a, b, r, rfl⟩ : ∃ a b r, cur = a :: b :: r := by
    match cur, h with
    | a :: b :: r, _ => exact ⟨a, b, r, rfl⟩
  simp
theorem insrtC_len (cur xs : List Value) (xa xb : Value) (h : 2 + xs.length ≤ cur.length) : (insrtC cur xs xa xb).length = cur.length := by
  unfold insrtC
  simp
  omega
theorem spCells_oneW (us : List Sp) : ∀ u ∈ spCells us, u.oneCell' = true := by
  intro u hu
  unfold spCells at hu
  rw [List.mem_flatMap] at hu
  obtain ⟨x, _, h⟩ := hu
  rcases List.mem_cons.1 h with rfl | h
  · rfl
  · rcases List.mem_cons.1 h with rfl | h
    · rfl
    · cases h
theorem setRow_own {w : World} {g base n c : Nat} {t : TypeId} {cur cs : Array Value} {xs : List Value} (hg : w.heap[g]? = some (.cells cur t (0, 0))) (hb : base ≤ g) (hc : n ≤ c) (hcm : c ≤ maxLen) (hs : cs.size = c * 2) (hl : xs.length = n * 2) (hx : cs.toList.take (n * 2) = xs) :
    (w.setRow g cs).ownsRow base t 2 (.slice (some ⟨g, 0, none⟩) n c) n xs :=
  ⟨hl, .inr ⟨g, c, cs, rfl, hb, setRow_heap _ _ _ _ _ _ hg, hc, hcm, hs, hx⟩⟩
end Go.Pol
