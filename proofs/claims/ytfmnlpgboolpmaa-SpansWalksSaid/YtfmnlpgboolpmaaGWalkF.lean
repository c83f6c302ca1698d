/- Walks: Guards, Count, Nth, Index of layer 11. -/
import Derived.Test.YtfmnlpgboolpmaaGWalkE
import Derived.Test.YtfmnlpgboolpmaaGSpecB
namespace Go.Proofs.Ytfmnlpgboolpmaa
open Go Go.Proofs Go.RowKit Go.Pol Go.Shelf
attribute [local go_sem] Oper.semAt_some Go.Pol.wide_fn Go.Pol.wide_depth Go.Pol.wide_fn' Go.Pol.wide_depth'

/-- what Guards answers -/
def guardsF (pg n f b ev : Int) : List Sp := if chkG pg n f b ev = 0 then gapsF (runsL pg n f b ev) (pg, n) else []
theorem ask_runs {pg n f b ev : Int} (hp : PlanOk pg n f b ev) : askS (runsL pg n f b ev) (pg, n) = 0 := by
  rw [askS, if_pos (chkS_zero.2 (runsL_can hp)), if_pos (vld_iff.2 ⟨hp.pg0, hp.pg1, hp.n0, hp.n1⟩)]

set_option maxHeartbeats 400000 in
theorem guards_own (pg n f b ev : Int) (w : World) :
    Calls Try.prog 27 #[planV pg n f b ev] w (SpansOwn w (guardsF pg n f b ev) (chkG pg n f b ev)) := by
  have HU := Lib.hid (fun W => usable_any pg n f b ev W)
  have hb0 := (Below.refl w.heap.size w).alloc (Nat.le_refl _) (.cells (planC pg n f b ev) 25)
  have k0 := Blk.new w 25 (planC pg n f b ev)
  have c0 := k0.cell
  unfold guardsF
  by_cases hc : chkG pg n f b ev = 0
  · have hp := chkG_zero.1 hc
    have ha := ask_runs hp
    rw [hc, if_pos rfl] at HU
    rw [hc, if_pos rfl]
    have HN := Lib.hid (fun A cap W h1 h2 h3 => not_own A (runsL pg n f b ev).length cap (runsL pg n f b ev) pg n W rfl h1 h2 h3)
    rw [ha, if_pos rfl] at HN
    clear ha hc hp
    generalize gapsF (runsL pg n f b ev) (pg, n) = G at *
    generalize runsL pg n f b ev = L at *
    go_enter Try.func27, Try.ntmps27
    go_wp2_with (first
      | (go_at_call 26; refine (HU.out _).mono ?_; rintro e w1 ⟨A1, c1, rfl, hr1, hl1, hm1, _, hq⟩; have k1 := k0.call hq; have cc := k1.cell; have hb1 := hb0.trans (hq.mono hb0.size))
      | (go_at_call 66; refine (HN.out _ _ _ hl1 hm1 hr1).mono ?_; rintro e w2 ⟨A2, c2, rfl, hr2, hl2, hm2, ho2, hq2, hz2⟩))
    go_ret2
    exact ⟨A2, c2, rfl, hr2, hl2, hm2, fun b o e => by have := ho2 b o e; have := hb1.size; omega, hb1.trans (hq2.mono hb1.size), hz2⟩
  · rw [if_neg hc] at HU ⊢
    generalize chkG pg n f b ev = er at *
    have hc' : (er != 0) = true := by simpa using hc
    clear hc
    go_enter Try.func27, Try.ntmps27
    go_wp2_with (go_at_call 26; refine (HU.out _).mono ?_; rintro e w1 ⟨A1, c1, rfl, hr1, hl1, hm1, _, hq⟩; have hb1 := hb0.trans (hq.mono hb0.size))
    go_ret2
    exact ⟨none, 0, rfl, RU.nil, by simp, by unfold maxLen; omega, fun b o e => (by cases e), hb1, fun _ => rfl⟩

theorem guards_any (pg n f b ev : Int) (w : World) :
    Calls Try.prog 27 #[planV pg n f b ev] w (SpansR w (guardsF pg n f b ev) (chkG pg n f b ev)) := by
  refine (guards_own pg n f b ev w).mono ?_
  rintro e w' ⟨A', cap', h1, h2, h3, h4, h5, h6, _⟩
  exact ⟨A', cap', h1, h2, h3, h4, h5, h6⟩

/-- the world in which the loop over the runs begins -/
theorem runs_start {w1 : World} {pg n f b ev : Int} (hp : PlanOk pg n f b ev) :
    SeqF Try.prog 102 #[.pointer (some ⟨w1.heap.size, 0, none⟩)] spV (fun _ => False) (fun k => k = w1.heap.size) (runsL pg n f b ev) (w1.alloc (.cells (planC pg n f b ev) 25)) :=
  runs1_seq pg n f b ev w1.heap.size _ hp (Blk.new w1 25 (planC pg n f b ev))

/-- what the region behind the loop of Count reads -/
def CntS (s : Nat) (n sm : Int) (w : World) : Prop := w.cell? ⟨s + 1, 0, none⟩ = some (.int .i64 sm) ∧ w.cell? ⟨s, 1, none⟩ = some (.int .i64 n)
def countF (pg n f b ev : Int) : Int × Int := if chkG pg n f b ev = 0 then (sumS (runsL pg n f b ev), n - sumS (runsL pg n f b ev)) else (0, 0)

set_option maxRecDepth 100000 in
set_option maxHeartbeats 1600000 in
theorem count_any (pg n f b ev : Int) (w : World) :
    Calls Try.prog 30 #[planV pg n f b ev] w fun e w' => e = .returned (.tuple #[.int .i64 (countF pg n f b ev).1, .int .i64 (countF pg n f b ev).2, .int .i64 (chkG pg n f b ev)]) ∧ Below w.heap.size w w' := by
  have HC := Lib.hid (fun W => gcheck_any pg n f b ev W)
  have HR := Lib.hid (fun W => runs_any pg n f b ev W)
  have hb0 := ((Below.refl w.heap.size w).alloc (Nat.le_refl _) (.cells (planC pg n f b ev) 25)).alloc (by simp) (.cells #[.int .i64 0] 3)
  have kP := (Blk.new w 25 (planC pg n f b ev)).alloc (.cells #[.int .i64 0] 3)
  have kU := Blk.new (w.alloc (.cells (planC pg n f b ev) 25)) 3 #[.int .i64 0]
  rw [World.size_alloc] at kU
  have cP := kP.cell
  have fU := kU.frozen
  have cU := kU.cell
  unfold countF
  by_cases hc : chkG pg n f b ev = 0
  · have hp := chkG_zero.1 hc
    rw [hc] at HC ⊢
    rw [if_pos rfl]
    have HSQ := Lib.hid (fun w1 => runs_start (w1 := w1) hp)
    have hvl := (runsL_can hp).1
    have hlen := (runsL_can hp).len
    generalize runsL pg n f b ev = L at *
    obtain ⟨sm, hSM0⟩ : ∃ z, sumS L = z := ⟨_, rfl⟩
    rw [hSM0]
    have hSM := Lib.hid hSM0
    clear hSM0
    refine calls_of_marks Try.func30 rfl ?_
    simp only [Try.ntmps30, List.size_toArray, List.length_cons, List.length_nil, Nat.reduceAdd, Nat.reduceSub, Array.replicate_succ, Array.replicate_zero, List.push_toArray, List.append_toArray, List.nil_append, List.cons_append]
    go_wp2_with (first
      | (go_at_call 32; refine (HC.out _).mono ?_; rintro e w1 ⟨rfl, hq⟩; have kP1 := kP.call hq; have kU1 := kU.call hq; have cP1 := kP1.cell; have hb1 := hb0.trans (hq.mono hb0.size))
      | (go_at_call 68; refine (HR.out _).mono ?_; rintro e w2 ⟨rfl, rfl⟩))
    obtain ⟨s, hs⟩ : ∃ s, w.heap.size = s := ⟨_, rfl⟩
    rw [hs] at hb0 hb1 kP1 kU1 ⊢
    have hsz1 := hb1.size
    obtain ⟨W0, hW0⟩ : ∃ W0, w1.alloc (.cells (planC pg n f b ev) 25) = W0 := ⟨_, rfl⟩
    have hs0 : W0.heap.size = w1.heap.size + 1 := by rw [← hW0]; simp
    have kP0 : Blk W0 s 25 (planC pg n f b ev) := by rw [← hW0]; exact kP1.alloc _
    have kU0 : Blk W0 (s + 1) 3 #[.int .i64 0] := by rw [← hW0]; exact kU1.alloc _
    have hB0 : Below s w W0 := by rw [← hW0]; exact hb1.alloc (by omega) _
    have hseq := HSQ.out w1
    rw [hW0] at hseq ⊢
    clear hW0
    have ls1 := kU1.lt
    refine rangeFB 6 14 40 (gf := 102) (lb := #[.pointer (some ⟨w1.heap.size, 0, none⟩)]) rfl runs_enters hseq rfl (fun _ h => h.elim) (fun k h => by omega)
      (fun pre W => Blk W (s + 1) 3 #[.int .i64 (sumS pre)] ∧ Blk W s 25 (planC pg n f b ev) ∧ Below s w W) (fun _ _ _ => False)
      (fun pre A B h hf => ⟨hf.blk h.1 (by rintro (h | h | h) <;> omega), hf.blk h.2.1 (by rintro (h | h | h) <;> omega), h.2.2.trans (hf.below (Nat.le_trans (by omega) h.2.2.size) (fun k hk => by rintro (h | h | h) <;> omega))⟩)
      (fun _ _ _ _ h _ => h.elim) ⟨kU0, kP0, hB0⟩ ?assign ?body ?done (fun _ _ _ _ _ h _ => h.elim)
    case assign =>
      intro m l x W C hC
      simp only [List.setIfInBounds_toArray, List.set_cons_succ, List.set_cons_zero] at hC ⊢
      gi_wp2
      exact hC
    case body =>
      rintro m l pre x Bx Wa W hsz ⟨kU, kP, hB⟩ hpre hBx kx _ _ _
      simp only [List.setIfInBounds_toArray, List.set_cons_succ, List.set_cons_zero]
      have hvx := vld_iff.1 (hvl x (prefix_mem hpre (by simp)))
      have hsb := sumS_bound pre (fun y hy => hvl y (prefix_mem hpre (by simp [hy])))
      have hpl : pre.length ≤ 512 := by have := hpre.length_le; simp at this; omega
      have hsn := Lib.hid (sumS_snoc pre x)
      obtain ⟨xa, xb⟩ := x
      dsimp only at kx hvx hsn
      generalize sumS pre = sp at *
      have cx := kx.cell
      have cU := kU.cell
      have fU := kU.frozen
      gi_wp2_with fail
      have hf4 : Far (fun k => k = s + 1) W (W.setCell ⟨s + 1, 0, none⟩ (.int .i64 (sp + xb))) := Far.setCell (T := fun k => k = s + 1) (p := ⟨s + 1, 0, none⟩) (Far.refl _ _) (fun _ => rfl) _
      show Far _ _ _ ∧ (Blk _ _ _ #[.int .i64 (sumS (pre ++ [(xa, xb)]))] ∧ _ ∧ _)
      rw [hsn.out]
      exact ⟨hf4.mono fun k _ h => by omega, kU.set_ 0 _, hf4.blk kP (by omega), hB.trans (hf4.below (by have := hB.size; omega) (fun k hk => by omega))⟩
    case done =>
      rintro W hsz ⟨kU, kP, hB⟩ hd
      have hsb := sumS_bound L (fun y hy => hvl y hy)
      have hn1 := hp.n1
      have hn0 := hp.n0
      have hp0 := hp.pg0
      rw [hSM.out] at hsb kU
      rw [hs0] at hd hsz
      go_upto_region 7 with fail
      refine wp_noPanic ?_
      refine wp_region_T (CntS s n sm) [] (by kernel_rfl) ?_
      have hS : CntS s n sm W.drew := ⟨kU.cell 0, kP.cell 1⟩
      refine' wpAnyT_take (i := 0) (v := _) ?hiT0 (by kernel_rfl) ?hQT0 (Or.inl ⟨?hwT0, ?hyT0⟩) hS ?reT0
      case hiT0 => (simp only [List.getElem?_toArray, List.getElem?_cons_zero]; rfl)
      case hQT0 => exact fun _ _ _ h => h
      case hwT0 => rfl
      case hyT0 => (intro wS hSw; obtain ⟨_, _⟩ := hSw; go_simp; (try with_reducible rfl))
      try simp only [Act.put, List.setIfInBounds_toArray, List.set_cons_zero, List.set_cons_succ]
      refine' wpAnyT_take (i := 1) (v := _) ?hiT1 (by kernel_rfl) ?hQT1 (Or.inl ⟨?hwT1, ?hyT1⟩) hS ?reT1
      case hiT1 => (simp only [List.getElem?_toArray, List.getElem?_cons_succ, List.getElem?_cons_zero]; rfl)
      case hQT1 => exact fun _ _ _ h => h
      case hwT1 => rfl
      case hyT1 => (intro wS hSw; obtain ⟨_, _⟩ := hSw; go_simp; (try with_reducible rfl))
      try simp only [Act.put, List.setIfInBounds_toArray, List.set_cons_zero, List.set_cons_succ]
      refine' wpAnyT_take (i := 2) (v := _) ?hiT2 (by kernel_rfl) ?hQT2 (Or.inl ⟨?hwT2, ?hyT2⟩) hS ?reT2
      case hiT2 => (simp only [List.getElem?_toArray, List.getElem?_cons_succ, List.getElem?_cons_zero]; rfl)
      case hQT2 => exact fun _ _ _ h => h
      case hwT2 => rfl
      case hyT2 => (intro wS hSw; obtain ⟨_, _⟩ := hSw; go_simp; (try with_reducible rfl))
      try simp only [Act.put, List.setIfInBounds_toArray, List.set_cons_zero, List.set_cons_succ]
      refine' wpAnyT_take (i := 3) (v := _) ?hiT3 (by kernel_rfl) ?hQT3 (Or.inl ⟨?hwT3, ?hyT3⟩) hS ?reT3
      case hiT3 => (simp only [List.getElem?_toArray, List.getElem?_cons_succ, List.getElem?_cons_zero]; rfl)
      case hQT3 => exact fun _ _ _ h => h
      case hwT3 => rfl
      case hyT3 => (intro wS hSw; obtain ⟨_, _⟩ := hSw; go_simp; (try with_reducible rfl))
      try simp only [Act.put, List.setIfInBounds_toArray, List.set_cons_zero, List.set_cons_succ]
      refine' wpAnyT_take (i := 4) (v := _) ?hiT4 (by kernel_rfl) ?hQT4 (Or.inl ⟨?hwT4, ?hyT4⟩) hS ?reT4
      case hiT4 => (simp only [List.getElem?_toArray, List.getElem?_cons_succ, List.getElem?_cons_zero]; rfl)
      case hQT4 => exact fun _ _ _ h => h
      case hwT4 => rfl
      case hyT4 => (intro wS hSw; obtain ⟨_, _⟩ := hSw; go_simp; (try with_reducible rfl))
      try simp only [Act.put, List.setIfInBounds_toArray, List.set_cons_zero, List.set_cons_succ]
      rw [IntWalk.i64_in (n - sm) (by omega)]
      refine wpAnyT_ready (rs := [5]) (by kernel_rfl) (by simp) ?_
      refine' AllReadyT.cons ?hi5 (fun K hK => ?st5) AllReadyT.nil
      case hi5 => (simp only [List.getElem?_toArray, List.getElem?_cons_succ, List.getElem?_cons_zero]; rfl)
      have kUd := kU.drew
      have cU := kUd.cell
      have fU := kUd.frozen
      go_simp
      have hf5 : Far (fun k => k = s + 1) W (W.setCell ⟨s + 1, 0, none⟩ (.int .i64 sm)).drew := Far.drew (Far.setCell (T := fun k => k = s + 1) (p := ⟨s + 1, 0, none⟩) (Far.refl _ _) (fun _ => rfl) _)
      have kU5 : Blk (W.setCell ⟨s + 1, 0, none⟩ (.int .i64 sm)).drew (s + 1) 3 #[.int .i64 sm] := (kU.set_ 0 (.int .i64 sm)).drew
      have kP5 := hf5.blk kP (by omega)
      refine hK.out _ _ (fun _ => ⟨kU5.cell 0, kP5.cell 1⟩) (fun hS => ?_)
      clear hK K
      replace hS := hS rfl
      have hd5 := hf5.same hd (by omega)
      have hB5 := hB.trans (hf5.below (by have := hB.size; omega) (fun k hk => by omega))
      generalize (W.setCell ⟨s + 1, 0, none⟩ (.int .i64 sm)).drew = w5 at *
      try simp only [Act.put, List.setIfInBounds_toArray, List.set_cons_zero, List.set_cons_succ]
      refine' wpAnyT_take (i := 6) (v := _) ?hiT6g (by kernel_rfl) ?hQT6g (Or.inl ⟨?hwT6g, ?hyT6g⟩) hS ?reT6g
      case hiT6g => (simp only [List.getElem?_toArray, List.getElem?_cons_succ, List.getElem?_cons_zero]; rfl)
      case hQT6g => exact fun _ _ _ h => h
      case hwT6g => rfl
      case hyT6g => (intro wS hSw; obtain ⟨_, _⟩ := hSw; go_simp; (try with_reducible rfl))
      try simp only [Act.put, List.setIfInBounds_toArray, List.set_cons_zero, List.set_cons_succ]
      refine' wpAnyT_take (i := 7) (v := _) ?hiT7g (by kernel_rfl) ?hQT7g (Or.inl ⟨?hwT7g, ?hyT7g⟩) hS ?reT7g
      case hiT7g => (simp only [List.getElem?_toArray, List.getElem?_cons_succ, List.getElem?_cons_zero]; rfl)
      case hQT7g => exact fun _ _ _ h => h
      case hwT7g => rfl
      case hyT7g => (intro wS hSw; obtain ⟨_, _⟩ := hSw; go_simp; (try with_reducible rfl))
      try simp only [Act.put, List.setIfInBounds_toArray, List.set_cons_zero, List.set_cons_succ]
      refine wpAnyT_done (by kernel_rfl) ?_ _
      refine noPanic_normal ?_
      have c5 := kU5.cell
      go_wp2_with fail
      have hfp : Far (fun k => k = w1.heap.size + 1) w5 (w5.putObj (w1.heap.size + 1) (.deferred none)) := Far.putObj (T := fun k => k = w1.heap.size + 1) (Far.refl _ _) (fun _ => rfl) _
      have kU6 := hfp.blk kU5 (by omega)
      have c6 := kU6.cell
      exact leave_mark (v := .tuple #[.int .i64 sm, .int .i64 (n - sm), .int .i64 0]) hd5 (by simp [results, Try.results30, go_sem, c6]) ⟨rfl, (by rw [hs]; exact (hB5).trans (hfp.below (by have := (hB5).size; omega) (fun k hk => by omega)))⟩
  · rw [if_neg hc]
    generalize chkG pg n f b ev = er at *
    have hc' : (er != 0) = true := by simpa using hc
    clear hc
    refine calls_of_marks Try.func30 rfl ?_
    simp only [Try.ntmps30, List.size_toArray, List.length_cons, List.length_nil, Nat.reduceAdd, Nat.reduceSub, Array.replicate_succ, Array.replicate_zero, List.push_toArray, List.append_toArray, List.nil_append, List.cons_append]
    go_wp2_with (go_at_call 32; refine (HC.out _).mono ?_; rintro e w1 ⟨rfl, hq⟩; have kU1 := kU.call hq; have cU1 := kU1.cell; have fU1 := kU1.frozen; have hb1 := hb0.trans (hq.mono hb0.size))
    have kU2 := kU1.set_ 0 (.int .i64 0)
    have cU2 := kU2.cell
    exact leave_none (v := .tuple #[.int .i64 0, .int .i64 0, .int .i64 er]) (by simp [results, Try.results30, go_sem, cU2]) ⟨rfl, hb1.setCell (p := ⟨w.heap.size + 1, 0, none⟩) (by simp) _⟩
set_option maxRecDepth 100000 in
set_option maxHeartbeats 1600000 in
theorem nth_any (pg n f b ev i : Int) (w : World) (hi0 : -9223372036854775808 ≤ i) (hi1 : i ≤ 9223372036854775807) (R : Int × Int) (hR : (if chkG pg n f b ev = 0 then nthF (runsL pg n f b ev) i else (0, chkG pg n f b ev)) = R) :
    Calls Try.prog 17 #[planV pg n f b ev, .int .i64 i] w fun e w' => e = .returned (.tuple #[.int .i64 R.1, .int .i64 R.2]) ∧ Below w.heap.size w w' := by
  have HC := Lib.hid (fun W => gcheck_any pg n f b ev W)
  have HR := Lib.hid (fun W => runs_any pg n f b ev W)
  obtain ⟨s, hs⟩ : ∃ s, w.heap.size = s := ⟨_, rfl⟩
  obtain ⟨Wb, hWb⟩ : ∃ Wb, (((w.alloc (.cells (planC pg n f b ev) 25)).alloc (.cells #[.int .i64 i] 3)).alloc (.cells #[.int .i64 0] 3)).alloc (.cells #[.int .i64 0] 26) = Wb := ⟨_, rfl⟩
  have hb0 : Below s w Wb := by rw [← hWb, ← hs]; exact ((((Below.refl w.heap.size w).alloc (Nat.le_refl _) _).alloc (by simp) _).alloc (by simp; omega) _).alloc (by simp; omega) _
  have kP : Blk Wb s 25 (planC pg n f b ev) := by rw [← hWb, ← hs]; exact (((Blk.new _ _ _).alloc _).alloc _).alloc _
  have kI : Blk Wb (s + 1) 3 #[.int .i64 i] := by
    rw [← hWb, ← hs]; have := Blk.new (w.alloc (.cells (planC pg n f b ev) 25)) 3 #[.int .i64 i]
    rw [World.size_alloc] at this; exact (this.alloc _).alloc _
  have kO : Blk Wb (s + 2) 3 #[.int .i64 0] := by
    rw [← hWb, ← hs]; have := Blk.new ((w.alloc (.cells (planC pg n f b ev) 25)).alloc (.cells #[.int .i64 i] 3)) 3 #[.int .i64 0]
    simp only [World.size_alloc] at this; exact this.alloc _
  have kE : Blk Wb (s + 3) 26 #[.int .i64 0] := by
    rw [← hWb, ← hs]; have := Blk.new (((w.alloc (.cells (planC pg n f b ev) 25)).alloc (.cells #[.int .i64 i] 3)).alloc (.cells #[.int .i64 0] 3)) 26 #[.int .i64 0]
    simp only [World.size_alloc] at this; exact this
  have hW1 : Hid ((((w.alloc (.cells (planC pg n f b ev) 25)).alloc (.cells #[.int .i64 i] 3)).alloc (.cells #[.int .i64 0] 3)).alloc (.cells #[.int .i64 0] 26) = Wb) := Lib.hid hWb
  clear hWb
  have HR1 := Lib.hid hR
  clear hR
  by_cases hc : chkG pg n f b ev = 0
  case neg =>
    rw [if_neg hc] at HR1
    generalize chkG pg n f b ev = er at *
    have hc' : (er != 0) = true := by simpa using hc
    have hE1 : Hid (R = (0, er)) := Lib.hid HR1.out.symm
    clear hc HR1
    have cP := kP.cell
    refine calls_of_marks Try.func17 rfl ?_
    simp only [Try.ntmps17, List.size_toArray, List.length_cons, List.length_nil, Nat.reduceAdd, Nat.reduceSub, Array.replicate_succ, Array.replicate_zero, List.push_toArray, List.append_toArray, List.nil_append, List.cons_append]
    go_upto_region 1 with fail
    simp only [Nat.add_assoc, Nat.reduceAdd]
    rw [hW1.out]
    go_wp2_with (go_at_call 32; refine (HC.out _).mono ?_; rintro e w1 ⟨rfl, hq⟩; have kO1 := kO.call hq; have kE1 := kE.call hq; have cO1 := kO1.cell; have fO1 := kO1.frozen; have cE1 := kE1.cell; have fE1 := kE1.frozen; have hb1 := hb0.trans (hq.mono (by have := hb0.size; omega)))
    obtain ⟨k2, k3, hf2⟩ := two_set (by omega) kO1 kE1 (.int .i64 0) (.int .i64 er)
    have c2 := k2.cell
    have c3 := k3.cell
    exact leave_none (v := .tuple #[.int .i64 0, .int .i64 er]) (by simp [results, Try.results17, go_sem, c2, c3]) ⟨by rw [hE1.out], by rw [hs]; exact hb1.trans (hf2.below (by have := hb1.size; omega) (fun k hk => by omega))⟩
  case pos =>
    have hp := chkG_zero.1 hc
    rw [hc] at HC
    rw [if_pos hc] at HR1
    have HSQ := Lib.hid (fun w1 => runs_start (w1 := w1) hp)
    have hvl := (runsL_can hp).1
    have hlen := (runsL_can hp).len
    clear hc
    generalize runsL pg n f b ev = L at *
    have cP := kP.cell
    refine calls_of_marks Try.func17 rfl ?_
    simp only [Try.ntmps17, List.size_toArray, List.length_cons, List.length_nil, Nat.reduceAdd, Nat.reduceSub, Array.replicate_succ, Array.replicate_zero, List.push_toArray, List.append_toArray, List.nil_append, List.cons_append]
    go_upto_region 1 with fail
    simp only [Nat.add_assoc, Nat.reduceAdd]
    rw [hW1.out]
    go_wp2_with (first
      | (go_at_call 32; refine (HC.out _).mono ?_; rintro e w1 ⟨rfl, hq⟩; have kP1 := kP.call hq; have kI1 := kI.call hq; have kO1 := kO.call hq; have kE1 := kE.call hq; have cP1 := kP1.cell; have hb1 := hb0.trans (hq.mono (by have := hb0.size; omega)))
      | (go_at_call 68; refine (HR.out _).mono ?_; rintro e w2 ⟨rfl, rfl⟩))
    obtain ⟨W0, hW0⟩ : ∃ W0, w1.alloc (.cells (planC pg n f b ev) 25) = W0 := ⟨_, rfl⟩
    have hs0 : W0.heap.size = w1.heap.size + 1 := by rw [← hW0]; simp
    have hB0 : Below s w W0 := by rw [← hW0]; exact hb1.alloc (by have := hb1.size; omega) _
    have hF0 : Far (fun _ => False) w1 W0 := by rw [← hW0]; exact (Far.refl _ _).alloc _
    have hseq := HSQ.out w1
    rw [hW0] at hseq ⊢
    clear hW0
    have kI0 := hF0.blk kI1 id
    have kO0 := hF0.blk kO1 id
    have kE0 := hF0.blk kE1 id
    have ls1 := kE1.lt
    have hszw := hb1.size
    refine rangeFB 7 15 40 (gf := 102) (lb := #[.pointer (some ⟨w1.heap.size, 0, none⟩)]) rfl runs_enters hseq rfl (fun _ h => h.elim) (fun k h => by omega)
      (fun pre W => Blk W (s + 1) 3 #[.int .i64 (i - sumS pre)] ∧ Blk W (s + 2) 3 #[.int .i64 0] ∧ Blk W (s + 3) 26 #[.int .i64 0] ∧ Below s w W ∧ Hid ((pre ≠ [] → 0 ≤ i - sumS pre) ∧ ∀ rest, L = pre ++ rest → nthF L i = nthF rest (i - sumS pre)))
      (fun c pre W => ((c = .ret ∧ Blk W (s + 2) 3 #[.int .i64 R.1] ∧ Blk W (s + 3) 26 #[.int .i64 R.2]) ∨ (c = .exit 0 ∧ Blk W (s + 2) 3 #[.int .i64 0] ∧ Blk W (s + 3) 26 #[.int .i64 0] ∧ Hid (R = (0, 7)))) ∧ Below s w W)
      (fun pre A B h hf => ⟨hf.blk h.1 (by rintro (h | h | h) <;> omega), hf.blk h.2.1 (by rintro (h | h | h) <;> omega), hf.blk h.2.2.1 (by rintro (h | h | h) <;> omega), h.2.2.2.1.trans (hf.below (Nat.le_trans (by omega) h.2.2.2.1.size) (fun k hk => by rintro (h | h | h) <;> omega)), h.2.2.2.2⟩)
      (fun c pre A B h hf => ⟨h.1.imp (fun h => ⟨h.1, hf.blk h.2.1 (by rintro (h | h | h) <;> omega), hf.blk h.2.2 (by rintro (h | h | h) <;> omega)⟩) (fun h => ⟨h.1, hf.blk h.2.1 (by rintro (h | h | h) <;> omega), hf.blk h.2.2.1 (by rintro (h | h | h) <;> omega), h.2.2.2⟩), h.2.trans (hf.below (Nat.le_trans (by omega) h.2.size) (fun k hk => by rintro (h | h | h) <;> omega))⟩)
      ⟨by simpa [sumS] using kI0, kO0, kE0, hB0, Lib.hid ⟨fun h => absurd rfl h, fun rest h => by rw [h]; simp [sumS]⟩⟩ ?assign ?body ?done ?stop
    case assign =>
      intro m l x W C hC
      simp only [List.setIfInBounds_toArray, List.set_cons_succ, List.set_cons_zero] at hC ⊢
      gi_wp2
      exact hC
    case body =>
      rintro m l pre x Bx Wa W hsz ⟨kI, kO, kE, hB, hH⟩ hpre hBx kx _ _ _
      simp only [List.setIfInBounds_toArray, List.set_cons_succ, List.set_cons_zero]
      have hvx := vld_iff.1 (hvl x (prefix_mem hpre (by simp)))
      have hsb := sumS_bound pre (fun y hy => hvl y (prefix_mem hpre (by simp [hy])))
      have hpl : pre.length ≤ 512 := by have := hpre.length_le; simp at this; omega
      have hsn := Lib.hid (sumS_snoc pre x)
      obtain ⟨rest, hrest⟩ := prefix_cons hpre
      have hN := Lib.hid (hH.out.2 _ hrest)
      have hN' := hN
      have hL1 := Lib.hid hrest
      have hv0 := hH.out.1
      clear hrest hpre hH
      obtain ⟨v, hv⟩ : ∃ v, i - sumS pre = v := ⟨_, rfl⟩
      rw [hv] at hN hv0 kI
      have hvb : -9223372036854775808 ≤ v ∧ v ≤ 9223372036854775807 := by
        by_cases h : pre = []
        · subst h; simp [sumS] at hv; omega
        · have := hv0 h; omega
      have hv' := Lib.hid hv
      clear hv hv0 hsb hi0 hi1
      obtain ⟨xa, xb⟩ := x
      dsimp only at kx hvx hsn
      have cx := kx.cell
      have cI := kI.cell
      have fI := kI.frozen
      have cO := kO.cell
      have fO := kO.frozen
      have cE := kE.cell
      have fE := kE.frozen
      by_cases h1 : v < 0
      · have h1' : decide (v < 0) = true := by simpa using h1
        have hE : Hid (R = (0, 7)) := Lib.hid (by rw [← HR1.out, hN.out, nthF, if_pos h1])
        gi_wp2_with fail
        exact ⟨Far.refl _ _, .inr ⟨rfl, kO, kE, hE⟩, hB⟩
      · have h1' : decide (v < 0) = false := by simpa using h1
        by_cases h2 : v < xb
        · have h2' : decide (v < xb) = true := by simpa using h2
          have hE : Hid (R = (xa + v, 0)) := Lib.hid (by rw [← HR1.out, hN.out, nthF, if_neg h1, if_pos h2])
          gi_wp2_with fail
          obtain ⟨k2, k3, hf2⟩ := two_set (by omega) kO kE (.int .i64 (xa + v)) (.int .i64 0)
          exact ⟨hf2.mono fun k _ h => by omega, .inl ⟨rfl, by rw [hE.out]; exact k2, by rw [hE.out]; exact k3⟩, hB.trans (hf2.below (by have := hB.size; omega) (fun k hk => by omega))⟩
        · have h2' : decide (v < xb) = false := by simpa using h2
          have hN2 := Lib.hid (nthF_step hN'.out (by rw [hv'.out]; exact h1) (by rw [hv'.out]; exact h2))
          gi_wp2_with fail
          have hf4 : Far (fun k => k = s + 1) W (W.setCell ⟨s + 1, 0, none⟩ (.int .i64 (v - xb))) := Far.setCell (T := fun k => k = s + 1) (p := ⟨s + 1, 0, none⟩) (Far.refl _ _) (fun _ => rfl) _
          refine ⟨hf4.mono fun k _ h => by omega, ?_, hf4.blk kO (by omega), hf4.blk kE (by omega), hB.trans (hf4.below (by have := hB.size; omega) (fun k hk => by omega)), ?_⟩
          · rw [hsn.out, show i - (sumS pre + xb) = v - xb by have := hv'.out; omega]; exact kI.set_ 0 _
          · refine Lib.hid ⟨fun _ => by rw [hsn.out]; have := hv'.out; omega, fun rest2 h => ?_⟩
            have hr2 : rest2 = rest := by rw [hL1.out] at h; simpa using h.symm
            rw [hr2]; exact hN2.out
    case done =>
      rintro W hsz ⟨kI, kO, kE, hB, hH⟩ hd
      rw [hs0] at hd hsz
      have hE : Hid (R = (0, 7)) := Lib.hid (by rw [← HR1.out, hH.out.2 [] (by simp)]; rfl)
      have cO := kO.cell
      have fO := kO.frozen
      have cE := kE.cell
      have fE := kE.frozen
      go_wp2_with fail
      obtain ⟨k2, k3, hf2⟩ := two_set (by omega) kO kE (.int .i64 0) (.int .i64 7)
      have hd2 := hf2.same hd (by omega)
      have hB2 := hB.trans (hf2.below (by have := hB.size; omega) (fun k hk => by omega))
      generalize ((W.setCell ⟨s + 2, 0, none⟩ (.int .i64 0)).setCell ⟨s + 3, 0, none⟩ (.int .i64 7)) = w5 at *
      rw [hs0]
      have hfp : Far (fun k => k = w1.heap.size + 1) w5 (World.putObj w5 (w1.heap.size + 1) (.deferred none)) := Far.putObj (T := fun k => k = w1.heap.size + 1) (Far.refl _ _) (fun _ => rfl) _
      have c6 := (hfp.blk k2 (by omega)).cell
      have c7 := (hfp.blk k3 (by omega)).cell
      exact leave_mark (v := .tuple #[.int .i64 (((0 : Int), (7 : Int))).1, .int .i64 (((0 : Int), (7 : Int))).2]) hd2 (by simp [results, Try.results17, go_sem, c6, c7]) ⟨by rw [hE.out], (by rw [hs]; exact (hB2).trans (hfp.below (by have := (hB2).size; omega) (fun k hk => by omega)))⟩
    case stop =>
      rintro c pre W hsz hpre ⟨⟨rfl, kO, kE⟩ | ⟨rfl, kO, kE, hE⟩, hB⟩ hd
      · rw [hs0] at hd hsz
        go_wp2_with fail
        have hE : Hid (R = R) := Lib.hid rfl
        rw [hs0]
        have hfp : Far (fun k => k = w1.heap.size + 1) W (World.putObj W (w1.heap.size + 1) (.deferred none)) := Far.putObj (T := fun k => k = w1.heap.size + 1) (Far.refl _ _) (fun _ => rfl) _
        have c6 := (hfp.blk kO (by omega)).cell
        have c7 := (hfp.blk kE (by omega)).cell
        exact leave_mark (v := .tuple #[.int .i64 (R).1, .int .i64 (R).2]) hd (by simp [results, Try.results17, go_sem, c6, c7]) ⟨by rw [hE.out], (by rw [hs]; exact (hB).trans (hfp.below (by have := (hB).size; omega) (fun k hk => by omega)))⟩
      · rw [hs0] at hd hsz
        have cO := kO.cell
        have fO := kO.frozen
        have cE := kE.cell
        have fE := kE.frozen
        go_wp2_with fail
        obtain ⟨k2, k3, hf2⟩ := two_set (by omega) kO kE (.int .i64 0) (.int .i64 7)
        have hd2 := hf2.same hd (by omega)
        have hB2 := hB.trans (hf2.below (by have := hB.size; omega) (fun k hk => by omega))
        generalize ((W.setCell ⟨s + 2, 0, none⟩ (.int .i64 0)).setCell ⟨s + 3, 0, none⟩ (.int .i64 7)) = w5 at *
        rw [hs0]
        have hfp : Far (fun k => k = w1.heap.size + 1) w5 (World.putObj w5 (w1.heap.size + 1) (.deferred none)) := Far.putObj (T := fun k => k = w1.heap.size + 1) (Far.refl _ _) (fun _ => rfl) _
        have c6 := (hfp.blk k2 (by omega)).cell
        have c7 := (hfp.blk k3 (by omega)).cell
        exact leave_mark (v := .tuple #[.int .i64 (((0 : Int), (7 : Int))).1, .int .i64 (((0 : Int), (7 : Int))).2]) hd2 (by simp [results, Try.results17, go_sem, c6, c7]) ⟨by rw [hE.out], (by rw [hs]; exact (hB2).trans (hfp.below (by have := (hB2).size; omega) (fun k hk => by omega)))⟩

set_option maxRecDepth 100000 in
set_option maxHeartbeats 1600000 in
theorem index_any (pg n f b ev page : Int) (w : World) (R : Int × Int) (hR : (if chkG pg n f b ev = 0 then idxF page 0 (runsL pg n f b ev) else (0, chkG pg n f b ev)) = R) :
    Calls Try.prog 19 #[planV pg n f b ev, .int .i64 page] w fun e w' => e = .returned (.tuple #[.int .i64 R.1, .int .i64 R.2]) ∧ Below w.heap.size w w' := by
  have HC := Lib.hid (fun W => gcheck_any pg n f b ev W)
  have HR := Lib.hid (fun W => runs_any pg n f b ev W)
  obtain ⟨s, hs⟩ : ∃ s, w.heap.size = s := ⟨_, rfl⟩
  obtain ⟨Wb, hWb⟩ : ∃ Wb, (((w.alloc (.cells (planC pg n f b ev) 25)).alloc (.cells #[.int .i64 page] 3)).alloc (.cells #[.int .i64 0] 3)).alloc (.cells #[.int .i64 0] 26) = Wb := ⟨_, rfl⟩
  have hb0 : Below s w Wb := by rw [← hWb, ← hs]; exact ((((Below.refl w.heap.size w).alloc (Nat.le_refl _) _).alloc (by simp) _).alloc (by simp; omega) _).alloc (by simp; omega) _
  have kP : Blk Wb s 25 (planC pg n f b ev) := by rw [← hWb, ← hs]; exact (((Blk.new _ _ _).alloc _).alloc _).alloc _
  have kI : Blk Wb (s + 1) 3 #[.int .i64 page] := by
    rw [← hWb, ← hs]; have := Blk.new (w.alloc (.cells (planC pg n f b ev) 25)) 3 #[.int .i64 page]
    rw [World.size_alloc] at this; exact (this.alloc _).alloc _
  have kO : Blk Wb (s + 2) 3 #[.int .i64 0] := by
    rw [← hWb, ← hs]; have := Blk.new ((w.alloc (.cells (planC pg n f b ev) 25)).alloc (.cells #[.int .i64 page] 3)) 3 #[.int .i64 0]
    simp only [World.size_alloc] at this; exact this.alloc _
  have kE : Blk Wb (s + 3) 26 #[.int .i64 0] := by
    rw [← hWb, ← hs]; have := Blk.new (((w.alloc (.cells (planC pg n f b ev) 25)).alloc (.cells #[.int .i64 page] 3)).alloc (.cells #[.int .i64 0] 3)) 26 #[.int .i64 0]
    simp only [World.size_alloc] at this; exact this
  have hW1 : Hid ((((w.alloc (.cells (planC pg n f b ev) 25)).alloc (.cells #[.int .i64 page] 3)).alloc (.cells #[.int .i64 0] 3)).alloc (.cells #[.int .i64 0] 26) = Wb) := Lib.hid hWb
  clear hWb
  have HR1 := Lib.hid hR
  clear hR
  by_cases hc : chkG pg n f b ev = 0
  case neg =>
    rw [if_neg hc] at HR1
    generalize chkG pg n f b ev = er at *
    have hc' : (er != 0) = true := by simpa using hc
    have hE1 : Hid (R = (0, er)) := Lib.hid HR1.out.symm
    clear hc HR1
    have cP := kP.cell
    refine calls_of_marks Try.func19 rfl ?_
    simp only [Try.ntmps19, List.size_toArray, List.length_cons, List.length_nil, Nat.reduceAdd, Nat.reduceSub, Array.replicate_succ, Array.replicate_zero, List.push_toArray, List.append_toArray, List.nil_append, List.cons_append]
    go_upto_region 1 with fail
    simp only [Nat.add_assoc, Nat.reduceAdd]
    rw [hW1.out]
    go_wp2_with (go_at_call 32; refine (HC.out _).mono ?_; rintro e w1 ⟨rfl, hq⟩; have kO1 := kO.call hq; have kE1 := kE.call hq; have cO1 := kO1.cell; have fO1 := kO1.frozen; have cE1 := kE1.cell; have fE1 := kE1.frozen; have hb1 := hb0.trans (hq.mono (by have := hb0.size; omega)))
    obtain ⟨k2, k3, hf2⟩ := two_set (by omega) kO1 kE1 (.int .i64 0) (.int .i64 er)
    have c2 := k2.cell
    have c3 := k3.cell
    exact leave_none (v := .tuple #[.int .i64 0, .int .i64 er]) (by simp [results, Try.results19, go_sem, c2, c3]) ⟨by rw [hE1.out], by rw [hs]; exact hb1.trans (hf2.below (by have := hb1.size; omega) (fun k hk => by omega))⟩
  case pos =>
    have hp := chkG_zero.1 hc
    rw [hc] at HC
    rw [if_pos hc] at HR1
    have HSQ := Lib.hid (fun w1 => runs_start (w1 := w1) hp)
    have hvl := (runsL_can hp).1
    have hlen := (runsL_can hp).len
    clear hc
    generalize runsL pg n f b ev = L at *
    have cP := kP.cell
    refine calls_of_marks Try.func19 rfl ?_
    simp only [Try.ntmps19, List.size_toArray, List.length_cons, List.length_nil, Nat.reduceAdd, Nat.reduceSub, Array.replicate_succ, Array.replicate_zero, List.push_toArray, List.append_toArray, List.nil_append, List.cons_append]
    go_upto_region 1 with fail
    simp only [Nat.add_assoc, Nat.reduceAdd]
    rw [hW1.out]
    go_wp2_with (first
      | (go_at_call 32; refine (HC.out _).mono ?_; rintro e w0 ⟨rfl, hq⟩; have kP1 := (kP.call hq).alloc (.cells #[.int .i64 0] 3); have kI1 := (kI.call hq).alloc (.cells #[.int .i64 0] 3); have kO1 := (kO.call hq).alloc (.cells #[.int .i64 0] 3); have kE1 := (kE.call hq).alloc (.cells #[.int .i64 0] 3); have kN1 := Blk.new w0 3 #[.int .i64 0]; have cP1 := kP1.cell; have ls1 := (kE.call hq).lt; have hb1 := (hb0.trans (hq.mono (by have := hb0.size; omega))).alloc (by have := hb0.size; have := hq.size; omega) (.cells #[.int .i64 0] 3))
      | (go_at_call 68; refine (HR.out _).mono ?_; rintro e w2 ⟨rfl, rfl⟩))
    obtain ⟨w1, hw1⟩ : ∃ w1, w0.alloc (.cells #[.int .i64 0] 3) = w1 := ⟨_, rfl⟩
    have hsw : w1.heap.size = w0.heap.size + 1 := by rw [← hw1]; simp
    obtain ⟨nb, hnb⟩ : ∃ nb, w0.heap.size = nb := ⟨_, rfl⟩
    simp only [hnb] at hsw ls1 kN1 ⊢
    rw [hw1] at hb1 kP1 kI1 kO1 kE1 kN1 ⊢
    rw [show nb + 1 = w1.heap.size from hsw.symm]
    clear hw1 hnb
    obtain ⟨W0, hW0⟩ : ∃ W0, w1.alloc (.cells (planC pg n f b ev) 25) = W0 := ⟨_, rfl⟩
    have hs0 : W0.heap.size = w1.heap.size + 1 := by rw [← hW0]; simp
    have hB0 : Below s w W0 := by rw [← hW0]; exact hb1.alloc (by have := hb1.size; omega) _
    have hF0 : Far (fun _ => False) w1 W0 := by rw [← hW0]; exact (Far.refl _ _).alloc _
    have hseq := HSQ.out w1
    rw [hW0] at hseq ⊢
    clear hW0
    have kI0 := hF0.blk kI1 id
    have kO0 := hF0.blk kO1 id
    have kE0 := hF0.blk kE1 id
    have kN0 := hF0.blk kN1 id
    have hszw := hb1.size
    refine rangeFB 8 16 40 (gf := 102) (lb := #[.pointer (some ⟨w1.heap.size, 0, none⟩)]) rfl runs_enters hseq rfl (fun _ h => h.elim) (fun k h => by omega)
      (fun pre W => Blk W nb 3 #[.int .i64 (sumS pre)] ∧ Blk W (s + 1) 3 #[.int .i64 page] ∧ Blk W (s + 2) 3 #[.int .i64 0] ∧ Blk W (s + 3) 26 #[.int .i64 0] ∧ Below s w W ∧ Hid (∀ rest, L = pre ++ rest → idxF page 0 L = idxF page (sumS pre) rest))
      (fun c pre W => c = .ret ∧ Blk W (s + 2) 3 #[.int .i64 R.1] ∧ Blk W (s + 3) 26 #[.int .i64 R.2] ∧ Below s w W)
      (fun pre A B h hf => ⟨hf.blk h.1 (by rintro (h | h | h) <;> omega), hf.blk h.2.1 (by rintro (h | h | h) <;> omega), hf.blk h.2.2.1 (by rintro (h | h | h) <;> omega), hf.blk h.2.2.2.1 (by rintro (h | h | h) <;> omega), h.2.2.2.2.1.trans (hf.below (Nat.le_trans (by omega) h.2.2.2.2.1.size) (fun k hk => by rintro (h | h | h) <;> omega)), h.2.2.2.2.2⟩)
      (fun c pre A B h hf => ⟨h.1, hf.blk h.2.1 (by rintro (h | h | h) <;> omega), hf.blk h.2.2.1 (by rintro (h | h | h) <;> omega), h.2.2.2.trans (hf.below (Nat.le_trans (by omega) h.2.2.2.size) (fun k hk => by rintro (h | h | h) <;> omega))⟩)
      ⟨by simpa [sumS] using kN0, kI0, kO0, kE0, hB0, Lib.hid (fun rest h => by rw [h]; simp [sumS])⟩ ?assign ?body ?done ?stop
    case assign =>
      intro m l x W C hC
      simp only [List.setIfInBounds_toArray, List.set_cons_succ, List.set_cons_zero] at hC ⊢
      gi_wp2
      exact hC
    case body =>
      rintro m l pre x Bx Wa W hsz ⟨kN, kI, kO, kE, hB, hH⟩ hpre hBx kx _ _ _
      simp only [List.setIfInBounds_toArray, List.set_cons_succ, List.set_cons_zero]
      have hvx := vld_iff.1 (hvl x (prefix_mem hpre (by simp)))
      have hsb := sumS_bound pre (fun y hy => hvl y (prefix_mem hpre (by simp [hy])))
      have hpl : pre.length ≤ 512 := by have := hpre.length_le; simp at this; omega
      have hsn := Lib.hid (sumS_snoc pre x)
      obtain ⟨rest, hrest⟩ := prefix_cons hpre
      have hN := Lib.hid (hH.out _ hrest)
      have hL1 := Lib.hid hrest
      clear hrest hpre hH
      obtain ⟨v, hv⟩ : ∃ v, sumS pre = v := ⟨_, rfl⟩
      have hv' := Lib.hid hv
      rw [hv] at kN hsb
      clear hv
      obtain ⟨xa, xb⟩ := x
      dsimp only at kx hvx hsn
      have cx := kx.cell
      have cN := kN.cell
      have fN := kN.frozen
      have cI := kI.cell
      have cO := kO.cell
      have fO := kO.frozen
      have cE := kE.cell
      have fE := kE.frozen
      by_cases h1 : xa ≤ page
      · have h1' : decide (xa ≤ page) = true := by simpa using h1
        by_cases h2 : page < xa + xb
        · have h2' : decide (page < xa + xb) = true := by simpa using h2
          have hE : Hid (R = (v + page - xa, 0)) := Lib.hid (by rw [← HR1.out, hN.out, idxF, if_pos ⟨h1, h2⟩, hv'.out])
          gi_wp2_with fail
          obtain ⟨k2, k3, hf2⟩ := two_set (by omega) kO kE (.int .i64 (v + page - xa)) (.int .i64 0)
          exact ⟨hf2.mono fun k _ h => by omega, rfl, by rw [hE.out]; exact k2, by rw [hE.out]; exact k3, hB.trans (hf2.below (by have := hB.size; omega) (fun k hk => by omega))⟩
        · have h2' : decide (page < xa + xb) = false := by simpa using h2
          have hN2 := Lib.hid (idxF_step hN.out (fun h => h2 h.2))
          gi_wp2_with fail
          have hf4 : Far (fun k => k = nb) W (W.setCell ⟨nb, 0, none⟩ (.int .i64 (v + xb))) := Far.setCell (T := fun k => k = nb) (p := ⟨nb, 0, none⟩) (Far.refl _ _) (fun _ => rfl) _
          refine ⟨hf4.mono fun k _ h => by omega, ?_, hf4.blk kI (by omega), hf4.blk kO (by omega), hf4.blk kE (by omega), hB.trans (hf4.below (by have := hB.size; omega) (fun k hk => by omega)), ?_⟩
          · rw [hsn.out, hv'.out]; exact kN.set_ 0 _
          · refine Lib.hid (fun rest2 h => ?_)
            have hr2 : rest2 = rest := by rw [hL1.out] at h; simpa using h.symm
            rw [hr2]; exact hN2.out
      · have h1' : decide (xa ≤ page) = false := by simpa using h1
        have hN2 := Lib.hid (idxF_step hN.out (fun h => h1 h.1))
        gi_wp2_with fail
        have hf4 : Far (fun k => k = nb) W (W.setCell ⟨nb, 0, none⟩ (.int .i64 (v + xb))) := Far.setCell (T := fun k => k = nb) (p := ⟨nb, 0, none⟩) (Far.refl _ _) (fun _ => rfl) _
        refine ⟨hf4.mono fun k _ h => by omega, ?_, hf4.blk kI (by omega), hf4.blk kO (by omega), hf4.blk kE (by omega), hB.trans (hf4.below (by have := hB.size; omega) (fun k hk => by omega)), ?_⟩
        · rw [hsn.out, hv'.out]; exact kN.set_ 0 _
        · refine Lib.hid (fun rest2 h => ?_)
          have hr2 : rest2 = rest := by rw [hL1.out] at h; simpa using h.symm
          rw [hr2]; exact hN2.out
    case done =>
      rintro W hsz ⟨kN, kI, kO, kE, hB, hH⟩ hd
      rw [hs0] at hd hsz
      have hE : Hid (R = (0, 4)) := Lib.hid (by rw [← HR1.out, hH.out [] (by simp)]; rfl)
      have cO := kO.cell
      have fO := kO.frozen
      have cE := kE.cell
      have fE := kE.frozen
      go_wp2_with fail
      obtain ⟨k2, k3, hf2⟩ := two_set (by omega) kO kE (.int .i64 0) (.int .i64 4)
      have hd2 := hf2.same hd (by omega)
      have hB2 := hB.trans (hf2.below (by have := hB.size; omega) (fun k hk => by omega))
      generalize ((W.setCell ⟨s + 2, 0, none⟩ (.int .i64 0)).setCell ⟨s + 3, 0, none⟩ (.int .i64 4)) = w5 at *
      rw [hs0]
      have hfp : Far (fun k => k = w1.heap.size + 1) w5 (World.putObj w5 (w1.heap.size + 1) (.deferred none)) := Far.putObj (T := fun k => k = w1.heap.size + 1) (Far.refl _ _) (fun _ => rfl) _
      have c6 := (hfp.blk k2 (by omega)).cell
      have c7 := (hfp.blk k3 (by omega)).cell
      exact leave_mark (v := .tuple #[.int .i64 (((0 : Int), (4 : Int))).1, .int .i64 (((0 : Int), (4 : Int))).2]) hd2 (by simp [results, Try.results19, go_sem, c6, c7]) ⟨by rw [hE.out], (by rw [hs]; exact (hB2).trans (hfp.below (by have := (hB2).size; omega) (fun k hk => by omega)))⟩
    case stop =>
      rintro c pre W hsz hpre ⟨rfl, kO, kE, hB⟩ hd
      rw [hs0] at hd hsz
      go_wp2_with fail
      have hE : Hid (R = R) := Lib.hid rfl
      rw [hs0]
      have hfp : Far (fun k => k = w1.heap.size + 1) W (World.putObj W (w1.heap.size + 1) (.deferred none)) := Far.putObj (T := fun k => k = w1.heap.size + 1) (Far.refl _ _) (fun _ => rfl) _
      have c6 := (hfp.blk kO (by omega)).cell
      have c7 := (hfp.blk kE (by omega)).cell
      exact leave_mark (v := .tuple #[.int .i64 (R).1, .int .i64 (R).2]) hd (by simp [results, Try.results19, go_sem, c6, c7]) ⟨by rw [hE.out], (by rw [hs]; exact (hB).trans (hfp.below (by have := (hB).size; omega) (fun k hk => by omega)))⟩
end Go.Proofs.Ytfmnlpgboolpmaa
