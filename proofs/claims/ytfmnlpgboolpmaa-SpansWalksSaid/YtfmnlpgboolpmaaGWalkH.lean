/- Walks: Hit and Least of layer 11. -/
import Derived.Test.YtfmnlpgboolpmaaGWalkF
namespace Go.Pol
/-- what is hit at a page that is not usable -/
def hitK (pg n f b q : Int) : Int := if q < pg ∨ pg + n ≤ q then 4 else if q < pg + f then 1 else if pg + n - b ≤ q then 2 else 3
def badHit (a m : Int) : Prop := a < 0 ∨ 65536 < a ∨ m < 1 ∨ 65536 - a < m
instance badHitDec (a m : Int) : Decidable (badHit a m) := by unfold badHit; infer_instance
def hitF (pg n f b ev a m : Int) : Int × Int × Int :=
  if chkG pg n f b ev = 0 then
    if badHit a m then (0, 0, 2)
    else if (a + m - 1) / 64 < skipF (a / 64) (runsL pg n f b ev) then (0, -1, 0)
    else (hitK pg n f b (skipF (a / 64) (runsL pg n f b ev)), skipF (a / 64) (runsL pg n f b ev), 0)
  else (0, 0, chkG pg n f b ev)
theorem skipF_bound : ∀ (l : List Sp) (p : Int), (∀ x ∈ l, vld x = true) → 0 ≤ p ∧ p ≤ 1024 → 0 ≤ skipF p l ∧ skipF p l ≤ 1024
  | [], p, _, h => h
  | x :: r, p, hv, h => by
    have := vld_iff.1 (hv x (by simp))
    rw [skipF]; split
    · omega
    · exact skipF_bound r p (fun y hy => hv y (by simp [hy])) h
end Go.Pol
namespace Go.Proofs.Ytfmnlpgboolpmaa
open Go Go.Proofs Go.RowKit Go.Pol Go.Shelf
attribute [local go_sem] Oper.semAt_some Go.Pol.wide_fn Go.Pol.wide_depth Go.Pol.wide_fn' Go.Pol.wide_depth'

set_option maxRecDepth 100000 in
set_option maxHeartbeats 3200000 in
theorem hit_any (pg n f b ev a m : Int) (w : World) (R : Int × Int × Int) (hR : hitF pg n f b ev a m = R) :
    Calls Try.prog 24 #[planV pg n f b ev, .int .i64 a, .int .i64 m] w fun e w' => e = .returned (.tuple #[.int .i64 R.1, .int .i64 R.2.1, .int .i64 R.2.2]) ∧ Below w.heap.size w w' := by
  have HC := Lib.hid (fun W => gcheck_any pg n f b ev W)
  have HR := Lib.hid (fun W => runs_any pg n f b ev W)
  obtain ⟨s, hs⟩ : ∃ s, w.heap.size = s := ⟨_, rfl⟩
  obtain ⟨Wb, hWb⟩ : ∃ Wb, ((w.alloc (.cells (planC pg n f b ev) 25)).alloc (.cells #[.int .i64 0] 3)) = Wb := ⟨_, rfl⟩
  have hb0 : Below s w Wb := by rw [← hWb, ← hs]; exact ((Below.refl w.heap.size w).alloc (Nat.le_refl _) _).alloc (by simp) _
  have kP : Blk Wb s 25 (planC pg n f b ev) := by rw [← hWb, ← hs]; exact (Blk.new _ _ _).alloc _
  have kQ : Blk Wb (s + 1) 3 #[.int .i64 0] := by
    rw [← hWb, ← hs]; have := Blk.new (w.alloc (.cells (planC pg n f b ev) 25)) 3 #[.int .i64 0]
    rw [World.size_alloc] at this; exact this
  have hW1 : Hid (((w.alloc (.cells (planC pg n f b ev) 25)).alloc (.cells #[.int .i64 0] 3)) = Wb) := Lib.hid hWb
  clear hWb
  have HR1 := Lib.hid hR
  clear hR
  by_cases hc : chkG pg n f b ev = 0
  case neg =>
    have hE1 : Hid (R = (0, 0, chkG pg n f b ev)) := Lib.hid (by rw [← HR1.out, hitF, if_neg hc])
    generalize chkG pg n f b ev = er at *
    have hc' : (er != 0) = true := by simpa using hc
    clear hc HR1
    have cP := kP.cell
    refine calls_of_marks Try.func24 rfl ?_
    simp only [Try.ntmps24, List.size_toArray, List.length_cons, List.length_nil, Nat.reduceAdd, Nat.reduceSub, Array.replicate_succ, Array.replicate_zero, List.push_toArray, List.append_toArray, List.nil_append, List.cons_append]
    go_upto_region 1 with fail
    try simp only [Nat.add_assoc, Nat.reduceAdd]
    rw [hW1.out]
    go_wp2_with (go_at_call 32; refine (HC.out _).mono ?_; rintro e w1 ⟨rfl, hq⟩; have kO1 := kQ.call hq; have cO1 := kO1.cell; have fO1 := kO1.frozen; have hb1 := hb0.trans (hq.mono (by have := hb0.size; omega)))
    have k2 := kO1.set_ 0 (.int .i64 0)
    have c2 := k2.cell
    exact leave_none (v := .tuple #[.int .i64 0, .int .i64 0, .int .i64 er]) (by simp [results, Try.results24, go_sem, c2]) ⟨by rw [hE1.out], by rw [hs]; exact hb1.setCell (p := ⟨s + 1, 0, none⟩) (by simp) _⟩
  case pos =>
    have hp := chkG_zero.1 hc
    have HSQ := Lib.hid (fun w1 => runs_start (w1 := w1) hp)
    have HIN := Lib.hid (fun W => inner_any pg n f b ev W hp)
    have hvl := (runsL_can hp).1
    have hlen := (runsL_can hp).len
    rw [hc] at HC
    by_cases hbad : badHit a m
    · have hE1 : Hid (R = (0, 0, 2)) := Lib.hid (by rw [← HR1.out, hitF, if_pos hc, if_pos hbad])
      clear hc HR1
      have cP := kP.cell
      have kQ' := kQ
      by_cases b1 : a < 0
      · have b1' : decide (a < 0) = true := by simpa using b1
        refine calls_of_marks Try.func24 rfl ?_
        simp only [Try.ntmps24, List.size_toArray, List.length_cons, List.length_nil, Nat.reduceAdd, Nat.reduceSub, Array.replicate_succ, Array.replicate_zero, List.push_toArray, List.append_toArray, List.nil_append, List.cons_append]
        go_upto_region 1 with fail
        try simp only [Nat.add_assoc, Nat.reduceAdd]
        rw [hW1.out]
        go_wp2_with (go_at_call 32; refine (HC.out _).mono ?_; rintro e w1 ⟨rfl, hq⟩; have kO1 := kQ.call hq; have cO1 := kO1.cell; have fO1 := kO1.frozen; have hb1 := hb0.trans (hq.mono (by have := hb0.size; omega)))
        have k2 := kO1.set_ 0 (.int .i64 0)
        have c2 := k2.cell
        exact leave_none (v := .tuple #[.int .i64 0, .int .i64 0, .int .i64 2]) (by simp [results, Try.results24, go_sem, c2]) ⟨by rw [hE1.out], by rw [hs]; exact hb1.setCell (p := ⟨s + 1, 0, none⟩) (by simp) _⟩
      · have b1' : decide (a < 0) = false := by simpa using b1
        by_cases b2 : 65536 < a
        · have b2' : decide (65536 < a) = true := by simpa using b2
          refine calls_of_marks Try.func24 rfl ?_
          simp only [Try.ntmps24, List.size_toArray, List.length_cons, List.length_nil, Nat.reduceAdd, Nat.reduceSub, Array.replicate_succ, Array.replicate_zero, List.push_toArray, List.append_toArray, List.nil_append, List.cons_append]
          go_upto_region 1 with fail
          try simp only [Nat.add_assoc, Nat.reduceAdd]
          rw [hW1.out]
          go_wp2_with (go_at_call 32; refine (HC.out _).mono ?_; rintro e w1 ⟨rfl, hq⟩; have kO1 := kQ.call hq; have cO1 := kO1.cell; have fO1 := kO1.frozen; have hb1 := hb0.trans (hq.mono (by have := hb0.size; omega)))
          have k2 := kO1.set_ 0 (.int .i64 0)
          have c2 := k2.cell
          exact leave_none (v := .tuple #[.int .i64 0, .int .i64 0, .int .i64 2]) (by simp [results, Try.results24, go_sem, c2]) ⟨by rw [hE1.out], by rw [hs]; exact hb1.setCell (p := ⟨s + 1, 0, none⟩) (by simp) _⟩
        · have b2' : decide (65536 < a) = false := by simpa using b2
          by_cases b3 : m < 1
          · have b3' : decide (m < 1) = true := by simpa using b3
            refine calls_of_marks Try.func24 rfl ?_
            simp only [Try.ntmps24, List.size_toArray, List.length_cons, List.length_nil, Nat.reduceAdd, Nat.reduceSub, Array.replicate_succ, Array.replicate_zero, List.push_toArray, List.append_toArray, List.nil_append, List.cons_append]
            go_upto_region 1 with fail
            try simp only [Nat.add_assoc, Nat.reduceAdd]
            rw [hW1.out]
            go_wp2_with (go_at_call 32; refine (HC.out _).mono ?_; rintro e w1 ⟨rfl, hq⟩; have kO1 := kQ.call hq; have cO1 := kO1.cell; have fO1 := kO1.frozen; have hb1 := hb0.trans (hq.mono (by have := hb0.size; omega)))
            have k2 := kO1.set_ 0 (.int .i64 0)
            have c2 := k2.cell
            exact leave_none (v := .tuple #[.int .i64 0, .int .i64 0, .int .i64 2]) (by simp [results, Try.results24, go_sem, c2]) ⟨by rw [hE1.out], by rw [hs]; exact hb1.setCell (p := ⟨s + 1, 0, none⟩) (by simp) _⟩
          · have b3' : decide (m < 1) = false := by simpa using b3
            have b4 : 65536 - a < m := by unfold badHit at hbad; omega
            have b4' : decide (65536 - a < m) = true := by simpa using b4
            refine calls_of_marks Try.func24 rfl ?_
            simp only [Try.ntmps24, List.size_toArray, List.length_cons, List.length_nil, Nat.reduceAdd, Nat.reduceSub, Array.replicate_succ, Array.replicate_zero, List.push_toArray, List.append_toArray, List.nil_append, List.cons_append]
            go_upto_region 1 with fail
            try simp only [Nat.add_assoc, Nat.reduceAdd]
            rw [hW1.out]
            go_wp2_with (go_at_call 32; refine (HC.out _).mono ?_; rintro e w1 ⟨rfl, hq⟩; have kO1 := kQ.call hq; have cO1 := kO1.cell; have fO1 := kO1.frozen; have hb1 := hb0.trans (hq.mono (by have := hb0.size; omega)))
            have k2 := kO1.set_ 0 (.int .i64 0)
            have c2 := k2.cell
            exact leave_none (v := .tuple #[.int .i64 0, .int .i64 0, .int .i64 2]) (by simp [results, Try.results24, go_sem, c2]) ⟨by rw [hE1.out], by rw [hs]; exact hb1.setCell (p := ⟨s + 1, 0, none⟩) (by simp) _⟩
    · have hHR0 : R = if (a + m - 1) / 64 < skipF (a / 64) (runsL pg n f b ev) then (0, -1, 0) else (hitK pg n f b (skipF (a / 64) (runsL pg n f b ev)), skipF (a / 64) (runsL pg n f b ev), 0) := by rw [← HR1.out, hitF, if_pos hc, if_neg hbad]
      unfold badHit at hbad
      have b1 : 0 ≤ a := by omega
      have b2 : a ≤ 65536 := by omega
      have b3 : 1 ≤ m := by omega
      have b4 : m ≤ 65536 - a := by omega
      have b1' : decide (a < 0) = false := by simpa using b1
      have b2' : decide (65536 < a) = false := by simpa using b2
      have b3' : decide (m < 1) = false := by simp; omega
      have b4' : decide (65536 - a < m) = false := by simpa using b4
      have hd1 : Int.tdiv a 64 = a / 64 := Int.tdiv_eq_ediv_of_nonneg b1
      have hd2 : Int.tdiv (a + m - 1) 64 = (a + m - 1) / 64 := Int.tdiv_eq_ediv_of_nonneg (by omega)
      have hpa : 0 ≤ a / 64 ∧ a / 64 ≤ 1024 := by omega
      have hla : 0 ≤ (a + m - 1) / 64 ∧ (a + m - 1) / 64 ≤ 1024 := by omega
      clear hc HR1 hbad
      generalize runsL pg n f b ev = L at *
      have cP := kP.cell
      refine calls_of_marks Try.func24 rfl ?_
      simp only [Try.ntmps24, List.size_toArray, List.length_cons, List.length_nil, Nat.reduceAdd, Nat.reduceSub, Array.replicate_succ, Array.replicate_zero, List.push_toArray, List.append_toArray, List.nil_append, List.cons_append]
      go_upto_region 1 with fail
      try simp only [Nat.add_assoc, Nat.reduceAdd]
      rw [hW1.out]
      go_wp2_with (first
        | (go_at_call 32; refine (HC.out _).mono ?_; rintro e wc ⟨rfl, hq⟩; have kP1 := kP.call hq; have kQ1 := kQ.call hq; have cP1 := kP1.cell; have cQ1 := kQ1.cell; have fQ1 := kQ1.frozen; have hb1 := hb0.trans (hq.mono (by have := hb0.size; omega)))
        | (go_at_call 68; refine (HR.out _).mono ?_; rintro e w2 ⟨rfl, rfl⟩))
      have hf1 : Far (fun k => k = s + 1) wc (wc.setCell ⟨s + 1, 0, none⟩ (.int .i64 (a / 64))) := Far.setCell (T := fun k => k = s + 1) (p := ⟨s + 1, 0, none⟩) (Far.refl _ _) (fun _ => rfl) _
      have kQ2 : Blk (wc.setCell ⟨s + 1, 0, none⟩ (.int .i64 (a / 64))) (s + 1) 3 #[.int .i64 (a / 64)] := kQ1.set_ 0 _
      have kP2 := hf1.blk kP1 (by omega)
      have hb2 := hb1.trans (hf1.below (by have := hb1.size; omega) (fun k hk => by omega))
      have hsc : (wc.setCell ⟨s + 1, 0, none⟩ (.int .i64 (a / 64))).heap.size = wc.heap.size := by simp [World.setCell]
      rw [← hsc]
      generalize wc.setCell ⟨s + 1, 0, none⟩ (.int .i64 (a / 64)) = w1 at *
      replace hb1 := hb2
      clear hf1 hb2 hsc kQ1 kP1 cP1 cQ1 fQ1 kP kQ cP hb0
      obtain ⟨W0, hW0⟩ : ∃ W0, w1.alloc (.cells (planC pg n f b ev) 25) = W0 := ⟨_, rfl⟩
      have hs0 : W0.heap.size = w1.heap.size + 1 := by rw [← hW0]; simp
      have hB0 : Below s w W0 := by rw [← hW0]; exact hb1.alloc (by have := hb1.size; omega) _
      have hF0 : Far (fun _ => False) w1 W0 := by rw [← hW0]; exact (Far.refl _ _).alloc _
      have hseq := HSQ.out w1
      rw [hW0] at hseq ⊢
      clear hW0
      have kQ0 := hF0.blk kQ2 id
      have kP0 := hF0.blk kP2 id
      have ls1 := kQ2.lt
      have hszw := hb1.size
      obtain ⟨pa, hpa0⟩ : ∃ pa, a / 64 = pa := ⟨_, rfl⟩
      obtain ⟨la, hla0⟩ : ∃ la, (a + m - 1) / 64 = la := ⟨_, rfl⟩
      rw [hpa0] at kQ0 hpa hHR0 ⊢
      rw [hla0] at hla hHR0 ⊢
      have hHR := Lib.hid hHR0
      have hsk := skipF_bound L pa hvl hpa
      clear hHR0 hd1 hd2 hpa0 hla0 kQ2
      refine rangeFB 11 44 40 (gf := 102) (lb := #[.pointer (some ⟨w1.heap.size, 0, none⟩)]) rfl runs_enters hseq rfl (fun _ h => h.elim) (fun k h => by omega)
        (fun pre W => Blk W (s + 1) 3 #[.int .i64 pa] ∧ Blk W s 25 (planC pg n f b ev) ∧ Below s w W ∧ Hid (∀ rest, L = pre ++ rest → skipF pa L = skipF pa rest))
        (fun c pre W => c = .exit 0 ∧ Blk W (s + 1) 3 #[.int .i64 (skipF pa L)] ∧ Blk W s 25 (planC pg n f b ev) ∧ Below s w W)
        (fun pre A B h hf => ⟨hf.blk h.1 (by rintro (h | h | h) <;> omega), hf.blk h.2.1 (by rintro (h | h | h) <;> omega), h.2.2.1.trans (hf.below (Nat.le_trans (by omega) h.2.2.1.size) (fun k hk => by rintro (h | h | h) <;> omega)), h.2.2.2⟩)
        (fun c pre A B h hf => ⟨h.1, hf.blk h.2.1 (by rintro (h | h | h) <;> omega), hf.blk h.2.2.1 (by rintro (h | h | h) <;> omega), h.2.2.2.trans (hf.below (Nat.le_trans (by omega) h.2.2.2.size) (fun k hk => by rintro (h | h | h) <;> omega))⟩)
        ⟨kQ0, kP0, hB0, Lib.hid (fun rest h => by rw [h]; rfl)⟩ ?assign ?body ?done ?stop
      case assign =>
        intro m l x W C hC
        simp only [List.setIfInBounds_toArray, List.set_cons_succ, List.set_cons_zero] at hC ⊢
        gi_wp2
        exact hC
      case body =>
        rintro mm l pre x Bx Wa W hsz ⟨kQ, kP, hB, hH⟩ hpre hBx kx _ _ _
        simp only [List.setIfInBounds_toArray, List.set_cons_succ, List.set_cons_zero]
        have hvx := vld_iff.1 (hvl x (prefix_mem hpre (by simp)))
        obtain ⟨rest, hrest⟩ := prefix_cons hpre
        have hN := Lib.hid (hH.out _ hrest)
        have hL1 := Lib.hid hrest
        clear hrest hpre hH
        obtain ⟨xa, xb⟩ := x
        dsimp only at kx hvx
        have cx := kx.cell
        have cQ := kQ.cell
        have fQ := kQ.frozen
        by_cases h1 : xa ≤ pa
        · have h1' : decide (xa ≤ pa) = true := by simpa using h1
          by_cases h2 : pa < xa + xb
          · have h2' : decide (pa < xa + xb) = true := by simpa using h2
            have hE : Hid (skipF pa L = xa + xb) := Lib.hid (by rw [hN.out, skipF, if_pos ⟨h1, h2⟩])
            clear h1 h2
            gi_wp2_with fail
            have hf4 : Far (fun k => k = s + 1) W (W.setCell ⟨s + 1, 0, none⟩ (.int .i64 (xa + xb))) := Far.setCell (T := fun k => k = s + 1) (p := ⟨s + 1, 0, none⟩) (Far.refl _ _) (fun _ => rfl) _
            exact ⟨hf4.mono fun k _ h => by omega, rfl, by rw [hE.out]; exact kQ.set_ 0 _, hf4.blk kP (by omega), hB.trans (hf4.below (by have := hB.size; omega) (fun k hk => by omega))⟩
          · have h2' : decide (pa < xa + xb) = false := by simpa using h2
            have hN2 := Lib.hid (skipF_step hN.out (fun h => h2 h.2))
            gi_wp2_with fail
            exact ⟨Far.refl _ _, kQ, kP, hB, Lib.hid (fun rest2 h => by
              have hr2 : rest2 = rest := by rw [hL1.out] at h; simpa using h.symm
              rw [hr2]; exact hN2.out)⟩
        · have h1' : decide (xa ≤ pa) = false := by simpa using h1
          have hN2 := Lib.hid (skipF_step hN.out (fun h => h1 h.1))
          gi_wp2_with fail
          exact ⟨Far.refl _ _, kQ, kP, hB, Lib.hid (fun rest2 h => by
            have hr2 : rest2 = rest := by rw [hL1.out] at h; simpa using h.symm
            rw [hr2]; exact hN2.out)⟩
      case done =>
        rintro W hsz ⟨kQ, kP, hB, hH⟩ hd
        have hq0 : skipF pa L = pa := by rw [hH.out [] (by simp)]; rfl
        obtain ⟨q, hq⟩ : ∃ q, skipF pa L = q := ⟨_, rfl⟩
        rw [← hq0, hq] at kQ
        rw [hq] at hHR hsk
        clear hq hq0 hH
        have g1 := hp.pg0
        have g2 := hp.pg1
        have g3 := hp.n0
        have g4 := hp.n1
        have g5 := hp.f0
        have g6 := hp.f1
        have g7 := hp.b0
        have g8 := hp.b1
        have cQ := kQ.cell
        have fQ := kQ.frozen
        have cP := kP.cell
        rw [hs0] at hd hsz
        by_cases hgt : la < q
        · have hgt' : decide (la < q) = true := by simpa using hgt
          have hE : Hid (R = (0, -1, 0)) := Lib.hid (by rw [hHR.out, if_pos hgt])
          go_wp2_with fail
          have hf5 : Far (fun k => k = s + 1) W (W.setCell ⟨s + 1, 0, none⟩ (.int .i64 (-1))) := Far.setCell (T := fun k => k = s + 1) (p := ⟨s + 1, 0, none⟩) (Far.refl _ _) (fun _ => rfl) _
          have kQ5 : Blk (W.setCell ⟨s + 1, 0, none⟩ (.int .i64 (-1))) (s + 1) 3 #[.int .i64 (-1)] := kQ.set_ 0 _
          have hd5 := hf5.same hd (by omega)
          have hB5 := hB.trans (hf5.below (by have := hB.size; omega) (fun k hk => by omega))
          generalize W.setCell ⟨s + 1, 0, none⟩ (.int .i64 (-1)) = w5 at *
          rw [hs0]
          have hfp : Far (fun k => k = w1.heap.size + 1) w5 (w5.putObj (w1.heap.size + 1) (.deferred none)) := Far.putObj (T := fun k => k = w1.heap.size + 1) (Far.refl _ _) (fun _ => rfl) _
          have c6 := (hfp.blk kQ5 (by omega)).cell
          exact leave_mark (v := .tuple #[.int .i64 0, .int .i64 (-1), .int .i64 0]) hd5 (by simp [results, Try.results24, go_sem, c6]) ⟨by rw [hE.out], (by rw [hs]; exact (hB5).trans (hfp.below (by have := (hB5).size; omega) (fun k hk => by omega)))⟩
        · have hgt' : decide (la < q) = false := by simpa using hgt
          have hE2 : Hid (R = (hitK pg n f b q, q, 0)) := Lib.hid (by rw [hHR.out, if_neg hgt])
          rw [hs0]
          by_cases d1 : q < pg
          · have d1' : decide (q < pg) = true := by simpa using d1
            have hE : Hid (R = (4, q, 0)) := Lib.hid (by rw [hE2.out, hitK, if_pos (.inl d1)])
            clear d1
            go_wp2_with (go_at_call 75; refine (HIN.out _).mono ?_; rintro e w3 ⟨rfl, hq3⟩; have kQ3 := kQ.call hq3; have kP3 := kP.call hq3; have cQ3 := kQ3.cell; have fQ3 := kQ3.frozen; have cP3 := kP3.cell; have hd3 := (Far.of_below (T := fun _ => False) hq3).same hd id; have hB3 := hB.trans (hq3.mono (by have := hB.size; omega)))
            have ez := fun z : Ext w3 => (z.blk kQ3).cell
            go_upto_region 15 with fail
            refine region_ext_tail 2 (by kernel_rfl) (by kernel_rfl) ?_
            simp only [List.take_succ_cons, List.take_zero, List.drop_succ_cons, List.drop_zero]
            repeat (go_big_quiet_step (fail))
            refine wpQuiet_nil ?_
            intro x
            have kQx := x.blk kQ3
            have cQx := kQx.cell
            have fQx := kQx.frozen
            go_wp2_with fail
            have hf5 : Far (fun k => k = s + 1) w3 (x.w.setCell ⟨s + 1, 0, none⟩ (.int .i64 q)) := Far.setCell (T := fun k => k = s + 1) (p := ⟨s + 1, 0, none⟩) (.of_below x.le) (fun _ => rfl) _
            have kQ5 : Blk (x.w.setCell ⟨s + 1, 0, none⟩ (.int .i64 q)) (s + 1) 3 #[.int .i64 q] := kQx.set_ 0 _
            have hd5 := hf5.same hd3 (by omega)
            have hB5 := hB3.trans (hf5.below (by have := hB3.size; omega) (fun k hk => by omega))
            generalize x.w.setCell ⟨s + 1, 0, none⟩ (.int .i64 q) = w5 at *
            have hfp : Far (fun k => k = w1.heap.size + 1) w5 (w5.putObj (w1.heap.size + 1) (.deferred none)) := Far.putObj (T := fun k => k = w1.heap.size + 1) (Far.refl _ _) (fun _ => rfl) _
            have c6 := (hfp.blk kQ5 (by omega)).cell
            exact leave_mark (v := .tuple #[.int .i64 4, .int .i64 q, .int .i64 0]) hd5 (by simp [results, Try.results24, go_sem, c6]) ⟨by rw [hE.out], (by rw [hs]; exact (hB5).trans (hfp.below (by have := (hB5).size; omega) (fun k hk => by omega)))⟩
          · have d1' : decide (q < pg) = false := by simpa using d1
            by_cases d2 : pg + n ≤ q
            · have d2' : decide (pg + n ≤ q) = true := by simpa using d2
              have hE : Hid (R = (4, q, 0)) := Lib.hid (by rw [hE2.out, hitK, if_pos (.inr d2)])
              clear d1 d2
              go_wp2_with (go_at_call 75; refine (HIN.out _).mono ?_; rintro e w3 ⟨rfl, hq3⟩; have kQ3 := kQ.call hq3; have kP3 := kP.call hq3; have cQ3 := kQ3.cell; have fQ3 := kQ3.frozen; have cP3 := kP3.cell; have hd3 := (Far.of_below (T := fun _ => False) hq3).same hd id; have hB3 := hB.trans (hq3.mono (by have := hB.size; omega)))
              have ez := fun z : Ext w3 => (z.blk kQ3).cell
              go_upto_region 15 with fail
              refine region_ext_tail 2 (by kernel_rfl) (by kernel_rfl) ?_
              simp only [List.take_succ_cons, List.take_zero, List.drop_succ_cons, List.drop_zero]
              repeat (go_big_quiet_step (fail))
              refine wpQuiet_nil ?_
              intro x
              have kQx := x.blk kQ3
              have cQx := kQx.cell
              have fQx := kQx.frozen
              go_wp2_with fail
              have hf5 : Far (fun k => k = s + 1) w3 (x.w.setCell ⟨s + 1, 0, none⟩ (.int .i64 q)) := Far.setCell (T := fun k => k = s + 1) (p := ⟨s + 1, 0, none⟩) (.of_below x.le) (fun _ => rfl) _
              have kQ5 : Blk (x.w.setCell ⟨s + 1, 0, none⟩ (.int .i64 q)) (s + 1) 3 #[.int .i64 q] := kQx.set_ 0 _
              have hd5 := hf5.same hd3 (by omega)
              have hB5 := hB3.trans (hf5.below (by have := hB3.size; omega) (fun k hk => by omega))
              generalize x.w.setCell ⟨s + 1, 0, none⟩ (.int .i64 q) = w5 at *
              have hfp : Far (fun k => k = w1.heap.size + 1) w5 (w5.putObj (w1.heap.size + 1) (.deferred none)) := Far.putObj (T := fun k => k = w1.heap.size + 1) (Far.refl _ _) (fun _ => rfl) _
              have c6 := (hfp.blk kQ5 (by omega)).cell
              exact leave_mark (v := .tuple #[.int .i64 4, .int .i64 q, .int .i64 0]) hd5 (by simp [results, Try.results24, go_sem, c6]) ⟨by rw [hE.out], (by rw [hs]; exact (hB5).trans (hfp.below (by have := (hB5).size; omega) (fun k hk => by omega)))⟩
            · have d2' : decide (pg + n ≤ q) = false := by simpa using d2
              by_cases d3 : q < pg + f
              · have d3' : decide (q < pg + f) = true := by simpa using d3
                have hE : Hid (R = (1, q, 0)) := Lib.hid (by rw [hE2.out, hitK, if_neg (by omega), if_pos d3])
                clear d1 d2 d3
                go_wp2_with (go_at_call 75; refine (HIN.out _).mono ?_; rintro e w3 ⟨rfl, hq3⟩; have kQ3 := kQ.call hq3; have kP3 := kP.call hq3; have cQ3 := kQ3.cell; have fQ3 := kQ3.frozen; have cP3 := kP3.cell; have hd3 := (Far.of_below (T := fun _ => False) hq3).same hd id; have hB3 := hB.trans (hq3.mono (by have := hB.size; omega)))
                have ez := fun z : Ext w3 => (z.blk kQ3).cell
                go_upto_region 17 with fail
                refine region_ext_tail 2 (by kernel_rfl) (by kernel_rfl) ?_
                simp only [List.take_succ_cons, List.take_zero, List.drop_succ_cons, List.drop_zero]
                repeat (go_big_quiet_step (fail))
                refine wpQuiet_nil ?_
                intro x
                have kQx := x.blk kQ3
                have cQx := kQx.cell
                have fQx := kQx.frozen
                go_wp2_with fail
                have hf5 : Far (fun k => k = s + 1) w3 (x.w.setCell ⟨s + 1, 0, none⟩ (.int .i64 q)) := Far.setCell (T := fun k => k = s + 1) (p := ⟨s + 1, 0, none⟩) (.of_below x.le) (fun _ => rfl) _
                have kQ5 : Blk (x.w.setCell ⟨s + 1, 0, none⟩ (.int .i64 q)) (s + 1) 3 #[.int .i64 q] := kQx.set_ 0 _
                have hd5 := hf5.same hd3 (by omega)
                have hB5 := hB3.trans (hf5.below (by have := hB3.size; omega) (fun k hk => by omega))
                generalize x.w.setCell ⟨s + 1, 0, none⟩ (.int .i64 q) = w5 at *
                have hfp : Far (fun k => k = w1.heap.size + 1) w5 (w5.putObj (w1.heap.size + 1) (.deferred none)) := Far.putObj (T := fun k => k = w1.heap.size + 1) (Far.refl _ _) (fun _ => rfl) _
                have c6 := (hfp.blk kQ5 (by omega)).cell
                exact leave_mark (v := .tuple #[.int .i64 1, .int .i64 q, .int .i64 0]) hd5 (by simp [results, Try.results24, go_sem, c6]) ⟨by rw [hE.out], (by rw [hs]; exact (hB5).trans (hfp.below (by have := (hB5).size; omega) (fun k hk => by omega)))⟩
              · have d3' : decide (q < pg + f) = false := by simpa using d3
                by_cases d4 : pg + n - b ≤ q
                · have d4' : decide (pg + n - b ≤ q) = true := by simpa using d4
                  have hE : Hid (R = (2, q, 0)) := Lib.hid (by rw [hE2.out, hitK, if_neg (by omega), if_neg d3, if_pos d4])
                  clear d1 d2 d3 d4
                  go_wp2_with (go_at_call 75; refine (HIN.out _).mono ?_; rintro e w3 ⟨rfl, hq3⟩; have kQ3 := kQ.call hq3; have kP3 := kP.call hq3; have cQ3 := kQ3.cell; have fQ3 := kQ3.frozen; have cP3 := kP3.cell; have hd3 := (Far.of_below (T := fun _ => False) hq3).same hd id; have hB3 := hB.trans (hq3.mono (by have := hB.size; omega)))
                  have ez := fun z : Ext w3 => (z.blk kQ3).cell
                  go_upto_region 19 with fail
                  refine region_ext_tail 2 (by kernel_rfl) (by kernel_rfl) ?_
                  simp only [List.take_succ_cons, List.take_zero, List.drop_succ_cons, List.drop_zero]
                  repeat (go_big_quiet_step (fail))
                  refine wpQuiet_nil ?_
                  intro x
                  have kQx := x.blk kQ3
                  have cQx := kQx.cell
                  have fQx := kQx.frozen
                  go_wp2_with fail
                  have hf5 : Far (fun k => k = s + 1) w3 (x.w.setCell ⟨s + 1, 0, none⟩ (.int .i64 q)) := Far.setCell (T := fun k => k = s + 1) (p := ⟨s + 1, 0, none⟩) (.of_below x.le) (fun _ => rfl) _
                  have kQ5 : Blk (x.w.setCell ⟨s + 1, 0, none⟩ (.int .i64 q)) (s + 1) 3 #[.int .i64 q] := kQx.set_ 0 _
                  have hd5 := hf5.same hd3 (by omega)
                  have hB5 := hB3.trans (hf5.below (by have := hB3.size; omega) (fun k hk => by omega))
                  generalize x.w.setCell ⟨s + 1, 0, none⟩ (.int .i64 q) = w5 at *
                  have hfp : Far (fun k => k = w1.heap.size + 1) w5 (w5.putObj (w1.heap.size + 1) (.deferred none)) := Far.putObj (T := fun k => k = w1.heap.size + 1) (Far.refl _ _) (fun _ => rfl) _
                  have c6 := (hfp.blk kQ5 (by omega)).cell
                  exact leave_mark (v := .tuple #[.int .i64 2, .int .i64 q, .int .i64 0]) hd5 (by simp [results, Try.results24, go_sem, c6]) ⟨by rw [hE.out], (by rw [hs]; exact (hB5).trans (hfp.below (by have := (hB5).size; omega) (fun k hk => by omega)))⟩
                · have d4' : decide (pg + n - b ≤ q) = false := by simpa using d4
                  have hE : Hid (R = (3, q, 0)) := Lib.hid (by rw [hE2.out, hitK, if_neg (by omega), if_neg d3, if_neg d4])
                  clear d1 d2 d3 d4
                  go_wp2_with (go_at_call 75; refine (HIN.out _).mono ?_; rintro e w3 ⟨rfl, hq3⟩; have kQ3 := kQ.call hq3; have kP3 := kP.call hq3; have cQ3 := kQ3.cell; have fQ3 := kQ3.frozen; have cP3 := kP3.cell; have hd3 := (Far.of_below (T := fun _ => False) hq3).same hd id; have hB3 := hB.trans (hq3.mono (by have := hB.size; omega)))
                  have ez := fun z : Ext w3 => (z.blk kQ3).cell
                  go_upto_region 20 with fail
                  refine region_ext_tail 2 (by kernel_rfl) (by kernel_rfl) ?_
                  simp only [List.take_succ_cons, List.take_zero, List.drop_succ_cons, List.drop_zero]
                  repeat (go_big_quiet_step (fail))
                  refine wpQuiet_nil ?_
                  intro x
                  have kQx := x.blk kQ3
                  have cQx := kQx.cell
                  have fQx := kQx.frozen
                  go_wp2_with fail
                  have hf5 : Far (fun k => k = s + 1) w3 (x.w.setCell ⟨s + 1, 0, none⟩ (.int .i64 q)) := Far.setCell (T := fun k => k = s + 1) (p := ⟨s + 1, 0, none⟩) (.of_below x.le) (fun _ => rfl) _
                  have kQ5 : Blk (x.w.setCell ⟨s + 1, 0, none⟩ (.int .i64 q)) (s + 1) 3 #[.int .i64 q] := kQx.set_ 0 _
                  have hd5 := hf5.same hd3 (by omega)
                  have hB5 := hB3.trans (hf5.below (by have := hB3.size; omega) (fun k hk => by omega))
                  generalize x.w.setCell ⟨s + 1, 0, none⟩ (.int .i64 q) = w5 at *
                  have hfp : Far (fun k => k = w1.heap.size + 1) w5 (w5.putObj (w1.heap.size + 1) (.deferred none)) := Far.putObj (T := fun k => k = w1.heap.size + 1) (Far.refl _ _) (fun _ => rfl) _
                  have c6 := (hfp.blk kQ5 (by omega)).cell
                  exact leave_mark (v := .tuple #[.int .i64 3, .int .i64 q, .int .i64 0]) hd5 (by simp [results, Try.results24, go_sem, c6]) ⟨by rw [hE.out], (by rw [hs]; exact (hB5).trans (hfp.below (by have := (hB5).size; omega) (fun k hk => by omega)))⟩
      case stop =>
        rintro c pre W hsz hpre ⟨rfl, kQ, kP, hB⟩ hd
        obtain ⟨q, hq⟩ : ∃ q, skipF pa L = q := ⟨_, rfl⟩
        rw [hq] at kQ hHR hsk
        clear hq
        have g1 := hp.pg0
        have g2 := hp.pg1
        have g3 := hp.n0
        have g4 := hp.n1
        have g5 := hp.f0
        have g6 := hp.f1
        have g7 := hp.b0
        have g8 := hp.b1
        have cQ := kQ.cell
        have fQ := kQ.frozen
        have cP := kP.cell
        rw [hs0] at hd hsz
        by_cases hgt : la < q
        · have hgt' : decide (la < q) = true := by simpa using hgt
          have hE : Hid (R = (0, -1, 0)) := Lib.hid (by rw [hHR.out, if_pos hgt])
          go_wp2_with fail
          have hf5 : Far (fun k => k = s + 1) W (W.setCell ⟨s + 1, 0, none⟩ (.int .i64 (-1))) := Far.setCell (T := fun k => k = s + 1) (p := ⟨s + 1, 0, none⟩) (Far.refl _ _) (fun _ => rfl) _
          have kQ5 : Blk (W.setCell ⟨s + 1, 0, none⟩ (.int .i64 (-1))) (s + 1) 3 #[.int .i64 (-1)] := kQ.set_ 0 _
          have hd5 := hf5.same hd (by omega)
          have hB5 := hB.trans (hf5.below (by have := hB.size; omega) (fun k hk => by omega))
          generalize W.setCell ⟨s + 1, 0, none⟩ (.int .i64 (-1)) = w5 at *
          rw [hs0]
          have hfp : Far (fun k => k = w1.heap.size + 1) w5 (w5.putObj (w1.heap.size + 1) (.deferred none)) := Far.putObj (T := fun k => k = w1.heap.size + 1) (Far.refl _ _) (fun _ => rfl) _
          have c6 := (hfp.blk kQ5 (by omega)).cell
          exact leave_mark (v := .tuple #[.int .i64 0, .int .i64 (-1), .int .i64 0]) hd5 (by simp [results, Try.results24, go_sem, c6]) ⟨by rw [hE.out], (by rw [hs]; exact (hB5).trans (hfp.below (by have := (hB5).size; omega) (fun k hk => by omega)))⟩
        · have hgt' : decide (la < q) = false := by simpa using hgt
          have hE2 : Hid (R = (hitK pg n f b q, q, 0)) := Lib.hid (by rw [hHR.out, if_neg hgt])
          rw [hs0]
          by_cases d1 : q < pg
          · have d1' : decide (q < pg) = true := by simpa using d1
            have hE : Hid (R = (4, q, 0)) := Lib.hid (by rw [hE2.out, hitK, if_pos (.inl d1)])
            clear d1
            go_wp2_with (go_at_call 75; refine (HIN.out _).mono ?_; rintro e w3 ⟨rfl, hq3⟩; have kQ3 := kQ.call hq3; have kP3 := kP.call hq3; have cQ3 := kQ3.cell; have fQ3 := kQ3.frozen; have cP3 := kP3.cell; have hd3 := (Far.of_below (T := fun _ => False) hq3).same hd id; have hB3 := hB.trans (hq3.mono (by have := hB.size; omega)))
            have ez := fun z : Ext w3 => (z.blk kQ3).cell
            go_upto_region 15 with fail
            refine region_ext_tail 2 (by kernel_rfl) (by kernel_rfl) ?_
            simp only [List.take_succ_cons, List.take_zero, List.drop_succ_cons, List.drop_zero]
            repeat (go_big_quiet_step (fail))
            refine wpQuiet_nil ?_
            intro x
            have kQx := x.blk kQ3
            have cQx := kQx.cell
            have fQx := kQx.frozen
            go_wp2_with fail
            have hf5 : Far (fun k => k = s + 1) w3 (x.w.setCell ⟨s + 1, 0, none⟩ (.int .i64 q)) := Far.setCell (T := fun k => k = s + 1) (p := ⟨s + 1, 0, none⟩) (.of_below x.le) (fun _ => rfl) _
            have kQ5 : Blk (x.w.setCell ⟨s + 1, 0, none⟩ (.int .i64 q)) (s + 1) 3 #[.int .i64 q] := kQx.set_ 0 _
            have hd5 := hf5.same hd3 (by omega)
            have hB5 := hB3.trans (hf5.below (by have := hB3.size; omega) (fun k hk => by omega))
            generalize x.w.setCell ⟨s + 1, 0, none⟩ (.int .i64 q) = w5 at *
            have hfp : Far (fun k => k = w1.heap.size + 1) w5 (w5.putObj (w1.heap.size + 1) (.deferred none)) := Far.putObj (T := fun k => k = w1.heap.size + 1) (Far.refl _ _) (fun _ => rfl) _
            have c6 := (hfp.blk kQ5 (by omega)).cell
            exact leave_mark (v := .tuple #[.int .i64 4, .int .i64 q, .int .i64 0]) hd5 (by simp [results, Try.results24, go_sem, c6]) ⟨by rw [hE.out], (by rw [hs]; exact (hB5).trans (hfp.below (by have := (hB5).size; omega) (fun k hk => by omega)))⟩
          · have d1' : decide (q < pg) = false := by simpa using d1
            by_cases d2 : pg + n ≤ q
            · have d2' : decide (pg + n ≤ q) = true := by simpa using d2
              have hE : Hid (R = (4, q, 0)) := Lib.hid (by rw [hE2.out, hitK, if_pos (.inr d2)])
              clear d1 d2
              go_wp2_with (go_at_call 75; refine (HIN.out _).mono ?_; rintro e w3 ⟨rfl, hq3⟩; have kQ3 := kQ.call hq3; have kP3 := kP.call hq3; have cQ3 := kQ3.cell; have fQ3 := kQ3.frozen; have cP3 := kP3.cell; have hd3 := (Far.of_below (T := fun _ => False) hq3).same hd id; have hB3 := hB.trans (hq3.mono (by have := hB.size; omega)))
              have ez := fun z : Ext w3 => (z.blk kQ3).cell
              go_upto_region 15 with fail
              refine region_ext_tail 2 (by kernel_rfl) (by kernel_rfl) ?_
              simp only [List.take_succ_cons, List.take_zero, List.drop_succ_cons, List.drop_zero]
              repeat (go_big_quiet_step (fail))
              refine wpQuiet_nil ?_
              intro x
              have kQx := x.blk kQ3
              have cQx := kQx.cell
              have fQx := kQx.frozen
              go_wp2_with fail
              have hf5 : Far (fun k => k = s + 1) w3 (x.w.setCell ⟨s + 1, 0, none⟩ (.int .i64 q)) := Far.setCell (T := fun k => k = s + 1) (p := ⟨s + 1, 0, none⟩) (.of_below x.le) (fun _ => rfl) _
              have kQ5 : Blk (x.w.setCell ⟨s + 1, 0, none⟩ (.int .i64 q)) (s + 1) 3 #[.int .i64 q] := kQx.set_ 0 _
              have hd5 := hf5.same hd3 (by omega)
              have hB5 := hB3.trans (hf5.below (by have := hB3.size; omega) (fun k hk => by omega))
              generalize x.w.setCell ⟨s + 1, 0, none⟩ (.int .i64 q) = w5 at *
              have hfp : Far (fun k => k = w1.heap.size + 1) w5 (w5.putObj (w1.heap.size + 1) (.deferred none)) := Far.putObj (T := fun k => k = w1.heap.size + 1) (Far.refl _ _) (fun _ => rfl) _
              have c6 := (hfp.blk kQ5 (by omega)).cell
              exact leave_mark (v := .tuple #[.int .i64 4, .int .i64 q, .int .i64 0]) hd5 (by simp [results, Try.results24, go_sem, c6]) ⟨by rw [hE.out], (by rw [hs]; exact (hB5).trans (hfp.below (by have := (hB5).size; omega) (fun k hk => by omega)))⟩
            · have d2' : decide (pg + n ≤ q) = false := by simpa using d2
              by_cases d3 : q < pg + f
              · have d3' : decide (q < pg + f) = true := by simpa using d3
                have hE : Hid (R = (1, q, 0)) := Lib.hid (by rw [hE2.out, hitK, if_neg (by omega), if_pos d3])
                clear d1 d2 d3
                go_wp2_with (go_at_call 75; refine (HIN.out _).mono ?_; rintro e w3 ⟨rfl, hq3⟩; have kQ3 := kQ.call hq3; have kP3 := kP.call hq3; have cQ3 := kQ3.cell; have fQ3 := kQ3.frozen; have cP3 := kP3.cell; have hd3 := (Far.of_below (T := fun _ => False) hq3).same hd id; have hB3 := hB.trans (hq3.mono (by have := hB.size; omega)))
                have ez := fun z : Ext w3 => (z.blk kQ3).cell
                go_upto_region 17 with fail
                refine region_ext_tail 2 (by kernel_rfl) (by kernel_rfl) ?_
                simp only [List.take_succ_cons, List.take_zero, List.drop_succ_cons, List.drop_zero]
                repeat (go_big_quiet_step (fail))
                refine wpQuiet_nil ?_
                intro x
                have kQx := x.blk kQ3
                have cQx := kQx.cell
                have fQx := kQx.frozen
                go_wp2_with fail
                have hf5 : Far (fun k => k = s + 1) w3 (x.w.setCell ⟨s + 1, 0, none⟩ (.int .i64 q)) := Far.setCell (T := fun k => k = s + 1) (p := ⟨s + 1, 0, none⟩) (.of_below x.le) (fun _ => rfl) _
                have kQ5 : Blk (x.w.setCell ⟨s + 1, 0, none⟩ (.int .i64 q)) (s + 1) 3 #[.int .i64 q] := kQx.set_ 0 _
                have hd5 := hf5.same hd3 (by omega)
                have hB5 := hB3.trans (hf5.below (by have := hB3.size; omega) (fun k hk => by omega))
                generalize x.w.setCell ⟨s + 1, 0, none⟩ (.int .i64 q) = w5 at *
                have hfp : Far (fun k => k = w1.heap.size + 1) w5 (w5.putObj (w1.heap.size + 1) (.deferred none)) := Far.putObj (T := fun k => k = w1.heap.size + 1) (Far.refl _ _) (fun _ => rfl) _
                have c6 := (hfp.blk kQ5 (by omega)).cell
                exact leave_mark (v := .tuple #[.int .i64 1, .int .i64 q, .int .i64 0]) hd5 (by simp [results, Try.results24, go_sem, c6]) ⟨by rw [hE.out], (by rw [hs]; exact (hB5).trans (hfp.below (by have := (hB5).size; omega) (fun k hk => by omega)))⟩
              · have d3' : decide (q < pg + f) = false := by simpa using d3
                by_cases d4 : pg + n - b ≤ q
                · have d4' : decide (pg + n - b ≤ q) = true := by simpa using d4
                  have hE : Hid (R = (2, q, 0)) := Lib.hid (by rw [hE2.out, hitK, if_neg (by omega), if_neg d3, if_pos d4])
                  clear d1 d2 d3 d4
                  go_wp2_with (go_at_call 75; refine (HIN.out _).mono ?_; rintro e w3 ⟨rfl, hq3⟩; have kQ3 := kQ.call hq3; have kP3 := kP.call hq3; have cQ3 := kQ3.cell; have fQ3 := kQ3.frozen; have cP3 := kP3.cell; have hd3 := (Far.of_below (T := fun _ => False) hq3).same hd id; have hB3 := hB.trans (hq3.mono (by have := hB.size; omega)))
                  have ez := fun z : Ext w3 => (z.blk kQ3).cell
                  go_upto_region 19 with fail
                  refine region_ext_tail 2 (by kernel_rfl) (by kernel_rfl) ?_
                  simp only [List.take_succ_cons, List.take_zero, List.drop_succ_cons, List.drop_zero]
                  repeat (go_big_quiet_step (fail))
                  refine wpQuiet_nil ?_
                  intro x
                  have kQx := x.blk kQ3
                  have cQx := kQx.cell
                  have fQx := kQx.frozen
                  go_wp2_with fail
                  have hf5 : Far (fun k => k = s + 1) w3 (x.w.setCell ⟨s + 1, 0, none⟩ (.int .i64 q)) := Far.setCell (T := fun k => k = s + 1) (p := ⟨s + 1, 0, none⟩) (.of_below x.le) (fun _ => rfl) _
                  have kQ5 : Blk (x.w.setCell ⟨s + 1, 0, none⟩ (.int .i64 q)) (s + 1) 3 #[.int .i64 q] := kQx.set_ 0 _
                  have hd5 := hf5.same hd3 (by omega)
                  have hB5 := hB3.trans (hf5.below (by have := hB3.size; omega) (fun k hk => by omega))
                  generalize x.w.setCell ⟨s + 1, 0, none⟩ (.int .i64 q) = w5 at *
                  have hfp : Far (fun k => k = w1.heap.size + 1) w5 (w5.putObj (w1.heap.size + 1) (.deferred none)) := Far.putObj (T := fun k => k = w1.heap.size + 1) (Far.refl _ _) (fun _ => rfl) _
                  have c6 := (hfp.blk kQ5 (by omega)).cell
                  exact leave_mark (v := .tuple #[.int .i64 2, .int .i64 q, .int .i64 0]) hd5 (by simp [results, Try.results24, go_sem, c6]) ⟨by rw [hE.out], (by rw [hs]; exact (hB5).trans (hfp.below (by have := (hB5).size; omega) (fun k hk => by omega)))⟩
                · have d4' : decide (pg + n - b ≤ q) = false := by simpa using d4
                  have hE : Hid (R = (3, q, 0)) := Lib.hid (by rw [hE2.out, hitK, if_neg (by omega), if_neg d3, if_neg d4])
                  clear d1 d2 d3 d4
                  go_wp2_with (go_at_call 75; refine (HIN.out _).mono ?_; rintro e w3 ⟨rfl, hq3⟩; have kQ3 := kQ.call hq3; have kP3 := kP.call hq3; have cQ3 := kQ3.cell; have fQ3 := kQ3.frozen; have cP3 := kP3.cell; have hd3 := (Far.of_below (T := fun _ => False) hq3).same hd id; have hB3 := hB.trans (hq3.mono (by have := hB.size; omega)))
                  have ez := fun z : Ext w3 => (z.blk kQ3).cell
                  go_upto_region 20 with fail
                  refine region_ext_tail 2 (by kernel_rfl) (by kernel_rfl) ?_
                  simp only [List.take_succ_cons, List.take_zero, List.drop_succ_cons, List.drop_zero]
                  repeat (go_big_quiet_step (fail))
                  refine wpQuiet_nil ?_
                  intro x
                  have kQx := x.blk kQ3
                  have cQx := kQx.cell
                  have fQx := kQx.frozen
                  go_wp2_with fail
                  have hf5 : Far (fun k => k = s + 1) w3 (x.w.setCell ⟨s + 1, 0, none⟩ (.int .i64 q)) := Far.setCell (T := fun k => k = s + 1) (p := ⟨s + 1, 0, none⟩) (.of_below x.le) (fun _ => rfl) _
                  have kQ5 : Blk (x.w.setCell ⟨s + 1, 0, none⟩ (.int .i64 q)) (s + 1) 3 #[.int .i64 q] := kQx.set_ 0 _
                  have hd5 := hf5.same hd3 (by omega)
                  have hB5 := hB3.trans (hf5.below (by have := hB3.size; omega) (fun k hk => by omega))
                  generalize x.w.setCell ⟨s + 1, 0, none⟩ (.int .i64 q) = w5 at *
                  have hfp : Far (fun k => k = w1.heap.size + 1) w5 (w5.putObj (w1.heap.size + 1) (.deferred none)) := Far.putObj (T := fun k => k = w1.heap.size + 1) (Far.refl _ _) (fun _ => rfl) _
                  have c6 := (hfp.blk kQ5 (by omega)).cell
                  exact leave_mark (v := .tuple #[.int .i64 3, .int .i64 q, .int .i64 0]) hd5 (by simp [results, Try.results24, go_sem, c6]) ⟨by rw [hE.out], (by rw [hs]; exact (hB5).trans (hfp.below (by have := (hB5).size; omega) (fun k hk => by omega)))⟩
end Go.Proofs.Ytfmnlpgboolpmaa
