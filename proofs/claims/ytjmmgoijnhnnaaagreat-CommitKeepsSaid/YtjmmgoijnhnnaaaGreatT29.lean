/- Plain law of layer 12 (commit): what is charged after a call that commits pages; what a Grow keeps that returns an error. -/
import Derived.Test.YtjmmgoijnhnnaaaGreatT28
namespace Go.Pol
open Go Go.RowKit
theorem refS_hits (S : Rf) (k j : Nat) : S.hits j ≤ (refS S k).hits j ∧ (j ≠ k → (refS S k).hits j = S.hits j) ∧ (refB S k = true → S.hits k < (refS S k).hits k) := by
 unfold refS refB
 by_cases h : S.calls k = 1000000
 ·rw [if_pos h, if_pos h]
  exact ⟨Int.le_refl _, fun _ => rfl, fun h => by cases h⟩
 ·rw [if_neg h, if_neg h]
  have hu : ∀ (f : Nat → Int) (v : Int) (i : Nat), upN f k v i = if i = k then v else f i := fun f v i => rfl
  unfold nextS
  by_cases hb : nextB S k = true
  ·simp only [hb, if_true, hu]
   refine ⟨?_, fun hj => by rw [if_neg hj], fun _ => by omega⟩
   by_cases hj : j = k
   ·rw [if_pos hj, hj]; omega
   ·rw [if_neg hj]; exact Int.le_refl _
  ·have hb' : nextB S k = false := by simpa using hb
   simp only [hb']
   exact ⟨Int.le_refl _, fun _ => rfl, fun h => by cases h⟩
theorem bec_hitsLe (V : Vm) (a n : Int) (call : Nat) (fr tk : Int) (j : Nat) : V.rf.hits j ≤ (bec V a n call fr tk).2.rf.hits j := by
 rcases bec_rf V a n call fr tk with h | h
 ·rw [h]; exact Int.le_refl _
 ·rw [h]; exact (refS_hits _ _ _).1
theorem bec_hitsEq (V : Vm) (a n : Int) (call : Nat) (fr tk : Int) (j : Nat) (hj : j ≠ call) : (bec V a n call fr tk).2.rf.hits j = V.rf.hits j := by
 rcases bec_rf V a n call fr tk with h | h
 ·rw [h]
 ·rw [h]; exact (refS_hits _ _ _).2.1 hj
theorem bec_hit {V : Vm} {a n : Int} {call : Nat} {fr tk : Int} (h1 : 0 ≤ a) (h2 : 1 ≤ n) (h3 : a + n ≤ 1024) (hk : ∀ p : Nat, a ≤ p → (p : Int) < a + n → kd V p = fr ∧ (V.pg p).huge = false) (he : (bec V a n call fr tk).1 ≠ 0) : V.rf.hits call < (bec V a n call fr tk).2.rf.hits call := by
 have hr := bec_refused h1 h2 h3 hk he
 rcases bec_rf V a n call fr tk with h | h
 ·exfalso
  unfold bec makeF at h he
  rw [if_neg (by omega)] at h he
  split at he
  ·rename_i hall
   rw [if_pos hall] at h
   have hg := bec_go (call := call) (fr := fr) (tk := tk) (V := { V with rf := ⟨[], fun _ => 0, fun _ => 0⟩ }) h1 h2 h3 hk (refB_none rfl call)
   unfold bec makeF at hg
   rw [if_neg (by omega)] at hg
   have hall' : allP { V with rf := ⟨[], fun _ => 0, fun _ => 0⟩ } a.toNat n.toNat (fun g => g.kind == fr && !g.huge) = false := hall
   rw [if_pos hall'] at hg
   exact absurd (show (9 : Int) = 0 from hg) (by decide)
  ·rename_i hall
   rw [if_neg hall, if_pos hr] at h
   have h' : refS V.rf call = V.rf := h
   have := (refS_hits V.rf call call).2.2 hr
   rw [h'] at this
   exact absurd this (Int.lt_irrefl _)
 ·rw [h]; exact (refS_hits V.rf call call).2.2 hr
theorem comL_hits : ∀ (XS d : List RnT) (V : Vm), (comL XS d V).2.1.rf.hits 3 = V.rf.hits 3
 | [], _, _ => rfl
 | x :: r, d, V => by
  rw [comL]
  split
  ·exact bec_hitsEq _ _ _ _ _ _ _ (by decide)
  ·rw [comL_hits r]; exact bec_hitsEq _ _ _ _ _ _ _ (by decide)
theorem undo_hits {pg n : Int} {L : List Sp} (hL : ∀ u ∈ L, 1 ≤ u.2) (hs : sumS L ≤ 1024) : ∀ (l : List RnT) (S : Vm × List Sp × Int) (K : Int → Bool), (∀ x ∈ l, RunOf 0 L x) → l.Pairwise Apart → Plain S.1 → KindK S.1 pg n L K → (∀ x ∈ l, ∀ k, inRn x k = true → K k = true) → Can S.2.1 →
  S.1.rf.hits 3 ≤ (l.foldl undoC S).1.rf.hits 3 ∧ ((l.foldl undoC S).2.1 = S.2.1 ∨ S.1.rf.hits 3 < (l.foldl undoC S).1.rf.hits 3) ∧ Can (l.foldl undoC S).2.1 ∧ ∀ k, mem k S.2.1 = true → mem k (l.foldl undoC S).2.1 = true
 | [], S, _, _, _, _, _, _, hC => ⟨Int.le_refl _, .inl rfl, hC, fun _ h => h⟩
 | x :: l, S, K, hR, hA, hP, hK, hin, hC => by
  have hx := hR x (by simp)
  have hA' := List.pairwise_cons.1 hA
  rw [List.foldl_cons]
  rcases bec_cases S.1 x.1 x.2.1 3 2 1 with ⟨g1, g2⟩ | ⟨g1, g2⟩
  ·have e : undoC S x = ((bec S.1 x.1 x.2.1 3 2 1).2, setOf (S.2.1 ++ [(x.2.2, x.2.1)]), S.2.2 - x.2.1) := by unfold undoC; dsimp only; rw [if_pos g1]
   obtain ⟨h1, _, h4, h5⟩ := undo_hits hL hs l (undoC S x) K (fun y hy => hR y (by simp [hy])) hA'.2 (by rw [e]; exact hP.pg g2) (by rw [e]; exact hK.pg g2) (fun y hy => hin y (by simp [hy])) (by rw [e]; exact setOf_can _)
   have h2 := bec_hit (V := S.1) (a := x.1) (n := x.2.1) (call := 3) (fr := 2) (tk := 1) hx.lo hx.pos hx.hi (fun p ha hb => ⟨by
    rw [hK.run hx ha hb, if_pos]
    exact hin x (by simp) _ (inRn_iff.2 (by omega)), hP.hug p⟩) g1
   have e1 : (undoC S x).1 = (bec S.1 x.1 x.2.1 3 2 1).2 := by rw [e]
   rw [e1] at h1
   refine ⟨by omega, .inr (by omega), h4, fun k hk => h5 k ?_⟩
   rw [e]
   simp only
   rw [mem_union hC (run_can hs hx), hk]; rfl
  ·have e : undoC S x = ((bec S.1 x.1 x.2.1 3 2 1).2, S.2.1, S.2.2) := by unfold undoC; dsimp only; rw [if_neg (by rw [g1]; simp)]
   obtain ⟨h1, h3, h4, h5⟩ := undo_hits hL hs l (undoC S x) (fun k => K k && !inRn x k) (fun y hy => hR y (by simp [hy])) hA'.2 (by rw [e]; exact hP.to g2) (by rw [e]; exact hK.dec hx g2) (fun y hy k hk => by
    rw [Bool.and_eq_true]
    refine ⟨hin y (by simp [hy]) k hk, ?_⟩
    cases hi : inRn x k with
    | false => rfl
    | true => exact absurd hk (fun hk => hA'.1 y hy k hi hk)) (by rw [e]; exact hC)
   have h2 := bec_hitsLe S.1 x.1 x.2.1 3 2 1 3
   have e1 : (undoC S x).1 = (bec S.1 x.1 x.2.1 3 2 1).2 := by rw [e]
   have e2 : (undoC S x).2.1 = S.2.1 := by rw [e]
   rw [e1] at h1 h3
   rw [e2] at h3 h5
   refine ⟨by omega, ?_, h4, h5⟩
   rcases h3 with h3 | h3
   ·exact .inl h3
   ·exact .inr (by omega)
theorem growC_keeps {V : Vm} {L : List Nd} {r : Cr} (h : CmI V L r) (tt : Int) (he : (growC V L r tt).2.1 ≠ 0) :
  (∃ K, (growC V L r tt).1 = { r with kept := K } ∧ sumS r.kept ≤ sumS K) ∧ V.rf.hits 3 ≤ (growC V L r tt).2.2.1.rf.hits 3 ∧ ((growC V L r tt).1 = r ∨ V.rf.hits 3 < (growC V L r tt).2.2.1.rf.hits 3) := by
 unfold growC at he ⊢
 by_cases h1 : chkCm r ≠ 0
 ·rw [if_pos h1]; exact ⟨⟨r.kept, rfl, Int.le_refl _⟩, Int.le_refl _, .inl rfl⟩
 rw [if_neg h1] at he ⊢
 have ho : CrOk r := chkCm_zero.1 (by omega)
 obtain ⟨hn, hk, _⟩ := h.of_ok ho
 by_cases h2 : r.cl = true
 ·rw [if_pos h2]; exact ⟨⟨r.kept, rfl, Int.le_refl _⟩, Int.le_refl _, .inl rfl⟩
 rw [if_neg h2] at he ⊢
 by_cases h3 : tt < r.live ∨ usC r < tt
 ·rw [if_pos h3]; exact ⟨⟨r.kept, rfl, Int.le_refl _⟩, Int.le_refl _, .inl rfl⟩
 rw [if_neg h3] at he ⊢
 have hk := hk (by simpa using h2)
 have hlv0 := ho.live0
 have hus := ho.us1
 have hcb : Can (belC r.live tt) := can_belC (by omega) (by omega)
 have hcm : Can (commonF (belC r.live tt) (gapsF r.kept (0, 1024))) := can_minus hcb ho.can
 dsimp only at he ⊢
 generalize commonF (belC r.live tt) (gapsF r.kept (0, 1024)) = more at *
 split at he
 ·rename_i h4
  rw [if_pos h4]; exact ⟨⟨r.kept, rfl, Int.le_refl _⟩, Int.le_refl _, .inl rfl⟩
 rename_i h4
 rw [if_neg h4]
 obtain ⟨hA1, hA2, _⟩ := runsC_all hcm ho.plan
 have hpos := runs_pos ho.plan
 generalize runsC more 0 (runsL r.pg r.n r.f r.bk r.ev) = XS at *
 have hh := comL_hits XS [] V
 obtain ⟨done, d1, d2, d3, d4, d5, d6⟩ := comL_law (pg := r.pg) (n := r.n) hpos XS [] V (useC r) (fun x hx => (hA1 x hx).1) hk h.pln
 rw [List.nil_append] at d1
 generalize comL XS [] V = C at *
 obtain ⟨ce, cV, cd⟩ := C
 simp only at d1 d4 d5 he hh ⊢
 subst d1
 split at he
 ·exact absurd rfl he
 rename_i h5
 rw [if_neg h5]
 simp only
 have hap : cd.reverse.Pairwise Apart := by
  rw [List.pairwise_reverse]
  exact ((apart_of hA2).sublist d2.sublist).imp fun h => h.symm
 obtain ⟨a, b, c, d⟩ := undo_hits (pg := r.pg) (n := r.n) hpos (runs_sum ho.plan).2 cd.reverse (cV, r.kept, sumS more) _ (fun x hx => (hA1 x (d2.subset (List.mem_reverse.1 hx))).1) hap d5 d4 (fun x hx k hk' => by
  have : cd.any (inRn · k) = true := List.any_eq_true.2 ⟨x, List.mem_reverse.1 hx, hk'⟩
  simp [this]) ho.can
 generalize cd.reverse.foldl undoC (cV, r.kept, sumS more) = U at *
 obtain ⟨uV, uk, um⟩ := U
 simp only at a b c d ⊢
 rw [hh] at a b
 have hsub : sumS r.kept ≤ sumS uk := by
  have e3 := minus_sum c ho.can d
  have e4 := sumS_nn (vlds_pos (can_minus c ho.can).1)
  omega
 refine ⟨⟨uk, rfl, hsub⟩, a, ?_⟩
 rcases b with b | b
 ·subst b; exact .inl rfl
 ·exact .inr b
theorem growC_live {V : Vm} {L : List Nd} {r : Cr} {tt : Int} (he : (growC V L r tt).2.1 = 0) : (growC V L r tt).1.live = tt ∧ r.live ≤ tt := by
 unfold growC at he ⊢
 by_cases h1 : chkCm r ≠ 0
 ·rw [if_pos h1] at he; exact absurd he h1
 rw [if_neg h1] at he ⊢
 by_cases h2 : r.cl = true
 ·rw [if_pos h2] at he; exact absurd he (by show ¬ (9 : Int) = 0; decide)
 rw [if_neg h2] at he ⊢
 by_cases h3 : tt < r.live ∨ usC r < tt
 ·rw [if_pos h3] at he; exact absurd he (by show ¬ (7 : Int) = 0; decide)
 rw [if_neg h3] at he ⊢
 dsimp only at he ⊢
 split at he
 ·rename_i h4; exact absurd he h4
 rename_i h4
 rw [if_neg h4]
 split at he
 ·rename_i h5
  rw [if_pos h5]
  exact ⟨rfl, by omega⟩
 ·rename_i h5; exact absurd he h5
end Go.Pol
