/- Plain laws on plans of guards: the reference's sets are the program's; numbers of usable pages; what is hit. -/
import Derived.Test.YtfmnlpgboolpmaaGWalkL
import Derived.Test.YtfmnlpgboolpmaaGWalkK
import Derived.Test.YtfmnlpgboolpmaaGWalkH
namespace Go.Pol
open Go
section
variable {pg n f b ev : Int}
theorem setM_true (hp : PlanOk pg n f b ev) : setA (setM pg n f b ev true n.toNat) = runsL pg n f b ev := by
  refine ((runsL_can hp).eq_setA _ fun p hp2 => ?_).symm
  have h := kindG_zero hp (p : Int)
  have hr := (runsL_ok hp).2.2 (p : Int)
  have a1 := hp.f0; have a2 := hp.b0; have a3 := hp.n0
  rw [Bool.eq_iff_iff]
  simp only [setM, Bool.and_eq_true, decide_eq_true_eq, beq_iff_eq]
  rw [← h]
  constructor
  · rintro ⟨_, h2⟩; simpa using h2
  · intro h2
    have := hr.1 (h.1 h2)
    refine ⟨by omega, by simpa using h2⟩
theorem setM_false (hp : PlanOk pg n f b ev) : setA (setM pg n f b ev false n.toNat) = gapsF (runsL pg n f b ev) (pg, n) := by
  have hv : vld (pg, n) = true := vld_iff.2 ⟨hp.pg0, hp.pg1, hp.n0, hp.n1⟩
  obtain ⟨hc, hm⟩ := (runsL_can hp).gaps hv
  refine (hc.eq_setA _ fun p hp2 => ?_).symm
  have h := kindG_zero hp (p : Int)
  have a3 := hp.n0
  rw [Bool.eq_iff_iff, hm]
  simp only [setM, Bool.and_eq_true, decide_eq_true_eq, beq_iff_eq]
  have e : (((n.toNat : Nat) : Int)) = n := by omega
  rw [e]
  constructor
  · rintro ⟨h1, h2⟩
    refine ⟨by omega, ?_⟩
    rw [Bool.eq_false_iff]; intro hh
    have := h.2 hh
    rw [this] at h2; simp at h2
  · rintro ⟨h1, h2⟩
    refine ⟨by omega, ?_⟩
    rw [beq_eq_false_iff_ne]
    intro hh
    have := h.1 hh
    rw [h2] at this; cases this
end
/-! numbers -/
theorem pagesX_cons (a c : Int) : ∀ (j : Nat), pagesX (a, c) (j + 1) = a :: pagesX (a + 1, c) j
  | j => by
    simp only [pagesX, List.range_succ_eq_map, List.map_cons, List.map_map]
    congr 1
    · simp
    · apply List.map_congr_left
      intro k _
      simp only [Function.comp]
      omega
theorem pagesX_get (x : Sp) (j i : Nat) (h : i < j) : (pagesX x j).getD i 0 = x.1 + (i : Int) := by
  simp [pagesX, List.getD_eq_getElem?_getD, h]
theorem pagesX_len (x : Sp) (j : Nat) : (pagesX x j).length = j := by simp [pagesX]
theorem getD_app_l (l r : List Int) (i : Nat) (h : i < l.length) : (l ++ r).getD i 0 = l.getD i 0 := by simp [List.getD_eq_getElem?_getD, List.getElem?_append_left h]
theorem getD_app_r (l r : List Int) (i : Nat) (h : l.length ≤ i) : (l ++ r).getD i 0 = r.getD (i - l.length) 0 := by simp [List.getD_eq_getElem?_getD, List.getElem?_append_right h]
def nthP (l : List Int) (i : Int) : Int × Int := if i < 0 ∨ (l.length : Int) ≤ i then (0, 7) else (l.getD i.toNat 0, 0)
theorem nthF_pages : ∀ (L : List Sp) (i : Int), (∀ x ∈ L, 1 ≤ x.2) → nthF L i = nthP (pagesOf L) i
  | [], i, _ => by simp [nthF, nthP, pagesOf]
  | x :: r, i, h => by
    have hx := h x (by simp)
    have ih := nthF_pages r (i - x.2) (fun y hy => h y (by simp [hy]))
    rw [nthF]
    by_cases h0 : i < 0
    · rw [if_pos h0, nthP, if_pos (.inl h0)]
    rw [if_neg h0]
    have hl : (pagesOf (x :: r)).length = x.2.toNat + (pagesOf r).length := by rw [pagesOf_cons, List.length_append, pagesX_len]
    by_cases h1 : i < x.2
    · rw [if_pos h1, nthP, if_neg (by rw [hl]; omega), pagesOf_cons, getD_app_l _ _ _ (by rw [pagesX_len]; omega), pagesX_get _ _ _ (by omega)]
      congr 1; omega
    · rw [if_neg h1, ih, nthP, nthP]
      by_cases h2 : i - x.2 < 0 ∨ ((pagesOf r).length : Int) ≤ i - x.2
      · rw [if_pos h2, if_pos (by rw [hl]; omega)]
      · rw [if_neg h2, if_neg (by rw [hl]; omega), pagesOf_cons, getD_app_r _ _ _ (by rw [pagesX_len]; omega), pagesX_len]
        congr 2; omega
def idxL (page : Int) : Int → List Int → Int × Int
  | _, [] => (0, 4)
  | k, y :: r => if y = page then (k, 0) else idxL page (k + 1) r
theorem idxL_pagesX (page c : Int) (r : List Int) : ∀ (j : Nat) (a k : Int), idxL page k (pagesX (a, c) j ++ r) = if a ≤ page ∧ page < a + j then (k + (page - a), 0) else idxL page (k + j) r
  | 0, a, k => by rw [if_neg (by omega)]; simp [pagesX]
  | j + 1, a, k => by
    rw [pagesX_cons, List.cons_append, idxL, idxL_pagesX page c r j (a + 1) (k + 1)]
    by_cases h : a = page
    · rw [if_pos h, if_pos (by omega)]; congr 1; omega
    · rw [if_neg h]
      by_cases h2 : a + 1 ≤ page ∧ page < a + 1 + j
      · rw [if_pos h2, if_pos (by omega)]; congr 1; omega
      · rw [if_neg h2, if_neg (by omega)]; congr 1; omega
theorem idxF_pages (page : Int) : ∀ (L : List Sp) (k : Int), (∀ x ∈ L, 1 ≤ x.2) → idxF page k L = idxL page k (pagesOf L)
  | [], k, _ => rfl
  | x :: r, k, h => by
    obtain ⟨xa, xb⟩ := x
    have hx := h (xa, xb) (by simp)
    have ih := idxF_pages page r (k + xb) (fun y hy => h y (by simp [hy]))
    simp only at hx
    rw [idxF, pagesOf_cons]
    simp only
    rw [idxL_pagesX]
    by_cases h1 : xa ≤ page ∧ page < xa + xb
    · rw [if_pos h1, if_pos (by omega)]; congr 1; omega
    · rw [if_neg h1, if_neg (by omega), ih]; congr 1; omega
/-! what is hit -/
theorem skipF_ok : ∀ (L : List Sp) (p e : Int), (∀ x ∈ L, 1 ≤ x.2) → formOk e L = true → p ≤ skipF p L ∧ (∀ q, p ≤ q → q < skipF p L → mem q L = true) ∧ mem (skipF p L) L = false
  | [], p, e, _, _ => ⟨Int.le_refl _, fun q h1 h2 => by simp only [skipF] at h2; omega, rfl⟩
  | x :: r, p, e, h, hf => by
    have hf' := formOk_cons.1 hf
    have hx := h x (by simp)
    have hr : ∀ y ∈ r, 1 ≤ y.2 := fun y hy => h y (by simp [hy])
    have low : ∀ q, mem q r = true → x.1 + x.2 < q := fun q hq => mem_lt hf'.2 (fun y hy => by have := hr y hy; omega) hq
    rw [skipF]
    by_cases h1 : x.1 ≤ p ∧ p < x.1 + x.2
    · rw [if_pos h1]
      refine ⟨by omega, fun q h2 h3 => mem_cons'.2 (.inl (by omega)), ?_⟩
      rw [Bool.eq_false_iff]; intro hh
      rcases mem_cons'.1 hh with h2 | h2
      · omega
      · have := low _ h2; omega
    · rw [if_neg h1]
      obtain ⟨a1, a2, a3⟩ := skipF_ok r p (x.1 + x.2) hr hf'.2
      refine ⟨a1, fun q h2 h3 => mem_cons'.2 (.inr (a2 q h2 h3)), ?_⟩
      rw [Bool.eq_false_iff]; intro hh
      rcases mem_cons'.1 hh with h2 | h2
      · by_cases hpq : skipF p r = p
        · rw [hpq] at h2; exact h1 h2
        · have h4 := a2 (skipF p r - 1) (by omega) (by omega)
          have := low _ h4; omega
      · rw [a3] at h2; cases h2
def hitS (K : Int → Int) (la : Int) : Nat → Int → Int × Int × Int
  | 0, _ => (0, -1, 0)
  | k + 1, p => if la < p then (0, -1, 0) else if K p ≠ 0 then (K p, p, 0) else hitS K la k (p + 1)
theorem hitS_skip (K : Int → Int) (la s : Int) (hs : K s ≠ 0) : ∀ (k : Nat) (p : Int), la - p < k → p ≤ s → (∀ q, p ≤ q → q < s → K q = 0) → hitS K la k p = if la < s then (0, -1, 0) else (K s, s, 0)
  | 0, p, h, hps, _ => by rw [hitS, if_pos (by omega)]
  | k + 1, p, h, hps, hq => by
    rw [hitS]
    by_cases h1 : la < p
    · rw [if_pos h1, if_pos (by omega)]
    rw [if_neg h1]
    by_cases h2 : p = s
    · subst h2; rw [if_pos hs, if_neg h1]
    · rw [if_neg (by rw [hq p (Int.le_refl _) (by omega)]; simp), hitS_skip K la s hs k (p + 1) (by omega) (by omega) (fun q h3 h4 => hq q (by omega) h4)]
theorem hitK_kind {pg n f b ev q : Int} (hp : PlanOk pg n f b ev) (h : kindG pg n f b ev q ≠ 0) : kindG pg n f b ev q = hitK pg n f b q := by
  have a1 := hp.f0; have a2 := hp.b0
  unfold kindG at h ⊢
  unfold hitK
  by_cases h1 : q - pg < 0 ∨ n ≤ q - pg
  · rw [if_pos h1, if_pos (show q < pg ∨ pg + n ≤ q by omega)]
  rw [if_neg h1] at h ⊢
  rw [if_neg (show ¬ (q < pg ∨ pg + n ≤ q) by omega)]
  by_cases h2 : q - pg < f
  · rw [if_pos h2, if_pos (show q < pg + f by omega)]
  rw [if_neg h2] at h ⊢
  rw [if_neg (show ¬ q < pg + f by omega)]
  by_cases h3 : n - b ≤ q - pg
  · rw [if_pos h3, if_pos (show pg + n - b ≤ q by omega)]
  rw [if_neg h3] at h ⊢
  rw [if_neg (show ¬ pg + n - b ≤ q by omega)]
  split at h
  · rename_i h4; rw [if_pos h4]
  · exact absurd rfl h
/-- what the reference's Hit answers -/
def hitR (pg n f b ev a m : Int) : Int × Int × Int :=
  if chkG pg n f b ev = 0 then (if badHit a m then (0, 0, 2) else hitS (kindG pg n f b ev) ((a + m - 1) / 64) 1100 (a / 64)) else (0, 0, chkG pg n f b ev)
theorem hit_law (pg n f b ev a m : Int) : hitR pg n f b ev a m = hitF pg n f b ev a m := by
  unfold hitR hitF
  by_cases hc : chkG pg n f b ev = 0
  · rw [if_pos hc, if_pos hc]
    have hp := chkG_zero.1 hc
    by_cases hb : badHit a m
    · rw [if_pos hb, if_pos hb]
    · rw [if_neg hb, if_neg hb]
      unfold badHit at hb
      have hcan := runsL_can hp
      obtain ⟨s1, s2, s3⟩ := skipF_ok (runsL pg n f b ev) (a / 64) (-1) (fun x hx => (vld_iff.1 (hcan.1 x hx)).2.2.1) hcan.2
      have hk : kindG pg n f b ev (skipF (a / 64) (runsL pg n f b ev)) ≠ 0 := fun h => by
        have := (kindG_zero hp _).1 h
        rw [s3] at this; cases this
      rw [hitS_skip (kindG pg n f b ev) ((a + m - 1) / 64) _ hk 1100 (a / 64) (by omega) s1 (fun q h1 h2 => (kindG_zero hp q).2 (s2 q h1 h2)), hitK_kind hp hk]
  · rw [if_neg hc, if_neg hc]
end Go.Pol
