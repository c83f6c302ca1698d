/- Plain laws: how many pages of a span are in a set. -/
import Derived.Test.YtfmnlpgboolpmaaSSpecA
import Derived.Test.YtfmnlpgboolpmaaGSpecG
namespace Go.Pol
open Go
def cntN (f : Int → Bool) : Nat → Int → Int
  | 0, _ => 0
  | k + 1, a => (if f a = true then 1 else 0) + cntN f k (a + 1)
/-- how many pages of a span are in some spans -/
def cntF (us : List Sp) (x : Sp) : Int := cntN (fun q => mem q us) x.2.toNat x.1
theorem cntN_snoc (f : Int → Bool) : ∀ (k : Nat) (a : Int), cntN f (k + 1) a = cntN f k a + if f (a + k) = true then 1 else 0
  | 0, a => by simp [cntN]
  | k + 1, a => by
    rw [cntN, cntN_snoc f k (a + 1), cntN, show a + 1 + (k : Int) = a + (k + 1 : Nat) by omega]
    omega
theorem cntN_split (f : Int → Bool) : ∀ (j k : Nat) (a : Int), cntN f (j + k) a = cntN f j a + cntN f k (a + j)
  | 0, k, a => by simp [cntN]
  | j + 1, k, a => by
    rw [show j + 1 + k = (j + k) + 1 by omega, cntN, cntN_split f j k (a + 1), cntN, show a + 1 + (j : Int) = a + (j + 1 : Nat) by omega]
    omega
theorem cntN_congr {f g : Int → Bool} : ∀ (k : Nat) (a : Int), (∀ q, a ≤ q → q < a + k → f q = g q) → cntN f k a = cntN g k a
  | 0, a, _ => rfl
  | k + 1, a, h => by
    rw [cntN, cntN, h a (by omega) (by omega), cntN_congr k (a + 1) (fun q h1 h2 => h q (by omega) (by omega))]
theorem cntN_bound (f : Int → Bool) : ∀ (k : Nat) (a : Int), 0 ≤ cntN f k a ∧ cntN f k a ≤ k
  | 0, a => by simp [cntN]
  | k + 1, a => by
    have := cntN_bound f k (a + 1)
    rw [cntN]
    split <;> omega
theorem cntN_all {f : Int → Bool} : ∀ (k : Nat) (a : Int), (∀ q, a ≤ q → q < a + k → f q = true) → cntN f k a = k
  | 0, a, _ => rfl
  | k + 1, a, h => by
    rw [cntN, h a (by omega) (by omega), if_pos rfl, cntN_all k (a + 1) (fun q h1 h2 => h q (by omega) (by omega))]
    omega
theorem cntN_none {f : Int → Bool} : ∀ (k : Nat) (a : Int), (∀ q, a ≤ q → q < a + k → f q = false) → cntN f k a = 0
  | 0, a, _ => rfl
  | k + 1, a, h => by
    rw [cntN, h a (by omega) (by omega), if_neg (by decide), cntN_none k (a + 1) (fun q h1 h2 => h q (by omega) (by omega))]
    omega
theorem cntN_full {f : Int → Bool} : ∀ (k : Nat) (a : Int), cntN f k a = k → ∀ q, a ≤ q → q < a + k → f q = true
  | 0, a, _, q, h1, h2 => by omega
  | k + 1, a, h, q, h1, h2 => by
    have hb := cntN_bound f k (a + 1)
    rw [cntN] at h
    by_cases hfa : f a = true
    · rw [if_pos hfa] at h
      by_cases hqa : q = a
      · rw [hqa]; exact hfa
      · exact cntN_full k (a + 1) (by omega) q (by omega) (by omega)
    · rw [if_neg hfa] at h; omega
theorem cntN_zero {f : Int → Bool} : ∀ (k : Nat) (a : Int), cntN f k a = 0 → ∀ q, a ≤ q → q < a + k → f q = false
  | 0, a, _, q, h1, h2 => by omega
  | k + 1, a, h, q, h1, h2 => by
    have hb := cntN_bound f k (a + 1)
    rw [cntN] at h
    by_cases hfa : f a = true
    · rw [if_pos hfa] at h; omega
    · rw [if_neg hfa] at h
      by_cases hqa : q = a
      · rw [hqa]; simpa using hfa
      · exact cntN_zero k (a + 1) (by omega) q (by omega) (by omega)
theorem cnt_sum : ∀ (us : List Sp) (e a : Int), formOk e us = true → (∀ x ∈ us, vld x = true) → (∀ x ∈ us, a ≤ x.1) → a ≤ 1024 → cntN (fun q => mem q us) (1024 - a).toNat a = sumS us
  | [], _, a, _, _, _, _ => by rw [cntN_none (f := fun q => mem q []) _ _ (fun q _ _ => rfl)]; simp [sumS]
  | x :: r, e, a, hf, hv, ha, hle => by
    have hf' := formOk_cons.1 hf
    have hx := vld_iff.1 (hv x (by simp))
    have hax := ha x (by simp)
    have hrv : ∀ y ∈ r, vld y = true := fun y hy => hv y (by simp [hy])
    have low : ∀ q, mem q r = true → x.1 + x.2 < q := fun q hq => mem_lt hf'.2 (fun y hy => by have := vld_iff.1 (hrv y hy); omega) hq
    have hr : ∀ y ∈ r, x.1 + x.2 ≤ y.1 := fun y hy => by
      have := vld_iff.1 (hrv y hy)
      have := low y.1 (List.any_eq_true.2 ⟨y, hy, by simp; omega⟩)
      omega
    have ih := cnt_sum r (x.1 + x.2) (x.1 + x.2) hf'.2 hrv hr (by omega)
    have e1 : (1024 - a).toNat = (x.1 - a).toNat + (x.2.toNat + (1024 - (x.1 + x.2)).toNat) := by omega
    rw [e1, cntN_split, cntN_split, show a + ((x.1 - a).toNat : Int) = x.1 by omega, show x.1 + (x.2.toNat : Int) = x.1 + x.2 by omega]
    rw [cntN_none (x.1 - a).toNat a (fun q h1 h2 => by
      rw [Bool.eq_false_iff]; intro hh
      rcases mem_cons'.1 hh with h | h
      · omega
      · have := low q h; omega)]
    rw [cntN_all x.2.toNat x.1 (fun q h1 h2 => mem_cons'.2 (.inl (by omega)))]
    rw [cntN_congr (g := fun q => mem q r) _ _ (fun q h1 h2 => by
      show mem q (x :: r) = mem q r
      rw [mem_cons, Bool.eq_iff_iff]
      simp
      omega), ih]
    have : sumS (x :: r) = x.2 + sumS r := by simp [sumS]
    omega
theorem count_law {us : List Sp} (h : Can us) : cntF us (0, 1024) = sumS us := by
  have := cnt_sum us (-1) 0 h.2 h.1 (fun x hx => (vld_iff.1 (h.1 x hx)).1) (by omega)
  exact this
theorem has_law {us : List Sp} {x : Sp} (h : Can us) (hv : vld x = true) : (gapsF us x).isEmpty = (cntF us x == x.2) := by
  obtain ⟨hg, hm⟩ := h.gaps hv
  have hx := vld_iff.1 hv
  have e : ((x.2.toNat : Nat) : Int) = x.2 := by omega
  cases hG : gapsF us x with
  | nil =>
    have : cntF us x = x.2 := by
      unfold cntF
      rw [cntN_all, e]
      intro q h1 h2
      show mem q us = true
      cases hq : mem q us with
      | true => rfl
      | false =>
        have := (hm q).2 ⟨by omega, hq⟩
        rw [hG] at this; cases this
    rw [this]; simp
  | cons y r =>
    have hy : mem y.1 (gapsF us x) = true := by
      rw [hG]
      have := vld_iff.1 (hg.1 y (by rw [hG]; simp))
      exact mem_cons'.2 (.inl (by omega))
    have h1 := (hm y.1).1 hy
    have : cntF us x ≠ x.2 := fun hc => by
      unfold cntF at hc
      have := cntN_full _ _ (hc.trans e.symm) y.1 (by omega) (by omega)
      rw [show mem y.1 us = true from this] at h1
      cases h1.2
    simp [this]
theorem meets_law {us : List Sp} {x : Sp} (h : Can us) (hv : vld x = true) : (commonF us [x]).isEmpty = (cntF us x == 0) := by
  have hc1 := Can.one hv
  have hm := fun q => h.mem_common hc1 (p := q)
  have hcc := h.common hc1
  cases hG : commonF us [x] with
  | nil =>
    have : cntF us x = 0 := by
      unfold cntF
      apply cntN_none
      intro q h1 h2
      have hx := vld_iff.1 hv
      have h3 := hm q
      rw [hG, mem_nil] at h3
      have h4 : mem q [x] = true := mem_cons'.2 (.inl (by omega))
      rw [h4, Bool.and_true] at h3
      exact h3.symm
    rw [this]; simp
  | cons y r =>
    have hy : mem y.1 (commonF us [x]) = true := by
      rw [hG]
      have := vld_iff.1 (hcc.1 y (by rw [hG]; simp))
      exact mem_cons'.2 (.inl (by omega))
    have h1 := hm y.1
    rw [hy] at h1
    have h2 := Bool.and_eq_true_iff.1 h1.symm
    have h3 : x.1 ≤ y.1 ∧ y.1 < x.1 + x.2 := by
      rcases mem_cons'.1 h2.2 with h | h
      · exact h
      · cases h
    have : cntF us x ≠ 0 := fun hc => by
      unfold cntF at hc
      have := cntN_zero _ _ hc y.1 (by omega) (by omega)
      rw [show mem y.1 us = false from this] at h2
      cases h2.1
    simp [this]
end Go.Pol
