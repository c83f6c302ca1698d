/- Best: the way back through the table of least wastes. No program in sight. -/
import Derived.Test.YtiohcegkkpeodaaDoorSpecB
namespace Go.Pol
/-- the first entry from j on that may be the last one of the first class -/
def pickF (us : List (Int × Int)) (m i : Nat) : Nat → Nat → Nat
  | 0, j => j
  | f + 1, j => if rowF us (m - 1) (j + 1) < 0 ∨ costF us i j + rowF us (m - 1) (j + 1) ≠ rowF us m i then pickF us m i f (j + 1) else j
/-- the classes from entry i on, m of them -/
def recon (us : List (Int × Int)) : Nat → Nat → List Int
  | 0, _ => []
  | q + 1, i => if i < us.length then (us.getD (pickF us (q + 1) i (us.length - i) i) (0,0)).1 :: recon us q (pickF us (q + 1) i (us.length - i) i + 1) else []
theorem cell_attain (us : List (Int × Int)) (p : Nat → Int) (i : Nat) : ∀ t, 0 ≤ cellL us p i t → ∃ d, d < t ∧ 0 ≤ p (i + d + 1) ∧ costF us i (i + d) + p (i + d + 1) = cellL us p i t
  | 0, h => by simp [cellL] at h
  | t + 1, h => by
    unfold cellL at h ⊢
    split
    · rename_i hc
      exact ⟨t, by omega, hc.1, rfl⟩
    · rename_i hc
      rw [if_neg hc] at h
      obtain ⟨d, hd, h1, h2⟩ := cell_attain us p i t h
      exact ⟨d, by omega, h1, h2⟩
theorem row_attain (us : List (Int × Int)) (q i : Nat) (hi : i < us.length) (h : 0 ≤ rowF us (q + 1) i) : ∃ j, i ≤ j ∧ j < us.length ∧ 0 ≤ rowF us q (j + 1) ∧ costF us i j + rowF us q (j + 1) = rowF us (q + 1) i := by
  have e : rowF us (q + 1) i = cellL us (rowF us q) i (us.length - i) := by rw [rowF, if_pos hi]
  rw [e] at h ⊢
  obtain ⟨d, hd, h1, h2⟩ := cell_attain us (rowF us q) i _ h
  exact ⟨i + d, by omega, by omega, h1, h2⟩
theorem cell_le (us : List (Int × Int)) (p : Nat → Int) (i : Nat) (hc : ∀ d, 0 ≤ p (i + d + 1) → 0 ≤ costF us i (i + d)) : ∀ t d, d < t → 0 ≤ p (i + d + 1) → 0 ≤ cellL us p i t ∧ cellL us p i t ≤ costF us i (i + d) + p (i + d + 1)
  | 0, d, hd, _ => absurd hd (by omega)
  | t + 1, d, hd, hp => by
    unfold cellL
    by_cases e : d = t
    · subst e
      have := hc d hp
      split
      · omega
      · rename_i h; omega
    · obtain ⟨h1, h2⟩ := cell_le us p i hc t d (by omega) hp
      split
      · rename_i h
        have := hc t h.1
        omega
      · exact ⟨h1, h2⟩
theorem row_le {us : List (Int × Int)} (h : okU us) (q i j : Nat) (hij : i ≤ j) (hj : j < us.length) (hp : 0 ≤ rowF us q (j + 1)) : 0 ≤ rowF us (q + 1) i ∧ rowF us (q + 1) i ≤ costF us i j + rowF us q (j + 1) := by
  have hi : i < us.length := by omega
  rw [rowF, if_pos hi]
  have hlen : ∀ d, 0 ≤ rowF us q (i + d + 1) → i + d < us.length := fun d hd => by
    by_cases hlt : i + d < us.length
    · exact hlt
    · exfalso
      cases q with
      | zero => simp only [rowF] at hd; split at hd <;> omega
      | succ q => simp only [rowF] at hd; rw [if_neg (by omega)] at hd; omega
  have := cell_le us (rowF us q) i (fun d hd => (h.cost (by omega) (hlen d hd)).1) (us.length - i) (j - i) (by omega) (by rwa [show i + (j - i) + 1 = j + 1 by omega])
  rwa [show i + (j - i) = j by omega] at this
theorem row_nonneg {us : List (Int × Int)} (h : okU us) : ∀ m i, 1 ≤ m → i + m ≤ us.length → 0 ≤ rowF us m i
  | 0, _, hm, _ => absurd hm (by omega)
  | 1, i, _, hi => (row_le h 0 i (us.length - 1) (by omega) (by omega) (by rw [show us.length - 1 + 1 = us.length by omega, rowF, if_pos rfl]; omega)).1
  | m + 2, i, _, hi => (row_le h (m + 1) i i (Nat.le_refl _) (by omega) (row_nonneg h (m + 1) (i + 1) (by omega) (by omega))).1
theorem row_end (us : List (Int × Int)) (m : Nat) (h : 0 ≤ rowF us m us.length) : m = 0 := by
  cases m with
  | zero => rfl
  | succ m => rw [rowF, if_neg (by omega)] at h; omega
theorem row_zero (us : List (Int × Int)) (i : Nat) (h : 0 ≤ rowF us 0 i) : i = us.length := by
  rw [rowF] at h; split at h
  · assumption
  · omega
theorem row_lt (us : List (Int × Int)) (q j : Nat) (h : 0 ≤ rowF us q (j + 1)) : j < us.length := by
  cases q with
  | zero => have := row_zero us _ h; omega
  | succ q =>
    rw [rowF] at h
    split at h
    · omega
    · omega
theorem pick_spec (us : List (Int × Int)) (m i : Nat) (j0 : Nat) (h0 : 0 ≤ rowF us (m - 1) (j0 + 1) ∧ costF us i j0 + rowF us (m - 1) (j0 + 1) = rowF us m i) : ∀ f j, j ≤ j0 → j0 < j + f →
    j ≤ pickF us m i f j ∧ pickF us m i f j ≤ j0 ∧ 0 ≤ rowF us (m - 1) (pickF us m i f j + 1) ∧ costF us i (pickF us m i f j) + rowF us (m - 1) (pickF us m i f j + 1) = rowF us m i
  | 0, j, h1, h2 => by omega
  | f + 1, j, h1, h2 => by
    unfold pickF
    split
    · rename_i hc
      have hne : j ≠ j0 := by rintro rfl; omega
      have := pick_spec us m i j0 h0 f (j + 1) (by omega) (by omega)
      omega
    · rename_i hc
      refine ⟨Nat.le_refl _, h1, by omega, ?_⟩
      omega
theorem mSel_le (us : List (Int × Int)) (K : Nat) : ∀ m, mSel us K m ≤ m ∧ (1 ≤ m → 1 ≤ mSel us K m)
  | 0 => by simp [mSel]
  | m + 1 => by
    have := mSel_le us K m
    unfold mSel
    split
    · omega
    · omega
theorem mSel_row (us : List (Int × Int)) (K : Nat) : ∀ m, rowF us m 0 = rowF us K 0 → 1 ≤ m → rowF us (mSel us K m) 0 = rowF us K 0
  | 0, _, h => absurd h (by omega)
  | m + 1, h, _ => by
    unfold mSel
    split
    · rename_i hc; exact mSel_row us K m hc.2 hc.1
    · exact h
end Go.Pol
