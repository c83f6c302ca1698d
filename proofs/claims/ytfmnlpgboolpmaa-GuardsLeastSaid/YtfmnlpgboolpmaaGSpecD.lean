/- Plain law: the least range with so many usable pages is found by the formula as by the search. -/
import Derived.Test.YtfmnlpgboolpmaaGSpecC
import Derived.Test.YtfmnlpgboolpmaaGWalkI
namespace Go.Proofs.Ytfmnlpgboolpmaa
open Go Go.Proofs Go.RowKit Go.Pol
theorem sum_runs (sz en : Int) (hsz : 1 ≤ sz) : ∀ (k : Nat) (a : Int), en - a < k → sumS (runsF sz en k a) = if en - a ≤ 0 then 0 else (en - a) - (en - a) / (sz + 1)
  | 0, a, h => by rw [if_pos (by omega)]; rfl
  | k + 1, a, h => by
    rw [runsF]
    by_cases hlt : a < en
    · rw [if_pos hlt, if_neg (by omega)]
      have ih := sum_runs sz en hsz k (a + sz + 1) (by omega)
      have e : sumS ((a, min sz (en - a)) :: runsF sz en k (a + sz + 1)) = min sz (en - a) + sumS (runsF sz en k (a + sz + 1)) := by simp [sumS]
      rw [e, ih]
      by_cases h1 : en - a ≤ sz
      · rw [if_pos (by omega), Int.ediv_eq_zero_of_lt (by omega) (by omega)]; omega
      · have e2 : (en - a) / (sz + 1) = (en - (a + sz + 1)) / (sz + 1) + 1 := by
          rw [show en - a = (en - (a + sz + 1)) + (sz + 1) * 1 by omega, Int.add_mul_ediv_left _ _ (by omega)]
        rw [e2]
        by_cases h2 : en - (a + sz + 1) ≤ 0
        · rw [if_pos h2, show en - (a + sz + 1) = 0 by omega, Int.zero_ediv]; omega
        · rw [if_neg h2]; omega
    · rw [if_neg hlt, if_pos (by omega)]; rfl
theorem ediv_mono (m T T0 : Int) (hm : 1 ≤ m) (h : T ≤ T0) : T - T / m ≤ T0 - T0 / m := by
  have h1 : 1 * (T0 - T) ≤ m * (T0 - T) := Int.mul_le_mul_of_nonneg_right hm (by omega)
  have h2 : T0 / m ≤ (T + m * (T0 - T)) / m := Int.ediv_le_ediv (by omega) (by omega)
  rw [Int.add_mul_ediv_left _ _ (by omega)] at h2
  omega
/-- how many usable pages a range from page 0 on has -/
theorem count_eq {p f b ev : Int} (hp : PlanOk 0 p f b ev) : (countF 0 p f b ev).1 = (p - f - b) - (p - f - b) / ((if ev = 0 then 1024 else ev) + 1) := by
  unfold countF
  rw [if_pos (chkG_zero.2 hp)]
  have a1 := hp.fb; have a2 := hp.n1; have a3 := hp.f0; have a4 := hp.b0; have a5 := hp.e0
  simp only [runsL]
  rw [sum_runs _ _ (by split <;> omega) _ _ (by omega), if_neg (by omega)]
  rw [show (0 : Int) + p - b - (0 + f) = p - f - b by omega]
def leastS (u f b ev : Int) : Nat → Int → Int × Int × Int
  | 0, _ => (0, 0, 7)
  | k + 1, p => if 1024 < p then (0, 0, 7) else if chkG 0 p f b ev ≠ 0 ∨ (countF 0 p f b ev).1 < u then leastS u f b ev k (p + 1) else (p, (Lib.bitLen (p - 1).toNat : Int), 0)
def leastR (u f b ev : Int) : Int × Int × Int := if badLeast u f b ev then (0, 0, 7) else leastS u f b ev 1100 u
section
variable {u f b ev : Int}
theorem least_low (hu : 1 ≤ u) (he : 0 ≤ ev) {p : Int} (h : p < leastP u f b ev) (hp : PlanOk 0 p f b ev) : (countF 0 p f b ev).1 < u := by
  rw [count_eq hp]
  unfold leastP at h
  have a1 := hp.fb
  by_cases h0 : ev = 0
  · subst h0
    rw [if_pos rfl]
    rw [if_neg (by omega)] at h
    have : 0 ≤ (p - f - b) / (1024 + 1) := Int.ediv_nonneg (by omega) (by omega)
    omega
  · rw [if_neg h0]
    rw [if_pos (by omega)] at h
    have hq := Int.emod_add_mul_ediv (u - 1) ev
    have hr := Int.emod_nonneg (u - 1) h0
    have hr2 := Int.emod_lt_of_pos (u - 1) (show 0 < ev by omega)
    generalize hqq : (u - 1) / ev = q at *
    generalize (u - 1) % ev = r at *
    have hd := ediv_mono (ev + 1) (p - f - b) (u + q - 1) (by omega) (by omega)
    have e : (u + q - 1) / (ev + 1) = q := by
      rw [show u + q - 1 = r + (ev + 1) * q by rw [Int.add_mul]; omega, Int.add_mul_ediv_left _ _ (by omega), Int.ediv_eq_zero_of_lt hr (by omega)]
      omega
    rw [e] at hd
    omega
theorem least_at (hu : 1 ≤ u ∧ u ≤ 1024) (he : 0 ≤ ev) (hp : PlanOk 0 (leastP u f b ev) f b ev) : u ≤ (countF 0 (leastP u f b ev) f b ev).1 := by
  rw [count_eq hp]
  clear hp
  unfold leastP
  by_cases h0 : ev = 0
  · subst h0
    rw [if_pos rfl, if_neg (by omega)]
    rw [show u + f + b + 0 - f - b = u by omega, Int.ediv_eq_zero_of_lt (by omega) (by omega)]; omega
  · rw [if_neg h0, if_pos (by omega)]
    have hq := Int.emod_add_mul_ediv (u - 1) ev
    have hr := Int.emod_nonneg (u - 1) h0
    have hr2 := Int.emod_lt_of_pos (u - 1) (show 0 < ev by omega)
    generalize hqq : (u - 1) / ev = q at *
    generalize (u - 1) % ev = r at *
    have e : (u + f + b + q - f - b) / (ev + 1) = q := by
      rw [show u + f + b + q - f - b = (r + 1) + (ev + 1) * q by rw [Int.add_mul]; omega, Int.add_mul_ediv_left _ _ (by omega), Int.ediv_eq_zero_of_lt (by omega) (by omega)]
      omega
    rw [e]; omega
theorem leastP_ge (hu : 1 ≤ u) : u + f + b ≤ leastP u f b ev := by
  unfold leastP
  split
  · have : 0 ≤ (u - 1) / ev := Int.ediv_nonneg (by omega) (by omega)
    omega
  · omega
theorem leastS_law (hu : 1 ≤ u ∧ u ≤ 1024) (hw : wrongG f b ev = false) : ∀ (k : Nat) (p : Int), 1024 - p < k → u ≤ p → p ≤ leastP u f b ev →
    leastS u f b ev k p = if 1024 < leastP u f b ev then (0, 0, 7) else (leastP u f b ev, (Lib.bitLen (leastP u f b ev - 1).toNat : Int), 0)
  | 0, p, h, _, hp => by rw [leastS, if_pos (by omega)]
  | k + 1, p, h, hup, hp => by
    have hw' := wrongG_iff.1 hw
    have hge := leastP_ge (f := f) (b := b) (ev := ev) hu.1
    rw [leastS]
    by_cases h1 : 1024 < p
    · rw [if_pos h1, if_pos (by omega)]
    rw [if_neg h1]
    by_cases h2 : p = leastP u f b ev
    · have hpl : PlanOk 0 (leastP u f b ev) f b ev := ⟨by omega, by omega, by omega, by omega, hw'.1.1, hw'.1.2, hw'.2.1.1, hw'.2.1.2, hw'.2.2.1, hw'.2.2.2, by omega⟩
      have := least_at hu hw'.2.2.1 hpl
      rw [h2, if_neg (by rw [chkG_zero.2 hpl]; simp; omega), if_neg (by omega)]
    · rw [if_pos]
      · exact leastS_law hu hw k (p + 1) (by omega) (by omega) (by omega)
      · by_cases hc : chkG 0 p f b ev = 0
        · exact .inr (least_low hu.1 hw'.2.2.1 (by omega) (chkG_zero.1 hc))
        · exact .inl hc
theorem least_law (u f b ev : Int) : leastR u f b ev = leastF u f b ev := by
  unfold leastR leastF
  by_cases hb : badLeast u f b ev
  · rw [if_pos hb, if_pos hb]
  · rw [if_neg hb, if_neg hb]
    unfold badLeast at hb
    have hw : wrongG f b ev = false := by cases h : wrongG f b ev with | false => rfl | true => exact absurd (.inr (.inr h)) hb
    have hw' := wrongG_iff.1 hw
    exact leastS_law ⟨by omega, by omega⟩ hw 1100 u (by omega) (Int.le_refl _) (by have := leastP_ge (u := u) (f := f) (b := b) (ev := ev) (by omega); omega)
end
theorem ord_of : ∀ (p : Fin 1025) (k : Fin 12), 1 ≤ p.val → p.val ≤ 2 ^ k.val → (∀ j : Fin 12, j.val < k.val → 2 ^ j.val < p.val) → Lib.bitLen (p.val - 1) = k.val := by decide +kernel
end Go.Proofs.Ytfmnlpgboolpmaa
