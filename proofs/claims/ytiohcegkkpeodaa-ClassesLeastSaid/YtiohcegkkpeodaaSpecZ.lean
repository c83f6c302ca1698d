/- The plain law of the least waste: no table at all with so many classes wastes less than the best one. No program in sight. -/
import Derived.Test.YtiohcegkkpeodaaSpecX
import Derived.Test.YtiohcegkkpeodaaSpecT
namespace Go.Pol
theorem cls_mono (xs : List Int) (s t : Int) (h : s ≤ t) : cls xs s ≤ cls xs t := by
  induction xs with
  | nil => simp [cls]
  | cons x r ih =>
    unfold cls
    by_cases h1 : x < s
    · rw [if_pos h1, if_pos (by omega)]; omega
    · rw [if_neg h1]; omega
/-- every table makes runs of the entries, no more than it has classes, that waste no more -/
theorem runs_of {us : List (Int × Int)} (h : okU us) (xs : List Int) : ∀ (d i : Nat), i + d = us.length → ∀ (a v : Int), wstL xs a (us.drop i) = some v →
    ∃ js, chain us.length i js ∧ runW us i js ≤ v - a ∧ (i < us.length → js.length + cls xs (szU us i) ≤ xs.length ∧ cls xs (szU us i) < xs.length) ∧ (∀ j r, js = j :: r → szU us j ≤ xs.getD (cls xs (szU us i)) 0)
  | 0, i, hi, a, v, hw => by
    rw [List.drop_of_length_le (by omega)] at hw
    simp only [wstL, Option.some.injEq] at hw
    exact ⟨[], by simp [chain]; omega, by simp [runW]; omega, fun h => by omega, fun j r h => by cases h⟩
  | d + 1, i, hi, a, v, hw => by
    rw [drop_cons' (0,0) us i (by omega), wstL] at hw
    have hsz : (us.getD i (0,0)).1 = szU us i := rfl
    rw [hsz] at hw
    by_cases hc : cls xs (szU us i) = xs.length
    · rw [if_pos hc] at hw; cases hw
    · rw [if_neg hc] at hw
      have hcl : cls xs (szU us i) < xs.length := by have := cls_le xs (szU us i); omega
      have hge := cls_ge xs (szU us i) hcl
      have hu := h.at_ i (by omega)
      obtain ⟨js, c1, c2, c3, c4⟩ := runs_of h xs d (i + 1) (by omega) _ v hw
      by_cases hsame : i + 1 < us.length ∧ cls xs (szU us (i + 1)) = cls xs (szU us i)
      · obtain ⟨hi1, hs⟩ := hsame
        cases js with
        | nil => simp [chain] at c1; omega
        | cons j r =>
          obtain ⟨q1, q2, q3⟩ := c1
          have hj := c4 j r rfl
          rw [hs] at hj
          have c3' := c3 hi1
          rw [hs] at c3'
          refine ⟨j :: r, ⟨by omega, q2, q3⟩, ?_, fun _ => c3', fun j' r' e => by injection e with e1 _; rw [← e1]; exact hj⟩
          simp only [runW] at c2 ⊢
          have e1 : objF us (i + 1) = objF us i + (us.getD i (0,0)).2 := rfl
          have e2 : bytF us (i + 1) = bytF us i + (us.getD i (0,0)).2 * (us.getD i (0,0)).1 := rfl
          have h3 : szU us j * (us.getD i (0,0)).2 ≤ xs.getD (cls xs (szU us i)) 0 * (us.getD i (0,0)).2 := Int.mul_le_mul_of_nonneg_right hj (by omega)
          have hcost : costF us i j = costF us (i + 1) j + (szU us j - szU us i) * (us.getD i (0,0)).2 := by
            unfold costF
            rw [e1, e2, hsz]
            show (objF us (j + 1) - objF us i) * szU us j - (bytF us (j + 1) - bytF us i) = _
            have e5 : (szU us j - szU us i) * (us.getD i (0,0)).2 = (us.getD i (0,0)).2 * szU us j - (us.getD i (0,0)).2 * szU us i := by rw [Int.sub_mul, Int.mul_comm (szU us j), Int.mul_comm (szU us i)]
            have e6 : (objF us (j + 1) - objF us i) * szU us j = (objF us (j + 1) - (objF us i + (us.getD i (0,0)).2)) * szU us j + (us.getD i (0,0)).2 * szU us j := by rw [← Int.add_mul]; congr 1; omega
            rw [e5, e6]
            show _ = (objF us (j + 1) - (objF us i + (us.getD i (0,0)).2)) * szU us j - _ + _
            omega
          have e7 : (xs.getD (cls xs (szU us i)) 0 - szU us i) * (us.getD i (0,0)).2 = xs.getD (cls xs (szU us i)) 0 * (us.getD i (0,0)).2 - szU us i * (us.getD i (0,0)).2 := by rw [Int.sub_mul]
          have e8 : (szU us j - szU us i) * (us.getD i (0,0)).2 = szU us j * (us.getD i (0,0)).2 - szU us i * (us.getD i (0,0)).2 := by rw [Int.sub_mul]
          rw [hcost, e8]
          rw [e7] at c2
          omega
      · refine ⟨i :: js, ⟨Nat.le_refl _, by omega, c1⟩, ?_, fun _ => ⟨?_, hcl⟩, fun j r e => by injection e with e1 _; rw [← e1]; exact hge⟩
        · simp only [runW]
          have := cost_same us i
          have h3 := Int.mul_nonneg (show 0 ≤ xs.getD (cls xs (szU us i)) 0 - szU us i by omega) (show 0 ≤ (us.getD i (0,0)).2 by omega)
          omega
        · simp only [List.length_cons]
          by_cases hi1 : i + 1 < us.length
          · have h1 := (c3 hi1).1
            have h2 := cls_mono xs (szU us i) (szU us (i + 1)) (h.asc_le (by omega) hi1)
            omega
          · have : js.length = 0 := by have := chain_le c1; omega
            omega
/-- THE LAW -/
theorem least_law {us : List (Int × Int)} (h : okU us) (k K : Nat) (hn : 1 ≤ us.length) (_hk : 1 ≤ k) (hK : K = min k us.length) (xs : List Int) (v : Int) (hw : wstL xs 0 us = some v) (hl : xs.length ≤ k) :
    rowF us K 0 ≤ v ∧ (v = rowF us K 0 → mSel us K K ≤ xs.length) := by
  obtain ⟨js, c1, c2, c3, _⟩ := runs_of h xs us.length 0 (by omega) 0 v (by simpa using hw)
  have c3' := (c3 (by omega)).1
  have hlen := chain_le c1
  have hq1 : 1 ≤ js.length := by
    cases js with
    | nil => simp [chain] at c1; omega
    | cons j r => simp
  have a1 := row_le_run h js 0 c1
  have a2 := row_mono' h js.length hq1 (K - js.length) (by omega)
  rw [show js.length + (K - js.length) = K by omega] at a2
  refine ⟨by omega, fun e => ?_⟩
  have := mSel_min h K js.length hq1 (by omega) (by omega) K (by omega) (Nat.le_refl _)
  omega
/-- the best table is a table, of requested sizes, and wastes what is said -/
theorem best_table {us : List (Int × Int)} (h : okU us) (k K : Nat) (hn : 1 ≤ us.length) (hk : 1 ≤ k) (hk2 : k ≤ 64) (hK : K = min k us.length) :
    chkT (recon us (mSel us K K) 0) = 0 ∧ wstL (recon us (mSel us K K) 0) 0 us = some (rowF us K 0) ∧ (recon us (mSel us K K) 0).length = mSel us K K ∧ mSel us K K ≤ k ∧ ∀ x ∈ recon us (mSel us K K) 0, ∃ j, j < us.length ∧ x = (us.getD j (0,0)).1 := by
  have hM := mSel_le us K K
  have hMr := mSel_row us K K rfl (by omega)
  have h0 := row_nonneg h K 0 (by omega) (by omega)
  obtain ⟨r1, r2, r3⟩ := reconI_spec (us := us) (mSel us K K) 0 (by omega) (by rw [hMr]; exact h0)
  have hRl : (recon us (mSel us K K) 0).length = mSel us K K := by rw [recon_map, List.length_map]; exact r2
  have hw : wstL (recon us (mSel us K K) 0) 0 us = some (rowF us K 0) := by
    rw [recon_map]
    have := wst_chain h (reconI us (mSel us K K) 0) [] 0 0 r1 (by simp)
    simp only [List.nil_append, List.drop_zero, Int.zero_add] at this
    rw [this, r3, hMr]
  have hasc : ∀ (js : List Nat) (i : Nat), chain us.length i js → ∀ q, q < js.length → i ≤ js.getD q 0 ∧ js.getD q 0 < us.length ∧ (q ≠ 0 → js.getD (q - 1) 0 < js.getD q 0) := by
    intro js
    induction js with
    | nil => intro i _ q hq; simp at hq
    | cons j r ih =>
      intro i hc q hq
      obtain ⟨d1, d2, d3⟩ := hc
      cases q with
      | zero => simp; omega
      | succ q =>
        have := ih (j + 1) d3 q (by simpa using hq)
        cases q with
        | zero => simp at this ⊢; omega
        | succ q => simp at this ⊢; omega
  refine ⟨?_, hw, hRl, by omega, fun x hx => ?_⟩
  · unfold chkT
    rw [if_neg (by omega), if_neg (by omega)]
    refine chkL_of _ _ (fun q hq => ?_)
    rw [recon_map] at hq ⊢
    rw [List.length_map] at hq
    have hget : ∀ p, p < (reconI us (mSel us K K) 0).length → ((reconI us (mSel us K K) 0).map (szU us)).getD p 0 = szU us ((reconI us (mSel us K K) 0).getD p 0) := fun p hp => by
      simp [List.getD_eq_getElem?_getD, hp]
    obtain ⟨e1, e2, e3⟩ := hasc _ 0 r1 q hq
    have e4 := h.at_ _ e2
    rw [hget q hq]
    refine ⟨e4.1, e4.2.1, ?_⟩
    by_cases hq0 : q = 0
    · rw [if_pos hq0]; have := e4.1; show 0 < szU us _; unfold szU; omega
    · rw [if_neg hq0, hget (q - 1) (by omega)]
      exact h.asc (e3 hq0) e2
  · rw [recon_map] at hx
    obtain ⟨j, hj, rfl⟩ := List.mem_map.1 hx
    obtain ⟨q, hq, e⟩ := List.getElem_of_mem hj
    have := hasc _ 0 r1 q hq
    rw [List.getD_eq_getElem?_getD, List.getElem?_eq_getElem hq, e] at this
    exact ⟨j, this.2.1, rfl⟩
end Go.Pol
