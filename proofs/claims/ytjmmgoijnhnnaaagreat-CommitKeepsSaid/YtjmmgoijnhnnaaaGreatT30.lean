/- Plain law of layer 12 (commit): the numbers of pages that a system counts. -/
import Derived.Test.YtjmmgoijnhnnaaaGreatT29
namespace Go.Pol
open Go Go.RowKit
theorem numsV_cnt (V : Vm) : ∀ i : Nat, numsV V i 2 = cntN (fun q => kd V q.toNat == 2) i 0
 | 0 => rfl
 | i + 1 => by
  rw [numsV, numsV_cnt V i, cntN_split _ i 1 0, if_pos (by omega)]
  congr 1
  simp only [cntN, Int.zero_add, Int.toNat_natCast, Int.add_zero]
  unfold kd
  by_cases h : (V.pg i).kind = ((2 : Nat) : Int)
  ·rw [if_pos h, if_pos (by rw [h]; rfl)]
  ·rw [if_neg h, if_neg (by intro h2; exact h (by simpa using h2))]
theorem numsV_cm (V : Vm) : numsV V 1024 2 = cmN V := numsV_cnt V 1024
theorem numsV_free {V : Vm} (h : ∀ p, kd V p = 0) : ∀ i : Nat, numsV V i 0 = i
 | 0 => rfl
 | i + 1 => by
  have e : (V.pg i).kind = ((0 : Nat) : Int) := h i
  rw [numsV, numsV_free h i, if_pos (by omega), if_pos e]
  omega
theorem sumS_take (l : List Sp) {i : Nat} (hi : i < l.length) : sumS (l.take (i + 1)) = sumS (l.take i) + (l.getD i (0, 0)).2 := by
 rw [List.take_add_one, List.getElem?_eq_getElem hi, Option.toList_some, sumS_snoc, List.getD_eq_getElem?_getD, List.getElem?_eq_getElem hi]
 rfl
theorem sumS_part : ∀ {l : List Sp} (i : Nat), (∀ x ∈ l, 0 ≤ x.2) → 0 ≤ sumS (l.take i) ∧ sumS (l.take i) ≤ sumS l
 | [], i, _ => by simp [sumS]
 | x :: r, 0, h => by
  have h1 := h x (by simp)
  have h2 := sumS_part (l := r) r.length (fun y hy => h y (by simp [hy]))
  rw [List.take_length] at h2
  simp only [List.take_zero, sumS, List.map_nil, List.sum_nil, List.map_cons, List.sum_cons] at h2 ⊢
  omega
 | x :: r, i + 1, h => by
  have h1 := h x (by simp)
  have h2 := sumS_part (l := r) i (fun y hy => h y (by simp [hy]))
  simp only [List.take_succ_cons, sumS, List.map_cons, List.sum_cons] at h2 ⊢
  omega
end Go.Pol
