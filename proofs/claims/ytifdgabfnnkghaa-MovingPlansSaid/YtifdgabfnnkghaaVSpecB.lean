/- Free places: what the program's room and the reference's marks stand for; no program in sight. -/
import Derived.Test.YtifdgabfnnkghaaVSpecA
namespace Go.Pol
/-- is a place of an order free, where m marks the pages that are not? -/
def frB (pg : Nat) (m : Nat → Bool) (o i : Nat) : Bool := decide ((i + 1) * 2 ^ o ≤ pg) && (List.range (2 ^ o)).all fun k => !m (i * 2 ^ o + k)
/-- how many of the first n -/
def cntB (f : Nat → Bool) : Nat → Nat
  | 0 => 0
  | n + 1 => cntB f n + if f n = true then 1 else 0
theorem cntB_le (f : Nat → Bool) : ∀ n, cntB f n ≤ n
  | 0 => Nat.le_refl _
  | n + 1 => by have := cntB_le f n; unfold cntB; split <;> omega
theorem cntB_ext {f g : Nat → Bool} : ∀ n, (∀ i, i < n → f i = g i) → cntB f n = cntB g n
  | 0, _ => rfl
  | n + 1, h => by
    rw [cntB, cntB, cntB_ext n (fun i hi => h i (by omega)), h n (by omega)]
theorem cntB_lt (k : Nat) : ∀ n, cntB (fun i => decide (i < k)) n = min n k
  | 0 => by simp [cntB]
  | n + 1 => by
    rw [cntB, cntB_lt k n]
    by_cases h : n < k
    · simp [h]; omega
    · simp [h]; omega
/-- one place less -/
theorem cntB_clear {f : Nat → Bool} {k : Nat} (hf : f k = true) : ∀ n, k < n → cntB (fun i => f i && !(i == k)) n + 1 = cntB f n
  | 0, h => absurd h (by omega)
  | n + 1, h => by
    rw [cntB, cntB]
    by_cases hk : k = n
    · subst hk
      rw [cntB_ext k (g := f) (fun i hi => by simp; omega)]
      simp [hf]
    · have ih := cntB_clear hf n (by omega)
      have : (n == k) = false := by simp; omega
      rw [this]
      simp only [Bool.not_false, Bool.and_true]
      omega
/-- pages marked: also those of a block -/
def markB (m : Nat → Bool) (page order : Nat) : Nat → Bool := fun k => m k || (decide (page ≤ k) && decide (k < page + 2 ^ order))
theorem frB_none (pg o i : Nat) : frB pg (fun _ => false) o i = decide (i < pg / 2 ^ o) := by
  unfold frB
  have h : ((List.range (2 ^ o)).all fun _ => !false) = true := by simp
  rw [h, Bool.and_true]
  have hp := Nat.two_pow_pos o
  rw [Bool.eq_iff_iff, decide_eq_true_eq, decide_eq_true_eq, Nat.lt_iff_add_one_le, Nat.le_div_iff_mul_le hp]
theorem frB_mark (pg : Nat) (m : Nat → Bool) (page order o i : Nat) : frB pg (markB m page order) o i = (frB pg m o i && !(decide (page / 2 ^ o ≤ i) && decide (i ≤ (page + 2 ^ order - 1) / 2 ^ o))) := by
  unfold frB
  have hp := Nat.two_pow_pos o
  have hq := Nat.two_pow_pos order
  have key : ((List.range (2 ^ o)).all fun k => !markB m page order (i * 2 ^ o + k)) = (((List.range (2 ^ o)).all fun k => !m (i * 2 ^ o + k)) && !(decide (page / 2 ^ o ≤ i) && decide (i ≤ (page + 2 ^ order - 1) / 2 ^ o))) := by
    rw [Bool.eq_iff_iff]
    simp only [List.all_eq_true, List.mem_range, Bool.and_eq_true, Bool.not_eq_true', markB, Bool.or_eq_false_iff, Bool.and_eq_false_iff, decide_eq_false_iff_not]
    constructor
    · intro h
      refine ⟨fun k hk => (h k hk).1, ?_⟩
      by_cases h1 : page / 2 ^ o ≤ i
      · refine .inr (fun h2 => ?_)
        -- the place and the block have a page in common
        have e1 : i * 2 ^ o ≤ page + 2 ^ order - 1 := (Nat.le_div_iff_mul_le hp).1 h2
        have e2 : page < (i + 1) * 2 ^ o := (Nat.div_lt_iff_lt_mul hp).1 (by omega)
        have e3 : (i + 1) * 2 ^ o = i * 2 ^ o + 2 ^ o := by rw [Nat.add_mul]; omega
        by_cases hc : i * 2 ^ o ≤ page
        · have := (h (page - i * 2 ^ o) (by omega)).2
          omega
        · have := (h 0 hp).2
          omega
      · exact .inl h1
    · rintro ⟨h1, h2⟩ k hk
      refine ⟨h1 k hk, ?_⟩
      by_cases hc : page ≤ i * 2 ^ o + k
      · refine .inr (fun hlt => ?_)
        rcases h2 with h2 | h2
        · refine h2 (Nat.lt_succ_iff.1 ((Nat.div_lt_iff_lt_mul hp).2 ?_))
          have e3 : (i + 1) * 2 ^ o = i * 2 ^ o + 2 ^ o := by rw [Nat.add_mul]; omega
          show page < (i + 1) * 2 ^ o
          omega
        · exact h2 ((Nat.le_div_iff_mul_le hp).2 (by omega))
      · exact .inl hc
  rw [key, Bool.and_assoc]
/-- how many places of an order blocks take -/
def needB (orders : List Nat) (t : Nat) : Nat := (orders.map fun o => if t ≤ o then 2 ^ (o - t) else 0).sum
/-- can blocks of these orders be placed? -/
def holdsB (f : Nat → Nat → Bool) (orders : List Nat) : Bool := (List.range 11).all fun t => decide (needB orders t ≤ cntB (f t) 1024)
end Go.Pol
