/- What Steps computes: the classes from a smallest one on, so many for each doubling. No program in sight. -/
import Derived.Test.YtiohcegkkpeodaaDoorSpecB
namespace Go.Pol
/-- the smallest multiple of 8 that is at least num / den -/
def upF (num den : Int) : Int := (num + 8 * den - 1) / (8 * den) * 8
theorem upF_lo (num den : Int) (h : 0 < den) : num ≤ upF num den * den := by
  have h1 := Int.lt_mul_ediv_self_add (x := num + 8 * den - 1) (show 0 < 8 * den by omega)
  have e : upF num den * den = 8 * den * ((num + 8 * den - 1) / (8 * den)) := by
    unfold upF; rw [Int.mul_assoc, Int.mul_comm]
  omega
theorem upF_hi (num den : Int) (h : 0 < den) : upF num den * den < num + 8 * den := by
  have h1 := Int.mul_ediv_self_le (x := num + 8 * den - 1) (k := 8 * den) (by omega)
  have e : upF num den * den = 8 * den * ((num + 8 * den - 1) / (8 * den)) := by
    unfold upF; rw [Int.mul_assoc, Int.mul_comm]
  omega
theorem upF_mod (num den : Int) : upF num den % 8 = 0 := by unfold upF; omega
theorem upF_lt (base per i : Int) (hb : 0 ≤ base) (hp : 1 ≤ per) (hi : i ≤ per) : upF (base * (per + i)) per < 2 * base + 8 := by
  have h1 := upF_hi (base * (per + i)) per (by omega)
  have h2 : base * (per + i) ≤ base * (per + per) := Int.mul_le_mul_of_nonneg_left (by omega) hb
  have h3 : base * (per + per) + 8 * per = (2 * base + 8) * per := by rw [Int.add_mul, Int.mul_add, Int.mul_assoc]; omega
  have h4 : upF (base * (per + i)) per * per < (2 * base + 8) * per := by omega
  exact Int.lt_of_mul_lt_mul_right h4 (by omega)
theorem upF_full (base per : Int) (hp : 1 ≤ per) : 2 * base ≤ upF (base * (per + per)) per := by
  have h1 := upF_lo (base * (per + per)) per (by omega)
  have h3 : base * (per + per) = (2 * base) * per := by rw [Int.mul_add, Int.mul_assoc]; omega
  rw [h3] at h1 ⊢
  exact Int.le_of_mul_le_mul_right h1 (by omega)
theorem upF_pos (base per i : Int) (hb : 1 ≤ base) (hp : 1 ≤ per) (hi : 0 ≤ i) : base ≤ upF (base * (per + i)) per := by
  have h1 := upF_lo (base * (per + i)) per (by omega)
  have h2 : base * per ≤ base * (per + i) := Int.mul_le_mul_of_nonneg_left (by omega) (by omega)
  exact Int.le_of_mul_le_mul_right (show base * per ≤ upF (base * (per + i)) per * per by omega) (by omega)
/-- the classes of one doubling: those before the last one, and the last one -/
def innF (mx per base : Int) : Nat → Int → List Int → Int → List Int × Int
  | 0, _, p, last => (p, last)
  | f + 1, i, p, last =>
    if i ≤ per ∧ last < mx then
      if last < upF (base * (per + i)) per then innF mx per base f (i + 1) (p ++ [last]) (upF (base * (per + i)) per)
      else innF mx per base f (i + 1) p last
    else (p, last)
def outF (mx per : Int) : Nat → Int → List Int → Int → List Int × Int
  | 0, _, p, last => (p, last)
  | f + 1, base, p, last =>
    if last < mx then outF mx per f (base * 2) (innF mx per base 9 1 p last).1 (innF mx per base 9 1 p last).2 else (p, last)
def okS (mn mx per : Int) : Bool := isSz mn && (decide (mn % 8 = 0) && (isSz mx && (decide (mn ≤ mx) && (decide (1 ≤ per) && decide (per ≤ 8)))))
theorem okS_iff {mn mx per : Int} : okS mn mx per = true ↔ (1 ≤ mn ∧ mn ≤ 4096) ∧ mn % 8 = 0 ∧ (1 ≤ mx ∧ mx ≤ 4096) ∧ mn ≤ mx ∧ 1 ≤ per ∧ per ≤ 8 := by
  simp [okS, isSz_iff]
def stepsL (mn mx per : Int) : List Int :=
  (outF mx per 4096 mn [] mn).1 ++ [if 4096 < (outF mx per 4096 mn [] mn).2 then 4096 else (outF mx per 4096 mn [] mn).2]
/-- the table, and the error -/
def stepsF (mn mx per : Int) : List Int × Int := if okS mn mx per = true then (stepsL mn mx per, 0) else ([], 7)
theorem stepsF_shown : stepsF 8 64 4 = ([8, 16, 24, 32, 40, 48, 56, 64], 0) := by decide +kernel
theorem innF_more (mx per base : Int) (f : Nat) (i : Int) (p : List Int) (last : Int) (h1 : i ≤ per) (h2 : last < mx) (h3 : last < upF (base * (per + i)) per) :
    innF mx per base (f + 1) i p last = innF mx per base f (i + 1) (p ++ [last]) (upF (base * (per + i)) per) := by rw [innF, if_pos ⟨h1, h2⟩, if_pos h3]
theorem innF_pass (mx per base : Int) (f : Nat) (i : Int) (p : List Int) (last : Int) (h1 : i ≤ per) (h2 : last < mx) (h3 : ¬ last < upF (base * (per + i)) per) :
    innF mx per base (f + 1) i p last = innF mx per base f (i + 1) p last := by rw [innF, if_pos ⟨h1, h2⟩, if_neg h3]
theorem innF_end (mx per base : Int) (f : Nat) (i : Int) (p : List Int) (last : Int) (h : ¬ (i ≤ per ∧ last < mx)) : innF mx per base f i p last = (p, last) := by
  cases f with
  | zero => rfl
  | succ f => rw [innF, if_neg h]
theorem outF_end (mx per : Int) (f : Nat) (base : Int) (p : List Int) (last : Int) (h : ¬ last < mx) : outF mx per f base p last = (p, last) := by
  cases f with
  | zero => rfl
  | succ f => rw [outF, if_neg h]
end Go.Pol
