/- Plain functions: places of some pages in spans, at multiples of a power of two. -/
import Derived.Test.YtfmnlpgboolpmaaGSpecA
namespace Go.Pol
open Go
/-- a power of two from 1 to 1024 -/
def isPow (x : Nat) : Bool := List.elem x [1, 2, 4, 8, 16, 32, 64, 128, 256, 512, 1024]
theorem isPow_le {x : Nat} (h : isPow x = true) : 1 ≤ x ∧ x ≤ 1024 := by
  simp [isPow] at h
  omega
def badPlace (pages align : Int) : Bool := !(decide (1 ≤ pages) && decide (pages ≤ 1024) && isPow align.toNat)
def placeE (us : List Sp) (pages align : Int) : Int := if chkS us = 0 then (if badPlace pages align = true then 2 else 0) else chkS us
/-- the least multiple that is not below a page -/
def upP (align a : Int) : Int := (a + align - 1) / align * align
def placeX (pages align : Int) (x : Sp) : Option (Int × Sp) := if upP align x.1 + pages ≤ x.1 + x.2 then some (upP align x.1, x) else none
def placesF (us : List Sp) (pages align : Int) : List (Int × Sp) := us.filterMap (placeX pages align)
theorem upP_ok {align a : Int} (h : 1 ≤ align) : a ≤ upP align a ∧ upP align a ≤ a + align - 1 := by
  unfold upP
  have h1 := Int.emod_add_mul_ediv (a + align - 1) align
  have h2 := Int.emod_nonneg (a + align - 1) (show align ≠ 0 by omega)
  have h3 := Int.emod_lt_of_pos (a + align - 1) (show 0 < align by omega)
  rw [Int.mul_comm ((a + align - 1) / align) align]
  omega
theorem placeE_zero {us : List Sp} {pages align : Int} (h : placeE us pages align = 0) : Can us ∧ 1 ≤ pages ∧ pages ≤ 1024 ∧ 1 ≤ align ∧ align ≤ 1024 ∧ isPow align.toNat = true := by
  unfold placeE at h
  split at h
  · rename_i h1
    split at h
    · cases h
    · rename_i h2
      simp only [badPlace, Bool.not_eq_true', Bool.not_eq_false, Bool.and_eq_true, decide_eq_true_eq] at h2
      have := isPow_le h2.2
      exact ⟨chkS_zero.1 h1, h2.1.1, h2.1.2, by omega, by omega, h2.2⟩
  · rename_i h1; exact absurd h h1
theorem places_take (us : List Sp) (pages align : Int) (k : Nat) (hk : k < us.length) : placesF (us.take (k + 1)) pages align = placesF (us.take k) pages align ++ (placeX pages align (us.getD k (0,0))).toList := by
  have e : us.take (k + 1) = us.take k ++ [us.getD k (0,0)] := by
    rw [List.take_add_one, List.getElem?_eq_getElem hk, List.getD_eq_getElem?_getD, List.getElem?_eq_getElem hk]; rfl
  unfold placesF
  rw [e, List.filterMap_append]
  congr 1
theorem places_pre (us : List Sp) (pages align : Int) (k : Nat) : placesF (us.take k) pages align <+: placesF us pages align := by
  refine ⟨placesF (us.drop k) pages align, ?_⟩
  unfold placesF
  rw [← List.filterMap_append, List.take_append_drop]
end Go.Pol
