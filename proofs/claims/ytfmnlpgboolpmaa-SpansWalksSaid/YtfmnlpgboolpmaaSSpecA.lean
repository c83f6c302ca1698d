/- Plain law: the set of any valid spans is the set of their pages. -/
import Derived.Test.YtfmnlpgboolpmaaGSpecE
namespace Go.Pol
open Go
/-- what is wrong with a list of spans -/
def ofE (us : List Sp) : Int := if 2000 < us.length then 3 else if us.all vld = true then 0 else 7
/-- the set of the pages of some spans -/
def setOf (us : List Sp) : List Sp := setA fun k => mem (k : Int) us
theorem setOf_can (us : List Sp) : Can (setOf us) := setA_can _
theorem vld_mem {us : List Sp} (hv : ∀ x ∈ us, vld x = true) {q : Int} (h : mem q us = true) : 0 ≤ q ∧ q < 1024 := by
  obtain ⟨x, hx, hh⟩ := List.any_eq_true.1 h
  have := vld_iff.1 (hv x hx)
  simp at hh
  omega
theorem mem_setOf {us : List Sp} (hv : ∀ x ∈ us, vld x = true) (q : Int) : mem q (setOf us) = true ↔ mem q us = true := by
  unfold setOf
  rw [mem_setA]
  constructor
  · rintro ⟨h1, h2⟩
    rwa [show ((q.toNat : Nat) : Int) = q by omega] at h2
  · intro h
    have := vld_mem hv h
    exact ⟨this, by rwa [show ((q.toNat : Nat) : Int) = q by omega]⟩
theorem setOf_self {us : List Sp} (h : Can us) : setOf us = us := (h.eq_setA _ (fun _ _ => rfl)).symm
theorem ofE_zero {us : List Sp} (h : ofE us = 0) : us.length ≤ 2000 ∧ ∀ x ∈ us, vld x = true := by
  unfold ofE at h
  split at h
  · cases h
  · split at h
    · rename_i h1 h2
      exact ⟨by omega, List.all_eq_true.1 h2⟩
    · cases h
end Go.Pol
namespace Go.Proofs.Ytfmnlpgboolpmaa
open Go Go.Proofs Go.RowKit Go.Pol
theorem ofF_setOf {us us' : List Sp} (hv : ∀ y ∈ us, vld y = true) (h : us'.Perm us) (hs : us'.Pairwise (fun a b => a.1 ≤ b.1)) : ofF us' = setOf us :=
  ofF_set hv h hs (setOf_can us) (fun q => mem_setOf hv q)
end Go.Proofs.Ytfmnlpgboolpmaa
