/- Plain laws for layer 13: what the loops over pages count. -/
import Derived.Test.YtjmmgoijnhnnaaaGreatT23
namespace Go.Pol
theorem mem_pagesOf {p : Int} {us : List Sp} : p ∈ pagesOf us ↔ mem p us = true := by
 unfold pagesOf mem
 simp only [List.mem_flatMap, List.mem_map, List.mem_range, List.any_eq_true, Bool.and_eq_true, decide_eq_true_eq]
 constructor
 ·rintro ⟨x, hx, k, hk, rfl⟩
  exact ⟨x, hx, by omega, by omega⟩
 ·rintro ⟨x, hx, h1, h2⟩
  exact ⟨x, hx, (p - x.1).toNat, by omega, by omega⟩
end Go.Pol
