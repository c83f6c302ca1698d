/- Plain laws: pieces of one page are the pages; how many pieces there are. -/
import Derived.Test.YtjmmgoijnhnnaaaGreatT18
namespace Go.Pol
open Go
theorem nextM_one (a : Int) : nextM 1 a = a + 1 := by unfold nextM; rw [Int.ediv_one]; omega
theorem cutN_one (en : Int) : ∀ (k : Nat) (a : Int), en - a ≤ k → (cutN 1 en k a).map (·.1) = pagesX (a, 0) (en - a).toNat
 | 0, a, h => by rw [show (en - a).toNat = 0 by omega]; simp [cutN, pagesX]
 | k + 1, a, h => by
  by_cases hlt : a < en
  ·rw [cutN_step hlt, nextM_one, List.map_cons, show min (a + 1) en = a + 1 by omega, cutN_one en k (a + 1) (by omega), show (en - a).toNat = (en - (a + 1)).toNat + 1 by omega, pagesX_cons]
  ·rw [cutN_end hlt, show (en - a).toNat = 0 by omega]; simp [pagesX]
theorem pieces_one {us : List Sp} (h : Can us) : (piecesF us 1).map (·.1) = pagesOf us := by
 unfold piecesF
 rw [if_pos ⟨chkS_zero.2 h, by omega, by omega⟩]
 have hv := h.1
 clear h
 induction us with
 | nil => rfl
 | cons x r ih =>
  have hx := vld_iff.1 (hv x (by simp))
  rw [List.flatMap_cons, List.map_append, ih (fun y hy => hv y (by simp [hy])), pagesOf_cons, cutF, cutN_one _ _ _ (by omega)]
  congr 1
  rw [show (x.1 + x.2 - x.1).toNat = x.2.toNat by omega]
  rfl
end Go.Pol
