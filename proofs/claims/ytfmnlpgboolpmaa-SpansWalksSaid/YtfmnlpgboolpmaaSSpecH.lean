/- Plain laws: pieces of one page are the pages; how many pieces there are. -/
import Derived.Test.YtfmnlpgboolpmaaSSpecB
import Derived.Test.YtfmnlpgboolpmaaGSpecG
namespace Go.Pol
open Go
theorem nextM_one (a : Int) : nextM 1 a = a + 1 := by unfold nextM; rw [Int.ediv_one]; omega
theorem cutN_one (en : Int) : ∀ (k : Nat) (a : Int), en - a ≤ k → (cutN 1 en k a).map (·.1) = pagesX (a, 0) (en - a).toNat
  | 0, a, h => by rw [show (en - a).toNat = 0 by omega]; simp [cutN, pagesX]
  | k + 1, a, h => by
    by_cases hlt : a < en
    · rw [cutN_step hlt, nextM_one, List.map_cons, show min (a + 1) en = a + 1 by omega, cutN_one en k (a + 1) (by omega), show (en - a).toNat = (en - (a + 1)).toNat + 1 by omega, pagesX_cons]
    · rw [cutN_end hlt, show (en - a).toNat = 0 by omega]; simp [pagesX]
theorem pieces_one {us : List Sp} (h : Can us) : (piecesF us 1).map (·.1) = pagesOf us := by
  unfold piecesF
  rw [if_pos ⟨chkS_zero.2 h, by omega, by omega⟩]
  have hv := h.1
  clear h
  induction us with
  | nil => rfl
  | cons x r ih =>
    have hx := vld_iff.1 (hv x (by simp))
    rw [List.flatMap_cons, List.map_append, ih (fun y hy => hv y (by simp [hy])), pagesOf_cons, cutF, cutN_one _ _ _ (by omega)]
    congr 1
    rw [show (x.1 + x.2 - x.1).toNat = x.2.toNat by omega]
    rfl
theorem pieces_bad {us : List Sp} {size : Int} (h : ¬ (chkS us = 0 ∧ 1 ≤ size ∧ size ≤ 1024)) : piecesF us size = [] := by unfold piecesF; rw [if_neg h]
/-- each piece has a page of its own -/
theorem cutN_len {size en : Int} (hs : 1 ≤ size) : ∀ (k : Nat) (a : Int), ((cutN size en k a).length : Int) ≤ (if a < en then en - a else 0)
  | 0, a => by simp [cutN]; split <;> omega
  | k + 1, a => by
    by_cases hlt : a < en
    · have ih := cutN_len (en := en) hs k (min (nextM size a) en)
      have hn := nextM_gt (size := size) (a := a) hs
      rw [cutN_step hlt, if_pos hlt, List.length_cons]
      split at ih <;> omega
    · rw [cutN_end hlt, if_neg hlt]; simp
theorem pieces_len {us : List Sp} {size : Int} (h : Can us) (hs : 1 ≤ size) : ((us.flatMap (cutF size)).length : Int) ≤ sumS us := by
  have hv := h.1
  clear h
  induction us with
  | nil => simp [sumS]
  | cons x r ih =>
    have hx := vld_iff.1 (hv x (by simp))
    have h1 := cutN_len (en := x.1 + x.2) hs 1024 x.1
    rw [if_pos (by omega)] at h1
    have h2 := ih (fun y hy => hv y (by simp [hy]))
    rw [List.flatMap_cons, List.length_append]
    have e1 : sumS (x :: r) = x.2 + sumS r := by simp [sumS]
    rw [e1]
    unfold cutF at h2 ⊢
    omega
theorem pieces_most {us : List Sp} {size : Int} : (piecesF us size).length ≤ 1024 := by
  by_cases h : chkS us = 0 ∧ 1 ≤ size ∧ size ≤ 1024
  · have hc := chkS_zero.1 h.1
    have h1 := pieces_len hc h.2.1
    have h2 := sum_form us (-1) (by omega) hc.1 hc.2
    unfold piecesF
    rw [if_pos h]
    omega
  · rw [pieces_bad h]; simp
end Go.Pol
