/- Plain laws: the pieces of a set make the set again, none crosses a multiple of the size, neighbours are parted by one or by a gap. -/
import Derived.Test.YtfmnlpgboolpmaaSSpecH
import Derived.Test.YtfmnlpgboolpmaaSSpecA
namespace Go.Pol
open Go
theorem nextM_mult {size a : Int} : nextM size a % size = 0 := by unfold nextM; exact Int.mul_emod_left _ _
theorem cut_in {size en : Int} (hs : 1 ≤ size) : ∀ (k : Nat) (a : Int), 0 ≤ a → ∀ y ∈ cutN size en k a, a ≤ y.1 ∧ 1 ≤ y.2 ∧ y.1 + y.2 ≤ en ∧ y.1 / size = (y.1 + y.2 - 1) / size
  | 0, a, _, y, hy => by simp [cutN] at hy
  | k + 1, a, ha, y, hy => by
    have hn := nextM_gt (size := size) (a := a) hs
    by_cases hlt : a < en
    · rw [cutN_step hlt] at hy
      rcases List.mem_cons.1 hy with rfl | h
      · refine ⟨Int.le_refl _, by simp only; omega, by simp only; omega, ?_⟩
        simp only
        rw [show a + (min (nextM size a) en - a) - 1 = min (nextM size a) en - 1 by omega]
        have h1 : a / size ≤ (min (nextM size a) en - 1) / size := Int.ediv_le_ediv (by omega) (by omega)
        have h2 : (min (nextM size a) en - 1) / size < a / size + 1 := by
          refine Int.ediv_lt_of_lt_mul (by omega) ?_
          have : nextM size a = (a / size + 1) * size := rfl
          omega
        omega
      · obtain ⟨h1, h2, h3, h4⟩ := cut_in hs k _ (by omega) y h
        exact ⟨by omega, h2, h3, h4⟩
    · rw [cutN_end hlt] at hy; simp at hy
theorem cut_mem {size en : Int} (hs : 1 ≤ size) : ∀ (k : Nat) (a q : Int), en - a ≤ k → (mem q (cutN size en k a) = true ↔ a ≤ q ∧ q < en)
  | 0, a, q, h => by simp [cutN, mem_nil]; omega
  | k + 1, a, q, h => by
    have hn := nextM_gt (size := size) (a := a) hs
    by_cases hlt : a < en
    · rw [cutN_step hlt, mem_cons', cut_mem hs k _ q (by omega)]
      simp only
      omega
    · rw [cutN_end hlt, mem_nil]; simp; omega
/-- each piece begins behind the one before it, or there and at a multiple -/
def okP (size : Int) : Int → List Sp → Prop
  | _, [] => True
  | e, z :: r => (e ≤ z.1 ∧ (e = z.1 → z.1 % size = 0)) ∧ okP size (z.1 + z.2) r
theorem cut_ok {size en : Int} (hs : 1 ≤ size) {r : List Sp} (hr : ∀ e, e ≤ en → okP size e r) : ∀ (k : Nat) (e a : Int), en - a ≤ k → a ≤ en → e ≤ a → (a < en → e = a → a % size = 0) → okP size e (cutN size en k a ++ r)
  | 0, e, a, h, h1, h2, h3 => by simp only [cutN, List.nil_append]; exact hr e (by omega)
  | k + 1, e, a, h, h1, h2, h3 => by
    have hn := nextM_gt (size := size) (a := a) hs
    by_cases hlt : a < en
    · rw [cutN_step hlt, List.cons_append]
      refine ⟨⟨h2, h3 hlt⟩, ?_⟩
      simp only
      rw [show a + (min (nextM size a) en - a) = min (nextM size a) en by omega]
      refine cut_ok hs hr k _ _ (by omega) (by omega) (Int.le_refl _) (fun h4 _ => ?_)
      rw [show min (nextM size a) en = nextM size a by omega]
      exact nextM_mult
    · rw [cutN_end hlt]; exact hr e (by omega)
theorem flat_ok {size : Int} (hs : 1 ≤ size) : ∀ (us : List Sp) (e : Int), formOk e us = true → (∀ x ∈ us, vld x = true) → ∀ e', e' ≤ e → okP size e' (us.flatMap (cutF size))
  | [], _, _, _, _, _ => trivial
  | x :: r, e, hf, hv, e', he => by
    have hf' := formOk_cons.1 hf
    have hx := vld_iff.1 (hv x (by simp))
    rw [List.flatMap_cons]
    exact cut_ok hs (fun e2 h2 => flat_ok hs r (x.1 + x.2) hf'.2 (fun y hy => hv y (by simp [hy])) e2 h2) 1024 e' x.1 (by omega) (by omega) (by omega) (fun _ h => by omega)
theorem flat_in {size : Int} (hs : 1 ≤ size) {us : List Sp} (hv : ∀ x ∈ us, vld x = true) : ∀ y ∈ us.flatMap (cutF size), vld y = true ∧ y.1 / size = (y.1 + y.2 - 1) / size := by
  intro y hy
  obtain ⟨x, hx, h⟩ := List.mem_flatMap.1 hy
  have hxv := vld_iff.1 (hv x hx)
  obtain ⟨h1, h2, h3, h4⟩ := cut_in hs 1024 x.1 hxv.1 y h
  exact ⟨vld_iff.2 ⟨by omega, by omega, h2, by omega⟩, h4⟩
theorem flat_mem {size : Int} (hs : 1 ≤ size) {us : List Sp} (hv : ∀ x ∈ us, vld x = true) (q : Int) : mem q (us.flatMap (cutF size)) = mem q us := by
  induction us with
  | nil => rfl
  | cons x r ih =>
    have hx := vld_iff.1 (hv x (by simp))
    rw [List.flatMap_cons, mem_append, ih (fun y hy => hv y (by simp [hy])), mem_cons, Bool.eq_iff_iff]
    have := cut_mem (en := x.1 + x.2) hs 1024 x.1 q (by omega)
    change mem q (cutF size x) = true ↔ _ at this
    rw [Bool.or_eq_true, Bool.or_eq_true, this]
    simp
def fsts1 (us : List Sp) : List Int := (piecesF us 1).map (·.1)
/-- what the law asks of the pieces of a set -/
structure PiecesOk (us : List Sp) (size : Int) (L : List Sp) : Prop where
  vl : ∀ y ∈ L, vld y = true ∧ y.1 / size = (y.1 + y.2 - 1) / size
  ok : okP size (-1) L
  again : ofE L = 0 ∧ setOf L = us
  len : L.length ≤ 1024
  pages : (fsts1 us).length ≤ 1024 ∧ ((fsts1 us).length : Int) = sumS us
theorem pieces_ok {us : List Sp} {size : Int} (h : Can us) (hs : 1 ≤ size ∧ size ≤ 1024) : PiecesOk us size (piecesF us size) := by
  have e : piecesF us size = us.flatMap (cutF size) := by unfold piecesF; rw [if_pos ⟨chkS_zero.2 h, hs.1, hs.2⟩]
  have hin := flat_in hs.1 h.1
  have hlen : (piecesF us size).length ≤ 1024 := pieces_most
  have hsum := pagesOf_len us (fun x hx => by have := vld_iff.1 (h.1 x hx); omega)
  have hb := sum_form us (-1) (by omega) h.1 h.2
  refine ⟨by rw [e]; exact hin, by rw [e]; exact flat_ok hs.1 us (-1) h.2 h.1 (-1) (Int.le_refl _), ⟨?_, ?_⟩, hlen, ?_⟩
  · unfold ofE
    rw [if_neg (by omega), if_pos]
    rw [List.all_eq_true, e]
    exact fun y hy => (hin y hy).1
  · refine (setOf_can _).eq h fun q => ?_
    rw [Bool.eq_iff_iff, mem_setOf (by rw [e]; exact fun y hy => (hin y hy).1), e, flat_mem hs.1 h.1]
  · have e1 : fsts1 us = pagesOf us := pieces_one h
    rw [e1]
    omega
end Go.Pol
