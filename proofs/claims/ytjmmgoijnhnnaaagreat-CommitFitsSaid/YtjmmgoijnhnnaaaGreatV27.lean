/- Plain law of layer 12 (commit): what is charged after a call that commits pages; what a Grow keeps that returns an error. -/
import Derived.Test.YtjmmgoijnhnnaaaGreatV26
namespace Go.Pol
open Go Go.RowKit
theorem giveB_le {L : List Nd} (hl : L.length = 2) (p : Int) : ((giveB L 1 p).2.getD 1 nd0).own ≤ (L.getD 1 nd0).own ∧ ((giveB L 1 p).2.getD 1 nd0).lim = (L.getD 1 nd0).lim := by
 match L, hl with
 | [a, b], _ =>
  unfold giveB
  split
  ·exact ⟨Int.le_refl _, rfl⟩
  ·rename_i h
   split
   ·exact ⟨Int.le_refl _, rfl⟩
   ·exact ⟨by show b.own - p ≤ b.own; omega, rfl⟩
theorem chargeB_lim {L : List Nd} (hL : BudOk L) (hl : L.length = 2) {p : Int} (h : (chargeB L 1 p).1 = 0) (hp : 0 < p) : ((chargeB L 1 p).2.getD 1 nd0).own ≤ ((chargeB L 1 p).2.getD 1 nd0).lim := by
 have ha := hL.all 1 (by omega)
 have ht := (tight_min L (pathB 1) 1).1
 match L, hl with
 | [a, b], _ =>
  unfold chargeB at h ⊢
  by_cases h1 : p < 0 ∨ 4096 < p
  ·rw [if_pos h1] at h; exact absurd h (by simp)
  ·rw [if_neg h1] at h ⊢
   by_cases h2 : headB [a, b] 1 < p
   ·rw [if_pos h2] at h; exact absurd h (by simp)
   ·rw [if_neg h2]
    show b.own + p ≤ b.lim
    have ha' : b.all = b.own + 0 := ha
    unfold headB tightB at h2
    have hr : roomB [a, b] 1 = b.lim - b.all := rfl
    omega
theorem growC_lim {V : Vm} {L : List Nd} {r : Cr} (h : CmI V L r) (tt : Int) (hg : (L.getD 1 nd0).own < ((growC V L r tt).2.2.2.getD 1 nd0).own) : ((growC V L r tt).2.2.2.getD 1 nd0).own ≤ ((growC V L r tt).2.2.2.getD 1 nd0).lim := by
 unfold growC at hg ⊢
 by_cases h1 : chkCm r ≠ 0
 ·rw [if_pos h1] at hg; exact absurd hg (Int.lt_irrefl _)
 rw [if_neg h1] at hg ⊢
 have hn := (h.of_ok (chkCm_zero.1 (by omega))).1
 by_cases h2 : r.cl = true
 ·rw [if_pos h2] at hg; exact absurd hg (Int.lt_irrefl _)
 rw [if_neg h2] at hg ⊢
 by_cases h3 : tt < r.live ∨ usC r < tt
 ·rw [if_pos h3] at hg; exact absurd hg (Int.lt_irrefl _)
 rw [if_neg h3] at hg ⊢
 have hcn : r.node.toNat = 1 := by rw [hn]; rfl
 rw [hcn] at hg ⊢
 dsimp only at hg ⊢
 generalize sumS (commonF (belC r.live tt) (gapsF r.kept (0, 1024))) = p at *
 by_cases h4 : (chargeB L 1 p).1 ≠ 0
 ·rw [if_pos h4, chargeB_no h4] at hg
  exact absurd hg (Int.lt_irrefl _)
 rw [if_neg h4] at hg ⊢
 have h4' : (chargeB L 1 p).1 = 0 := by omega
 have q1 := (chargeB_own h.two h4').1
 have q2 := chargeB_lim h.bok h.two h4'
 have q3 : (chargeB L 1 p).2.length = 2 := by rw [chargeB_len]; exact h.two
 generalize (chargeB L 1 p).2 = L1 at *
 split at hg
 ·rename_i h5
  rw [if_pos h5]
  simp only at hg ⊢
  exact q2 (by omega)
 ·rename_i h5
  rw [if_neg h5]
  simp only at hg ⊢
  generalize (List.foldl undoC _ _).2.2 = m at *
  have q4 := giveB_le q3 m
  rw [q4.2]
  have := q2 (by omega)
  omega
theorem closeS_le (l : List RnT) : ∀ (S : Vm × List Nd × List Sp × Int), S.2.1.length = 2 → ((l.foldl (closeS 1) S).2.1.getD 1 nd0).own ≤ (S.2.1.getD 1 nd0).own := by
 induction l with
 | nil => exact fun S _ => Int.le_refl _
 | cons x l ih =>
  intro S hS
  have e : ((closeS 1 S x).2.1.getD 1 nd0).own ≤ (S.2.1.getD 1 nd0).own ∧ (closeS 1 S x).2.1.length = 2 := by
   unfold closeS
   dsimp only
   split
   ·exact ⟨(giveB_le hS _).1, by rw [giveB_len]; exact hS⟩
   ·exact ⟨Int.le_refl _, hS⟩
  have := ih (closeS 1 S x) e.2
  rw [List.foldl_cons]
  omega
theorem closeC_le {V : Vm} {L : List Nd} {r : Cr} (h : CmI V L r) : ((closeC V L r).2.2.2.getD 1 nd0).own ≤ (L.getD 1 nd0).own := by
 unfold closeC
 by_cases h1 : chkCm r ≠ 0
 ·rw [if_pos h1]; exact Int.le_refl _
 rw [if_neg h1]
 have hn := (h.of_ok (chkCm_zero.1 (by omega))).1
 have hcn : r.node.toNat = 1 := by rw [hn]; rfl
 rw [hcn]
 split
 ·exact Int.le_refl _
 ·dsimp only
  split
  ·exact closeS_le _ (V, L, _, 0) h.two
  ·exact closeS_le _ (V, L, _, 0) h.two
end Go.Pol
