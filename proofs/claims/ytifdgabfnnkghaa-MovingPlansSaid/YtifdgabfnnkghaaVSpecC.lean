/- The moves that empty a candidate: as plain functions; no program in sight. -/
import Derived.Test.YtifdgabfnnkghaaVSpecB
namespace Go.Pol
/-- the first one from a on that a test holds of -/
def firstB (p : Nat → Bool) : Nat → Nat → Option Nat
  | 0, _ => none
  | n + 1, a => if p a = true then some a else firstB p n (a + 1)
theorem firstB_spec (p : Nat → Bool) : ∀ n a, match firstB p n a with
    | some k => a ≤ k ∧ k < a + n ∧ p k = true ∧ ∀ i, a ≤ i → i < k → p i = false
    | none => ∀ i, a ≤ i → i < a + n → p i = false
  | 0, a => by simp only [firstB]; intro i h1 h2; omega
  | n + 1, a => by
    rw [firstB]
    by_cases h : p a = true
    · rw [if_pos h]
      exact ⟨Nat.le_refl _, by omega, h, fun i h1 h2 => by omega⟩
    · rw [if_neg h]
      have ih := firstB_spec p n (a + 1)
      have hf : p a = false := by simpa using h
      cases hc : firstB p n (a + 1) with
      | some k =>
        rw [hc] at ih
        obtain ⟨h1, h2, h3, h4⟩ := ih
        refine ⟨by omega, by omega, h3, fun i hi1 hi2 => ?_⟩
        by_cases e : i = a
        · subst e; exact hf
        · exact h4 i (by omega) hi2
      | none =>
        rw [hc] at ih
        intro i hi1 hi2
        by_cases e : i = a
        · subst e; exact hf
        · exact ih i (by omega) (by omega)
/-- the order of a block -/
def ordB (bs : List B3) (i : Nat) : Nat := (bs.getD i b0).2.1.toNat
/-- the first place with which the rest can still be placed -/
def pickB (pg : Nat) (bs : List B3) (m : Nat → Bool) (i : Nat) (r : List Nat) : Option Nat :=
  firstB (fun a => frB pg m (ordB bs i) a && holdsB (frB pg (markB m (a * 2 ^ ordB bs i) (ordB bs i))) (r.map (ordB bs))) (pg / 2 ^ ordB bs i) 0
/-- the moves, one after the other -/
def greedy (pg : Nat) (bs : List B3) : (Nat → Bool) → List Nat → List (Int × Int)
  | _, [] => []
  | m, i :: r => match pickB pg bs m i r with
    | some a => ((i : Int), ((a * 2 ^ ordB bs i : Nat) : Int)) :: greedy pg bs (markB m (a * 2 ^ ordB bs i) (ordB bs i)) r
    | none => greedy pg bs m r
/-- the pages of blocks marked -/
def markL (m : Nat → Bool) (bs : List B3) : Nat → Bool := bs.foldl (fun m b => markB m b.1.toNat b.2.1.toNat) m
/-- the moves that empty a candidate -/
def emptyB (pg : Nat) (bs : List B3) (c : B3) (moved : List Nat) : List (Int × Int) × Bool :=
  if holdsB (frB pg (markL (markB (fun _ => false) c.1.toNat c.2.1.toNat) bs)) (moved.map (ordB bs)) = true then (greedy pg bs (markL (markB (fun _ => false) c.1.toNat c.2.1.toNat) bs) moved, true) else ([], false)
end Go.Pol
