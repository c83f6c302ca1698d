/- The reference's best plan is the program's; no program in sight. -/
import Derived.Test.YtifdgabfnnkghaaVSpecI
namespace Go.Pol
/-- the reference's moves that empty a candidate -/
def refEmptyB (pg : Nat) (bs : List B3) (o k : Nat) : List (Int × Int) × Bool := if staysM bs (o : Int) (movedB bs (placeB o k)) = true then ([], false) else emptyB pg bs (placeB o k) (movedB bs (placeB o k))
/-- is a plan better than another one? -/
def betterB (bs : List B3) (a b : List (Int × Int)) : Bool := decide (orN [cmpN (costB bs a).1 (costB bs b).1, cmpN a.length b.length, listN a b] < 0)
def refStep (pg : Nat) (bs : List B3) (o : Nat) (st : List (Int × Int) × Bool) (k : Nat) : List (Int × Int) × Bool :=
  if ((refEmptyB pg bs o k).2 && (!st.2 || betterB bs (refEmptyB pg bs o k).1 st.1)) = true then ((refEmptyB pg bs o k).1, true) else st
def refT (pg : Nat) (bs : List B3) (o k : Nat) : List (Int × Int) × Bool := (List.range k).foldl (refStep pg bs o) ([], false)
theorem refT_succ (pg : Nat) (bs : List B3) (o k : Nat) : refT pg bs o (k + 1) = refStep pg bs o (refT pg bs o k) k := by
  unfold refT
  rw [List.range_succ, List.foldl_append]; rfl
theorem refT_plan {pg : Nat} {bs : List B3} (o : Nat) (ok : okB (pg : Int) bs) (hpg : pg ≤ 1024) : ∀ K, refT pg bs o K = ((planT pg bs o K).1, (planT pg bs o K).2.2) ∧ ((planT pg bs o K).2.2 = true → (costB bs (planT pg bs o K).1).1 = (planT pg bs o K).2.1)
  | 0 => ⟨rfl, fun h => by cases h⟩
  | K + 1 => by
    obtain ⟨ih1, ih2⟩ := refT_plan o ok hpg K
    rw [refT_succ, planT_succ, ih1]
    generalize planT pg bs o K = st at *
    obtain ⟨best, least, is⟩ := st
    simp only at ih2 ⊢
    unfold refStep stepP
    simp only
    cases hst : staysM bs (o : Int) (movedB bs (placeB o K)) with
    | true =>
      have e1 : (refEmptyB pg bs o K).2 = false := by unfold refEmptyB; rw [hst]; rfl
      have e2 : skipP bs o (movedB bs (placeB o K)) (best, least, is) = true := by unfold skipP; rw [hst]; rfl
      rw [e1, e2, Bool.false_and, if_neg (by simp), if_pos rfl]
      exact ⟨rfl, ih2⟩
    | false =>
      have e1 : refEmptyB pg bs o K = emptyB pg bs (placeB o K) (movedB bs (placeB o K)) := by unfold refEmptyB; rw [if_neg (by rw [hst]; simp)]
      rw [e1]
      cases hE : (emptyB pg bs (placeB o K) (movedB bs (placeB o K))).2 with
      | false =>
        simp only [Bool.false_and, Bool.false_eq_true, if_false, ite_self]
        exact ⟨trivial, ih2⟩
      | true =>
        have hg : goodB pg bs o K := ⟨hst, hE⟩
        obtain ⟨_, hcost⟩ := good_cost ok hpg hg
        have hlen : (emptyB pg bs (placeB o K) (movedB bs (placeB o K))).1.length = (movedB bs (placeB o K)).length := by
          have := congrArg List.length (good_moves ok hpg hg).1
          rwa [List.length_map, List.length_map] at this
        generalize (emptyB pg bs (placeB o K) (movedB bs (placeB o K))).1 = E at *
        have hcm : costM bs (movedB bs (placeB o K)) = costK bs o K := rfl
        rw [hcm]
        rw [Bool.true_and, Bool.true_and]
        cases his : is with
        | false =>
          have e2 : skipP bs o (movedB bs (placeB o K)) (best, least, false) = false := by unfold skipP; rw [hst]; rfl
          rw [e2]
          simp only [Bool.not_false, Bool.true_or, if_true, Bool.false_eq_true, if_false]
          exact ⟨trivial, fun _ => by rw [hcost]⟩
        | true =>
          have hb : betterB bs E best = lessP (costK bs o K) E (best, least, true) := by
            unfold betterB lessP
            rw [hcost, ih2 his]
          rw [hb]
          simp only [Bool.not_true, Bool.false_or]
          cases hl : lessP (costK bs o K) E (best, least, true) with
          | false =>
            simp only [Bool.false_eq_true, if_false, ite_self]
            exact ⟨trivial, fun _ => ih2 his⟩
          | true =>
            have e2 : skipP bs o (movedB bs (placeB o K)) (best, least, true) = false := by
              cases hs : skipP bs o (movedB bs (placeB o K)) (best, least, true) with
              | false => rfl
              | true =>
                exfalso
                unfold skipP at hs
                rw [hst, hcm] at hs
                simp only [Bool.false_or, Bool.true_and, Bool.or_eq_true, Bool.and_eq_true, decide_eq_true_eq] at hs
                unfold lessP at hl
                rw [decide_eq_true_eq] at hl
                simp only [orN] at hl
                rcases hs with h | ⟨h1, h2⟩
                · have hn : ¬ cmpN (costK bs o K) least < 0 := fun h' => by have := cmpN_lt.1 h'; omega
                  have hz : ¬ cmpN (costK bs o K) least = 0 := fun h' => by have := cmpN_zero.1 h'; omega
                  rw [if_neg hz] at hl
                  exact hn hl
                · rw [if_pos (cmpN_zero.2 h1)] at hl
                  have hn : ¬ cmpN (E.length : Int) (best.length : Int) < 0 := fun h' => by have := cmpN_lt.1 h'; omega
                  have hz : ¬ cmpN (E.length : Int) (best.length : Int) = 0 := fun h' => by have := cmpN_zero.1 h'; omega
                  rw [if_neg hz] at hl
                  exact hn hl
            rw [e2]
            simp only [if_true, Bool.false_eq_true, if_false]
            exact ⟨trivial, fun _ => by rw [hcost]⟩
/-- counting places of a space is enough -/
theorem cntB_cut {f : Nat → Bool} {n : Nat} : ∀ d, (∀ i, n ≤ i → f i = false) → cntB f (n + d) = cntB f n
  | 0, _ => rfl
  | d + 1, h => by
    rw [← Nat.add_assoc, cntB, cntB_cut d h, h (n + d) (by omega)]; simp
theorem cntB_space {pg : Nat} {m : Nat → Bool} {t : Nat} (hpg : pg ≤ 1024) : cntB (frB pg m t) 1024 = cntB (frB pg m t) (pg / 2 ^ t) := by
  have hd := Nat.div_le_self pg (2 ^ t)
  obtain ⟨d, hd'⟩ : ∃ d, 1024 = pg / 2 ^ t + d := ⟨1024 - pg / 2 ^ t, by omega⟩
  rw [hd', cntB_cut d (fun i hi => by
    cases h : frB pg m t i with
    | false => rfl
    | true => have := frB_lt_div h; omega)]
/-- the reference looks at orders that the space has alone -/
theorem holds_space {pg P : Nat} {m : Nat → Bool} {os : List Nat} (hpg : pg = 2 ^ P) (hP : P ≤ 10) (ho : ∀ o ∈ os, o ≤ P) : holdsB (frB pg m) os = true ↔ ∀ t, t ≤ P → needB os t ≤ cntB (frB pg m t) (pg / 2 ^ t) := by
  have hpg1024 : pg ≤ 1024 := by rw [hpg]; exact Nat.pow_le_pow_right (by decide) hP
  rw [holdsB_iff]
  constructor
  · intro h t ht
    rw [← cntB_space hpg1024]; exact h t (by omega)
  · intro h t ht
    by_cases htP : t ≤ P
    · rw [cntB_space hpg1024]; exact h t htP
    · rw [needB_zero (fun o hm => by have := ho o hm; omega)]; omega
end Go.Pol
