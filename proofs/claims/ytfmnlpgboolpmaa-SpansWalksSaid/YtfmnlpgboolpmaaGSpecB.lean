/- Plain laws on plans of guards: the runs of usable pages are a set; which pages they have; numbers of usable pages. -/
import Derived.Test.YtfmnlpgboolpmaaGWalkC
namespace Go.Pol
open Go
theorem runsF_ok (sz en : Int) (hsz : 1 ≤ sz) : ∀ (k : Nat) (a : Int), en - a < k →
    (∀ x ∈ runsF sz en k a, a ≤ x.1 ∧ 1 ≤ x.2 ∧ x.1 + x.2 ≤ en) ∧ formOk (a - 1) (runsF sz en k a) = true ∧ (∀ q : Int, mem q (runsF sz en k a) = true ↔ (a ≤ q ∧ q < en) ∧ (q - a + 1) % (sz + 1) ≠ 0)
  | 0, a, h => ⟨by simp [runsF], rfl, fun q => by simp [runsF, mem_nil]; omega⟩
  | k + 1, a, h => by
    rw [runsF]
    by_cases hlt : a < en
    · rw [if_pos hlt]
      obtain ⟨h1, h2, h3⟩ := runsF_ok sz en hsz k (a + sz + 1) (by omega)
      refine ⟨fun x hx => ?_, ?_, fun q => ?_⟩
      · rcases List.mem_cons.1 hx with rfl | hx
        · simp only; omega
        · have := h1 x hx; omega
      · rw [formOk_cons]
        exact ⟨by simp only; omega, formOk_le h2 (by simp only; omega)⟩
      · rw [mem_cons', h3 q]
        simp only
        have e : (q - (a + sz + 1) + 1) % (sz + 1) = (q - a + 1) % (sz + 1) := by
          rw [show q - a + 1 = (q - (a + sz + 1) + 1) + (sz + 1) by omega, Int.add_emod_right]
        rw [e]
        by_cases hq : q < a
        · constructor
          · rintro (h | ⟨h, _⟩) <;> omega
          · rintro ⟨h, _⟩; omega
        by_cases hq2 : q < a + sz
        · have em : (q - a + 1) % (sz + 1) = q - a + 1 := Int.emod_eq_of_lt (by omega) (by omega)
          rw [em]; omega
        by_cases hq3 : q = a + sz
        · have em : (q - a + 1) % (sz + 1) = 0 := by rw [hq3, show a + sz - a + 1 = sz + 1 by omega, Int.emod_self]
          rw [em]; omega
        · constructor
          · rintro (h | ⟨h, h'⟩)
            · omega
            · exact ⟨by omega, h'⟩
          · rintro ⟨h, h'⟩; exact .inr ⟨by omega, h'⟩
    · rw [if_neg hlt]
      exact ⟨by simp, rfl, fun q => by simp [mem_nil]; omega⟩
section
variable {pg n f b ev : Int}
theorem runsL_ok (hp : PlanOk pg n f b ev) : (∀ x ∈ runsL pg n f b ev, pg + f ≤ x.1 ∧ 1 ≤ x.2 ∧ x.1 + x.2 ≤ pg + n - b) ∧ formOk (pg + f - 1) (runsL pg n f b ev) = true ∧
    (∀ q : Int, mem q (runsL pg n f b ev) = true ↔ (pg + f ≤ q ∧ q < pg + n - b) ∧ (q - (pg + f) + 1) % ((if ev = 0 then 1024 else ev) + 1) ≠ 0) := by
  have h := runsF_ok (if ev = 0 then 1024 else ev) (pg + n - b) (by have := hp.e0; split <;> omega) 1025 (pg + f) (by have := hp.n1; have := hp.pg0; have := hp.f0; have := hp.b0; omega)
  exact h
theorem runsL_can (hp : PlanOk pg n f b ev) : Go.Pol.Can (runsL pg n f b ev) := by
  obtain ⟨h1, h2, _⟩ := runsL_ok hp
  have a1 := hp.pg0; have a2 := hp.n1; have a3 := hp.f0; have a4 := hp.b0
  refine ⟨fun x hx => ?_, formOk_le h2 (by omega)⟩
  have := h1 x hx
  rw [vld_iff]; omega
theorem kindG_zero (hp : PlanOk pg n f b ev) (q : Int) : kindG pg n f b ev q = 0 ↔ mem q (runsL pg n f b ev) = true := by
  obtain ⟨a1, a2, a3, a4, a5, a6, a7, a8, a9, a10, a11⟩ := hp
  rw [(runsL_ok ⟨a1, a2, a3, a4, a5, a6, a7, a8, a9, a10, a11⟩).2.2 q]
  unfold kindG
  by_cases h1 : q - pg < 0 ∨ n ≤ q - pg
  · rw [if_pos h1]; constructor
    · intro h; cases h
    · rintro ⟨h, _⟩; omega
  rw [if_neg h1]
  by_cases h2 : q - pg < f
  · rw [if_pos h2]; constructor
    · intro h; cases h
    · rintro ⟨h, _⟩; omega
  rw [if_neg h2]
  by_cases h3 : n - b ≤ q - pg
  · rw [if_pos h3]; constructor
    · intro h; cases h
    · rintro ⟨h, _⟩; omega
  rw [if_neg h3, show q - (pg + f) + 1 = q - pg - f + 1 by omega]
  by_cases h0 : ev = 0
  · subst h0
    rw [if_neg (by omega), if_pos rfl]
    have : (q - pg - f + 1) % (1024 + 1) = q - pg - f + 1 := Int.emod_eq_of_lt (by omega) (by omega)
    rw [this]; omega
  · rw [if_neg h0]
    by_cases h4 : (q - pg - f + 1) % (ev + 1) = 0
    · rw [if_pos ⟨by omega, h4⟩]; constructor
      · intro h; cases h
      · rintro ⟨_, h⟩; exact absurd h4 h
    · rw [if_neg (fun h => h4 h.2)]
      exact ⟨fun _ => ⟨by omega, h4⟩, fun _ => rfl⟩
end

def sumS (l : List Sp) : Int := (l.map (·.2)).sum
theorem sumS_snoc (l : List Sp) (x : Sp) : sumS (l ++ [x]) = sumS l + x.2 := by simp [sumS]
theorem sumS_bound : ∀ (l : List Sp), (∀ x ∈ l, vld x = true) → 0 ≤ sumS l ∧ sumS l ≤ 1024 * l.length
  | [], _ => by simp [sumS]
  | x :: r, h => by
    have := sumS_bound r (fun y hy => h y (by simp [hy]))
    have hx := vld_iff.1 (h x (by simp))
    simp only [sumS, List.map_cons, List.sum_cons, List.length_cons] at this ⊢
    omega
/-- the usable page with a number -/
def nthF : List Sp → Int → Int × Int
  | [], _ => (0, 7)
  | x :: r, i => if i < 0 then (0, 7) else if i < x.2 then (x.1 + i, 0) else nthF r (i - x.2)
/-- the number of a usable page -/
def idxF (page : Int) : Int → List Sp → Int × Int
  | _, [] => (0, 4)
  | n, x :: r => if x.1 ≤ page ∧ page < x.1 + x.2 then (n + page - x.1, 0) else idxF page (n + x.2) r
/-- where the run with a page ends; the page itself if it is in none -/
def skipF (page : Int) : List Sp → Int
  | [] => page
  | x :: r => if x.1 ≤ page ∧ page < x.1 + x.2 then x.1 + x.2 else skipF page r
def pagesOf (l : List Sp) : List Int := l.flatMap fun x => (List.range x.2.toNat).map fun (k : Nat) => x.1 + (k : Int)
theorem nthF_step {L pre rest : List Sp} {i : Int} {x : Sp} (h : nthF L i = nthF (x :: rest) (i - sumS pre)) (h1 : ¬ i - sumS pre < 0) (h2 : ¬ i - sumS pre < x.2) : nthF L i = nthF rest (i - sumS (pre ++ [x])) := by
  rw [h, nthF, if_neg h1, if_neg h2, sumS_snoc]
  congr 1; omega
theorem idxF_step {L pre rest : List Sp} {page : Int} {x : Sp} (h : idxF page 0 L = idxF page (sumS pre) (x :: rest)) (h1 : ¬ (x.1 ≤ page ∧ page < x.1 + x.2)) : idxF page 0 L = idxF page (sumS (pre ++ [x])) rest := by
  rw [h, idxF, if_neg h1, sumS_snoc]
theorem skipF_step {L rest : List Sp} {page : Int} {x : Sp} (h : skipF page L = skipF page (x :: rest)) (h1 : ¬ (x.1 ≤ page ∧ page < x.1 + x.2)) : skipF page L = skipF page rest := by
  rw [h, skipF, if_neg h1]
theorem prefix_cons {α : Type} {pre xs : List α} {x : α} (h : pre ++ [x] <+: xs) : ∃ rest, xs = pre ++ x :: rest := by
  obtain ⟨rest, h⟩ := h
  exact ⟨rest, by rw [← h]; simp⟩
end Go.Pol
