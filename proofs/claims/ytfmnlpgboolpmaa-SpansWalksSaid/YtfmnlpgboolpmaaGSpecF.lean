/- Plain law: the guards and the usable pages of a plan are disjoint, and together the range. -/
import Derived.Test.YtfmnlpgboolpmaaGSpecE
import Derived.Test.YtfmnlpgboolpmaaGWalkF
import Derived.Test.YtfmnlpgboolpmaaGSpecC
namespace Go.Proofs.Ytfmnlpgboolpmaa
open Go Go.Proofs Go.RowKit Go.Pol
section
variable {pg n f b ev : Int}
theorem plan_vld (hp : PlanOk pg n f b ev) : vld (pg, n) = true := vld_iff.2 ⟨hp.pg0, hp.pg1, hp.n0, hp.n1⟩
theorem guards_set (hp : PlanOk pg n f b ev) : Go.Pol.Can (guardsF pg n f b ev) ∧ ∀ q, mem q (guardsF pg n f b ev) = true ↔ (pg ≤ q ∧ q < pg + n) ∧ mem q (runsL pg n f b ev) = false := by
  unfold guardsF
  rw [if_pos (chkG_zero.2 hp)]
  exact (runsL_can hp).gaps (plan_vld hp)
theorem runs_in (hp : PlanOk pg n f b ev) {q : Int} (h : mem q (runsL pg n f b ev) = true) : pg ≤ q ∧ q < pg + n := by
  have := ((runsL_ok hp).2.2 q).1 h
  have := hp.f0; have := hp.b0
  omega
theorem parts_common (hp : PlanOk pg n f b ev) : commonF (guardsF pg n f b ev) (runsL pg n f b ev) = [] := by
  have hg := guards_set hp
  have hr := runsL_can hp
  refine (hg.1.common hr).eq ⟨by simp, rfl⟩ fun q => ?_
  rw [hg.1.mem_common hr, mem_nil, Bool.and_eq_false_iff]
  by_cases h : mem q (runsL pg n f b ev) = true
  · left
    cases hq : mem q (guardsF pg n f b ev) with
    | false => rfl
    | true => rw [((hg.2 q).1 hq).2] at h; cases h
  · right; simpa using h
theorem parts_all (hp : PlanOk pg n f b ev) (q : Int) : mem q [(pg, n)] = true ↔ mem q (guardsF pg n f b ev ++ runsL pg n f b ev) = true := by
  have hg := guards_set hp
  rw [mem_one, mem_append, Bool.or_eq_true, hg.2 q]
  simp only
  constructor
  · intro h
    cases hq : mem q (runsL pg n f b ev) with
    | true => exact .inr rfl
    | false => exact .inl ⟨h, rfl⟩
  · rintro (h | h)
    · exact h.1
    · exact runs_in hp h
/-- whatever sorted permutation it was: joined, the guards and the usable pages are the range -/
theorem parts_of (hp : PlanOk pg n f b ev) {us' : List Sp} (h : us'.Perm (guardsF pg n f b ev ++ runsL pg n f b ev)) (hs : us'.Pairwise (fun a b => a.1 ≤ b.1)) : ofF us' = [(pg, n)] :=
  ofF_set (fun y hy => by
    rcases List.mem_append.1 hy with h1 | h1
    · exact (guards_set hp).1.1 y h1
    · exact (runsL_can hp).1 y h1) h hs (Go.Pol.Can.one (plan_vld hp)) (parts_all hp)
/-- the program's Has of one page says whether it is in the set -/
theorem has_one {s : List Sp} (hs : Go.Pol.Can s) {p : Int} (hv : vld (p, 1) = true) : (gapsF s (p, 1)).isEmpty = mem p s := by
  obtain ⟨hg, hm⟩ := hs.gaps hv
  cases hp : mem p s with
  | true =>
    have h0 : gapsF s (p, 1) = [] := hg.eq ⟨by simp, rfl⟩ fun q => by
      rw [mem_nil]
      cases hq : mem q (gapsF s (p, 1)) with
      | false => rfl
      | true =>
        have h := (hm q).1 hq
        simp only at h
        have e : q = p := by omega
        rw [e, hp] at h; cases h.2
    rw [h0]; rfl
  | false =>
    have h1 : mem p (gapsF s (p, 1)) = true := (hm p).2 ⟨by simp only; omega, hp⟩
    cases hG : gapsF s (p, 1) with
    | nil => rw [hG, mem_nil] at h1; cases h1
    | cons => rfl
end
end Go.Proofs.Ytfmnlpgboolpmaa
