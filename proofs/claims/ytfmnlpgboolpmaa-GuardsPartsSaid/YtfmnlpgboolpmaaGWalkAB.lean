/- The law GuardsParts: what its loops ask of the parts of a plan holds. -/
import Derived.Test.YtfmnlpgboolpmaaGWalkZZ
import Derived.Test.YtfmnlpgboolpmaaGWalkAA
namespace Go.Proofs.Ytfmnlpgboolpmaa
open Go Go.Proofs Go.RowKit Go.Pol

theorem partsF (pg n f b ev : Int) (hc : chkG pg n f b ev = 0) : PartsF pg n f b ev (guardsF pg n f b ev) (runsL pg n f b ev) (sumS (runsL pg n f b ev)) := by
  have hp := chkG_zero.1 hc
  have hg := (guards_set hp).1
  have hr := runsL_can hp
  have zG := chkS_zero.2 hg
  have zL := chkS_zero.2 hr
  have hs := runs_sum hp
  constructor
  · intro W; have h := guards_own pg n f b ev W; rw [hc] at h; exact h
  · intro W; have h := usable_any pg n f b ev W; rw [if_pos hc, hc] at h; exact h
  · intro W
    have h := count_any pg n f b ev W
    rw [hc] at h
    unfold countF at h
    rw [if_pos hc] at h
    exact h
  · intro A1 c1 A2 c2 W h1 h2 h3 h4 h5 h6
    have h := meet_any A1 A2 _ c1 _ c2 _ _ W rfl h1 h2 h3 rfl h4 h5 h6
    rw [if_pos ⟨zG, zL⟩, if_pos zG, zL, parts_common hp] at h
    exact h
  · intro A1 c1 A2 c2 W h1 h2 h3 h4 h5 h6 hz
    refine (union_any A1 A2 _ c1 _ c2 _ _ W rfl h1 h2 h3 rfl h4 h5 h6 hz (fun h0 => ?_) hg hr).mono ?_
    · exfalso
      obtain ⟨bb, o, e, _⟩ := RU.at_' h6 (k := 0) (List.length_pos_iff.2 (runs_ne hp))
      rw [h0] at e; cases e
    · rintro e w' ⟨us', A, cap, hperm, hsorted, rfl, hru, i1, i2, hb⟩
      have ho := parts_of hp hperm hsorted
      rw [ho] at hru i1 ⊢
      obtain ⟨bb, o, rfl, j1, j2, j3⟩ := RU.at_' hru (k := 0) (by simp)
      exact ⟨bb, o, cap, rfl, j1, by simpa using j2, by simpa using j3, by simpa using i1, i2, hb⟩
  · intro k W hk
    obtain ⟨h1, _⟩ := parts_nth hp k hk
    exact nth_any pg n f b ev k W (by omega) (by omega) (pageAt (runsL pg n f b ev) k, 0) (by rw [if_pos hc, h1])
  · intro W
    exact nth_any pg n f b ev _ W (by omega) (by omega) (0, 7) (by rw [if_pos hc, parts_end hp])
  · intro k W hk
    obtain ⟨_, h1, _⟩ := parts_nth hp k hk
    exact index_any pg n f b ev _ W ((k : Int), 0) (by rw [if_pos hc, h1])
  · intro k A c W hk h1 h2 h3
    obtain ⟨_, _, hm, hq0, hq1, _⟩ := parts_nth hp k hk
    have hv : vld (pageAt (runsL pg n f b ev) k, 1) = true := vld_iff.2 ⟨hq0, hq1, by simp, by simp only; omega⟩
    have h := has_any A _ c _ (pageAt (runsL pg n f b ev) k) 1 W rfl h1 h2 h3
    have ha : askS (runsL pg n f b ev) (pageAt (runsL pg n f b ev) k, 1) = 0 := by rw [askS, if_pos zL, if_pos hv]
    rw [ha, has_one hr hv, hm] at h
    exact h
  · intro k hk
    obtain ⟨_, _, _, hq0, hq1, hq2⟩ := parts_nth hp k hk
    exact ⟨hq0, hq1, hq2⟩
  · exact fun he => runs_every hp he
  · exact hr.len
  · exact hg.len
  · exact hs

theorem partsLaw_any (pg n f b ev : Int) (w : World) :
    Calls Try.prog 8 #[planV pg n f b ev] w fun e w' => e = .returned (.bool true) ∧ Below w.heap.size w w' :=
  partsLaw_of pg n f b ev w _ _ _ (fun hc => partsF pg n f b ev hc)
end Go.Proofs.Ytfmnlpgboolpmaa
