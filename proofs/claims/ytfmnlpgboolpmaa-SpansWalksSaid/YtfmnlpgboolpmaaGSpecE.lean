/- Plain law: spans sorted by their first pages and joined are the set of their pages. -/
import Derived.Test.YtfmnlpgboolpmaaGWalkW
namespace Go.Proofs.Ytfmnlpgboolpmaa
open Go Go.Proofs Go.RowKit Go.Pol

theorem joinF_law {L us : List Sp} {x : Sp} (hC : Go.Pol.Can L) (hm : ∀ q, mem q L = true ↔ mem q us = true) (hf : ∀ y ∈ L, ∃ u ∈ us, y.1 = u.1) (hx : vld x = true) (hle : ∀ u ∈ us, u.1 ≤ x.1) :
    Go.Pol.Can (joinF L x) ∧ (∀ q, mem q (joinF L x) = true ↔ mem q (us ++ [x]) = true) ∧ (∀ y ∈ joinF L x, ∃ u ∈ us ++ [x], y.1 = u.1) := by
  have hvx := vld_iff.1 hx
  rcases List.eq_nil_or_concat L with rfl | ⟨pre, l, rfl⟩
  · rw [joinF_nil]
    refine ⟨Go.Pol.Can.one hx, fun q => ?_, fun y hy => ⟨x, by simp, by simp only [List.mem_singleton] at hy; rw [hy]⟩⟩
    rw [mem_one, mem_snoc, ← hm q, mem_nil]; simp
  · rw [List.concat_eq_append] at *
    rw [joinF_snoc]
    obtain ⟨u, hu, hlu⟩ := hf l (by simp)
    have hlx := hle u hu
    have hvl := vld_iff.1 (hC.1 l (by simp))
    have hfo := (formOk_snoc _ _ _).1 hC.2
    by_cases h : x.1 ≤ l.1 + l.2
    · rw [if_pos h]
      refine ⟨⟨?_, (formOk_snoc _ _ _).2 hfo⟩, fun q => ?_, fun y hy => ?_⟩
      · intro y hy
        rcases List.mem_append.1 hy with h1 | h1
        · exact hC.1 y (by simp [h1])
        · simp only [List.mem_singleton] at h1
          subst h1
          exact vld_iff.2 (by simp only; omega)
      · rw [mem_snoc, mem_snoc, ← hm q, mem_snoc]
        simp only
        constructor
        · rintro (h1 | h1)
          · exact .inl (.inl h1)
          · by_cases h2 : q < l.1 + l.2
            · exact .inl (.inr (by omega))
            · exact .inr (by omega)
        · rintro ((h1 | h1) | h1)
          · exact .inl h1
          · exact .inr (by omega)
          · exact .inr (by omega)
      · rcases List.mem_append.1 hy with h1 | h1
        · obtain ⟨u', hu', e⟩ := hf y (by simp [h1])
          exact ⟨u', by simp [hu'], e⟩
        · simp only [List.mem_singleton] at h1
          subst h1
          exact ⟨u, by simp [hu], hlu⟩
    · rw [if_neg h]
      refine ⟨⟨?_, (formOk_snoc _ _ _).2 ⟨hC.2, ?_⟩⟩, fun q => ?_, fun y hy => ?_⟩
      · intro y hy
        rcases List.mem_append.1 hy with h1 | h1
        · exact hC.1 y h1
        · simp only [List.mem_singleton] at h1
          subst h1; exact hx
      · rw [lastE_snoc]; omega
      · rw [mem_snoc, mem_snoc (l := us), ← hm q]
      · rcases List.mem_append.1 hy with h1 | h1
        · obtain ⟨u', hu', e⟩ := hf y h1
          exact ⟨u', by simp [hu'], e⟩
        · simp only [List.mem_singleton] at h1
          subst h1
          exact ⟨y, by simp, rfl⟩
theorem foldl_law : ∀ (us L done : List Sp), Go.Pol.Can L → (∀ q, mem q L = true ↔ mem q done = true) → (∀ y ∈ L, ∃ u ∈ done, y.1 = u.1) → (∀ y ∈ us, vld y = true) → (∀ a ∈ done, ∀ b ∈ us, a.1 ≤ b.1) → us.Pairwise (fun a b => a.1 ≤ b.1) →
    Go.Pol.Can (us.foldl joinF L) ∧ ∀ q, mem q (us.foldl joinF L) = true ↔ mem q (done ++ us) = true
  | [], L, done, hC, hm, _, _, _, _ => ⟨hC, fun q => by simpa using hm q⟩
  | x :: us, L, done, hC, hm, hf, hv, hle, hp => by
    obtain ⟨h1, h2, h3⟩ := joinF_law hC hm hf (hv x (by simp)) (fun u hu => hle u hu x (by simp))
    have hp' := List.pairwise_cons.1 hp
    have h := foldl_law us (joinF L x) (done ++ [x]) h1 h2 h3 (fun y hy => hv y (by simp [hy])) (fun a ha b hb => by
      rcases List.mem_append.1 ha with h | h
      · exact hle a h b (by simp [hb])
      · simp only [List.mem_singleton] at h
        subst h; exact hp'.1 b hb) hp'.2
    refine ⟨h.1, fun q => ?_⟩
    rw [List.foldl_cons, h.2 q, List.append_assoc]; rfl
/-- of spans sorted by their first pages: the set of their pages -/
theorem ofF_law {us : List Sp} (hv : ∀ y ∈ us, vld y = true) (hp : us.Pairwise (fun a b => a.1 ≤ b.1)) : Go.Pol.Can (ofF us) ∧ ∀ q, mem q (ofF us) = true ↔ mem q us = true := by
  have h := foldl_law us [] [] ⟨by simp, rfl⟩ (fun q => Iff.rfl) (by simp) hv (by simp) hp
  exact ⟨h.1, fun q => by have := h.2 q; simpa [ofF] using this⟩
theorem mem_perm {us vs : List Sp} (h : us.Perm vs) (q : Int) : mem q us = mem q vs := by
  rw [Bool.eq_iff_iff]; simp only [mem, List.any_eq_true]
  exact ⟨fun ⟨x, hx, e⟩ => ⟨x, h.mem_iff.1 hx, e⟩, fun ⟨x, hx, e⟩ => ⟨x, h.mem_iff.2 hx, e⟩⟩
/-- which permutation it was that the sort laid makes no difference -/
theorem ofF_set {us us' s : List Sp} (hv : ∀ y ∈ us, vld y = true) (hp : us'.Perm us) (hs : us'.Pairwise (fun a b => a.1 ≤ b.1)) (hC : Go.Pol.Can s) (hm : ∀ q, mem q s = true ↔ mem q us = true) : ofF us' = s := by
  have h := ofF_law (fun y hy => hv y (hp.mem_iff.1 hy)) hs
  exact h.1.eq hC fun q => by rw [Bool.eq_iff_iff, h.2 q, hm q, mem_perm hp]
end Go.Proofs.Ytfmnlpgboolpmaa
