/- Plain law: the usable pages of a plan by number: they ascend, lead back, and there are as many as their sum says; no run is longer than Every. -/
import Derived.Test.YtfmnlpgboolpmaaGSpecF
namespace Go.Pol
open Go
theorem pages_sorted : ∀ (L : List Sp) (e : Int), (∀ x ∈ L, 1 ≤ x.2) → formOk e L = true → (pagesOf L).Pairwise (· < ·) ∧ ∀ p ∈ pagesOf L, e < p ∧ mem p L = true
  | [], _, _, _ => ⟨by simp [pagesOf], fun p hp => by simp [pagesOf] at hp⟩
  | x :: r, e, h, hf => by
    have hf' := formOk_cons.1 hf
    have hx := h x (by simp)
    obtain ⟨h1, h2⟩ := pages_sorted r (x.1 + x.2) (fun y hy => h y (by simp [hy])) hf'.2
    have hX : ∀ p ∈ pagesX x x.2.toNat, x.1 ≤ p ∧ p < x.1 + x.2 := by
      intro p hp
      simp only [pagesX, List.mem_map, List.mem_range] at hp
      obtain ⟨k, hk, rfl⟩ := hp
      omega
    rw [pagesOf_cons]
    constructor
    · rw [List.pairwise_append]
      refine ⟨?_, h1, fun a ha b hb => by have := hX a ha; have := (h2 b hb).1; omega⟩
      unfold pagesX
      rw [List.pairwise_map]
      exact List.pairwise_lt_range.imp (fun {a b} h => by omega)
    · intro p hp
      rcases List.mem_append.1 hp with h3 | h3
      · have := hX p h3
        exact ⟨by omega, mem_cons'.2 (.inl this)⟩
      · exact ⟨by have := (h2 p h3).1; omega, mem_cons'.2 (.inr (h2 p h3).2)⟩
theorem idxL_get : ∀ (P : List Int) (k : Int) (i : Nat), P.Pairwise (· < ·) → i < P.length → idxL (P.getD i 0) k P = (k + i, 0)
  | [], _, _, _, h => by simp at h
  | y :: r, k, 0, _, _ => by simp [idxL]
  | y :: r, k, i + 1, hp, h => by
    have hp' := List.pairwise_cons.1 hp
    have hi : i < r.length := by simpa using h
    have e : (y :: r).getD (i + 1) 0 = r.getD i 0 := by simp [List.getD_eq_getElem?_getD]
    have hm : r.getD i 0 ∈ r := by rw [List.getD_eq_getElem?_getD, List.getElem?_eq_getElem hi]; simp
    have hne : y ≠ r.getD i 0 := by have := hp'.1 _ hm; omega
    rw [e, idxL, if_neg hne, idxL_get r (k + 1) i hp'.2 hi]
    congr 1
    omega
theorem sum_form : ∀ (s : List Sp) (e : Int), e < 1024 → (∀ x ∈ s, vld x = true) → formOk e s = true → sumS s ≤ 1023 - e
  | [], e, he, _, _ => by simp [sumS]; omega
  | x :: s, e, he, hv, hf => by
    rw [formOk_cons] at hf
    have hx := vld_iff.1 (hv x (by simp))
    have e1 : sumS (x :: s) = x.2 + sumS s := by simp [sumS]
    rw [e1]
    cases s with
    | nil => simp [sumS]; omega
    | cons y r =>
      have hf2 := formOk_cons.1 hf.2
      have hy := vld_iff.1 (hv y (by simp))
      have := sum_form (y :: r) (x.1 + x.2) (by omega) (fun z hz => hv z (List.mem_cons_of_mem _ hz)) hf.2
      omega
theorem runs_size (sz en : Int) : ∀ (k : Nat) (a : Int), ∀ x ∈ runsF sz en k a, x.2 ≤ sz
  | 0, _ => by simp [runsF]
  | k + 1, a => by
    intro x hx
    rw [runsF] at hx
    split at hx
    · rcases List.mem_cons.1 hx with rfl | h
      · simp only; omega
      · exact runs_size sz en k _ x h
    · simp at hx
/-- the usable page with a number -/
def pageAt (L : List Sp) (k : Nat) : Int := (pagesOf L).getD k 0
/-- the one before it -/
def lastAt (L : List Sp) (k : Nat) : Int := if k = 0 then -1 else pageAt L (k - 1)
section
variable {pg n f b ev : Int}
theorem runs_every (hp : PlanOk pg n f b ev) (he : 0 < ev) : ∀ x ∈ runsL pg n f b ev, x.2 ≤ ev := by
  intro x hx
  unfold runsL at hx
  have := runs_size _ _ _ _ x hx
  rw [if_neg (by omega)] at this
  exact this
theorem runs_pos (hp : PlanOk pg n f b ev) : ∀ x ∈ runsL pg n f b ev, 1 ≤ x.2 := fun x hx => ((runsL_ok hp).1 x hx).2.1
theorem runs_ne (hp : PlanOk pg n f b ev) : runsL pg n f b ev ≠ [] := by
  have h := hp.fb
  unfold runsL
  rw [show (1025 : Nat) = 1024 + 1 from rfl, runsF, if_pos (by omega)]
  simp
theorem runs_sum (hp : PlanOk pg n f b ev) : 1 ≤ sumS (runsL pg n f b ev) ∧ sumS (runsL pg n f b ev) ≤ 1024 := by
  have hc := runsL_can hp
  have h1 := sum_form _ (-1) (by omega) hc.1 hc.2
  refine ⟨?_, by omega⟩
  have h2 := runs_pos hp
  cases hL : runsL pg n f b ev with
  | nil => exact absurd hL (runs_ne hp)
  | cons x r =>
    rw [hL] at h2 hc
    have h3 := h2 x (by simp)
    have h4 := (sumS_bound r (fun y hy => hc.1 y (by simp [hy]))).1
    have e1 : sumS (x :: r) = x.2 + sumS r := by simp [sumS]
    omega
theorem parts_nth (hp : PlanOk pg n f b ev) (k : Nat) (hk : (k : Int) < sumS (runsL pg n f b ev)) :
    nthF (runsL pg n f b ev) k = (pageAt (runsL pg n f b ev) k, 0) ∧ idxF (pageAt (runsL pg n f b ev) k) 0 (runsL pg n f b ev) = ((k : Int), 0) ∧
    mem (pageAt (runsL pg n f b ev) k) (runsL pg n f b ev) = true ∧ 0 ≤ pageAt (runsL pg n f b ev) k ∧ pageAt (runsL pg n f b ev) k < 1024 ∧
    lastAt (runsL pg n f b ev) k < pageAt (runsL pg n f b ev) k := by
  have hpos := runs_pos hp
  have hc := runsL_can hp
  have hin : ∀ {q : Int}, mem q (runsL pg n f b ev) = true → pg ≤ q ∧ q < pg + n := fun h => by
    have := ((runsL_ok hp).2.2 _).1 h
    have := hp.f0; have := hp.b0
    omega
  have b1 := hp.pg0; have b2 := hp.n1
  generalize runsL pg n f b ev = L at *
  have hl := pagesOf_len L (fun x hx => by have := hpos x hx; omega)
  have hk' : k < (pagesOf L).length := by omega
  obtain ⟨hs, hm⟩ := pages_sorted L (-1) hpos hc.2
  have hmem : pageAt L k ∈ pagesOf L := by
    unfold pageAt
    rw [List.getD_eq_getElem?_getD, List.getElem?_eq_getElem hk']; simp
  have hmm := (hm _ hmem).2
  have := hin hmm
  refine ⟨?_, ?_, hmm, by omega, by omega, ?_⟩
  · rw [nthF_pages L _ hpos, nthP, if_neg (by omega)]; rfl
  · rw [idxF_pages _ _ _ hpos]
    have := idxL_get (pagesOf L) 0 k hs hk'
    rw [Int.zero_add] at this
    exact this
  · unfold lastAt
    by_cases h0 : k = 0
    · rw [if_pos h0]; omega
    · rw [if_neg h0]
      have h1 : k - 1 < (pagesOf L).length := by omega
      have := List.pairwise_iff_getElem.1 hs (k - 1) k h1 hk' (by omega)
      unfold pageAt
      have e1 : (pagesOf L).getD k 0 = (pagesOf L)[k] := by rw [List.getD_eq_getElem?_getD, List.getElem?_eq_getElem hk']; rfl
      have e2 : (pagesOf L).getD (k - 1) 0 = (pagesOf L)[k - 1] := by rw [List.getD_eq_getElem?_getD, List.getElem?_eq_getElem h1]; rfl
      rw [e1, e2]
      exact this
theorem parts_end (hp : PlanOk pg n f b ev) : nthF (runsL pg n f b ev) (sumS (runsL pg n f b ev)) = (0, 7) := by
  have hpos := runs_pos hp
  rw [nthF_pages _ _ hpos, nthP, if_pos]
  right
  rw [pagesOf_len _ (fun x hx => by have := hpos x hx; omega)]
  exact Int.le_refl _
theorem lastAt_succ (L : List Sp) (k : Nat) : lastAt L (k + 1) = pageAt L k := by unfold lastAt; rw [if_neg (by omega)]; rfl
end
end Go.Pol
