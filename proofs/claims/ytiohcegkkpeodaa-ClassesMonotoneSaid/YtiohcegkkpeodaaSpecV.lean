/- The plain laws of ClassesMonotone: classes ascend, wastes add up, one more class does not waste more. No program in sight. -/
import Derived.Test.YtiohcegkkpeodaaSpecM
import Derived.Test.YtiohcegkkpeodaaWalkQ
namespace Go.Pol
theorem okT.asc {xs : List Int} (h : okT xs) : ∀ d k, k + d < xs.length → xs.getD k 0 ≤ xs.getD (k + d) 0 := by
  intro d
  induction d with
  | zero => intro k _; exact Int.le_refl _
  | succ d ih =>
    intro k hk
    have h1 := ih k (by omega)
    have h2 := (h.at_ (k + (d + 1)) hk).2.2
    have e : prev xs (k + (d + 1)) = xs.getD (k + d) 0 := rfl
    omega
theorem cls_mono (xs : List Int) {s t : Int} (h : s ≤ t) : cls xs s ≤ cls xs t := by
  induction xs with
  | nil => simp [cls]
  | cons x r ih =>
    unfold cls
    split
    · rw [if_pos (by omega)]; omega
    · omega
/-- a class that is not less than the size: the class of the size is none greater -/
theorem cls_at_most (xs : List Int) (s : Int) : ∀ k, k < xs.length → s ≤ xs.getD k 0 → cls xs s ≤ k := by
  intro k hk hs
  by_cases h : k < cls xs s
  · have := cls_lt xs s k h; omega
  · omega
theorem classT_ok {xs : List Int} {s : Int} (h : (classT xs s).2 = 0) : okT xs ∧ isSz s = true ∧ cls xs s < xs.length ∧ classT xs s = (((cls xs s : Nat) : Int), 0) := by
  unfold classT at h ⊢
  by_cases h1 : chkT xs = 0
  · rw [if_pos h1] at h ⊢
    by_cases h2 : isSz s = true
    · rw [if_pos h2] at h ⊢
      by_cases h3 : cls xs s = xs.length
      · rw [if_pos h3] at h; simp at h
      · rw [if_neg h3]
        exact ⟨chkT_ok h1, h2, by have := cls_le xs s; omega, by first | rfl | simp⟩
    · rw [if_neg h2] at h; simp at h
  · rw [if_neg h1] at h; exact absurd h h1
theorem classT_of {xs : List Int} {s : Int} (h1 : chkT xs = 0) (h2 : isSz s = true) (h3 : cls xs s < xs.length) : classT xs s = (((cls xs s : Nat) : Int), 0) := by
  unfold classT
  rw [if_pos h1, if_pos h2, if_neg (by omega)]
theorem classT_chk {xs : List Int} {s : Int} (h : (classT xs s).2 = 0) : chkT xs = 0 := by
  unfold classT at h
  by_cases h1 : chkT xs = 0
  · exact h1
  · rw [if_neg h1] at h; exact absurd h h1
/-- greater sizes have no lesser classes -/
theorem class_mono (xs : List Int) (a b : Int) : (((classT xs (min a b)).2 == 0) && ((classT xs (max a b)).2 == 0) && decide ((classT xs (max a b)).1 < (classT xs (min a b)).1) || ((classT xs (min a b)).2 != 0) && ((classT xs (max a b)).2 == 0) && decide (1 ≤ a) && decide (1 ≤ b)) = false := by
  by_cases hf : (classT xs (max a b)).2 = 0
  · obtain ⟨ok, hsz, hlt, hE⟩ := classT_ok hf
    have hck := classT_chk hf
    have hm := cls_mono xs (show min a b ≤ max a b by omega)
    rw [hE]
    by_cases he : (classT xs (min a b)).2 = 0
    · obtain ⟨_, _, _, hE2⟩ := classT_ok he
      rw [hE2]
      simp
      omega
    · have hb := isSz_iff.1 hsz
      have : ¬ (1 ≤ a ∧ 1 ≤ b) := fun h => he (by rw [classT_of hck (isSz_iff.2 (by omega)) (by omega)])
      by_cases h1 : 1 ≤ a
      · have h2 : ¬ 1 ≤ b := fun h => this ⟨h1, h⟩
        simp [he, h2]
      · simp [he, h1]
  · simp [hf]
def wof (xs : List Int) (s : Int) : Int := xs.getD (cls xs s) 0 - s
theorem wstL_eq (xs : List Int) : ∀ (us : List (Int × Int)) (a : Int), wstL xs a us = if ∀ u ∈ us, cls xs u.1 ≠ xs.length then some (a + wsum (wof xs) us) else none
  | [], a => by simp [wstL, wsum]
  | u :: r, a => by
    rw [wstL]
    by_cases h : cls xs u.1 = xs.length
    · rw [if_pos h, if_neg (fun hh => hh u (by simp) h)]
    · rw [if_neg h, wstL_eq xs r]
      by_cases h2 : ∀ v ∈ r, cls xs v.1 ≠ xs.length
      · rw [if_pos h2, if_pos (by intro v hv; rcases List.mem_cons.1 hv with rfl | hv; exact h; exact h2 v hv)]
        simp only [wsum, wof, Option.some.injEq]
        omega
      · rw [if_neg h2, if_neg (fun hh => h2 fun v hv => hh v (by simp [hv]))]
theorem wasteT_ok {xs : List Int} {us : List (Int × Int)} (h : (wasteT xs us).2 = 0) : chkT xs = 0 ∧ chkU us = 0 ∧ (∀ u ∈ us, cls xs u.1 < xs.length) ∧ (wasteT xs us).1 = wsum (wof xs) us := by
  unfold wasteT at h ⊢
  by_cases h1 : chkT xs = 0
  · rw [if_pos h1] at h ⊢
    by_cases h2 : chkU us = 0
    · rw [if_pos h2, wstL_eq] at h ⊢
      by_cases h3 : ∀ u ∈ us, cls xs u.1 ≠ xs.length
      · rw [if_pos h3]
        exact ⟨h1, h2, fun u hu => by have := h3 u hu; have := cls_le xs u.1; omega, by simp⟩
      · rw [if_neg h3] at h; simp at h
    · rw [if_neg h2] at h; exact absurd h h2
  · rw [if_neg h1] at h; exact absurd h h1
theorem wasteT_of {xs : List Int} {us : List (Int × Int)} (h1 : chkT xs = 0) (h2 : chkU us = 0) (h3 : ∀ u ∈ us, cls xs u.1 < xs.length) : wasteT xs us = (wsum (wof xs) us, 0) := by
  unfold wasteT
  rw [if_pos h1, if_pos h2, wstL_eq, if_pos (fun u hu => by have := h3 u hu; omega)]
  simp
/-- a sorted permutation of a list of pairs -/
theorem sorted_ex : ∀ us : List (Int × Int), ∃ p : List (Int × Int), p.Perm us ∧ p.Pairwise (fun a b => a.1 ≤ b.1)
  | [] => ⟨[], List.Perm.refl _, List.Pairwise.nil⟩
  | u :: r => by
    obtain ⟨p, hp, hs⟩ := sorted_ex r
    have ins : ∀ q : List (Int × Int), q.Pairwise (fun a b => a.1 ≤ b.1) → ∃ q' : List (Int × Int), q'.Perm (u :: q) ∧ q'.Pairwise (fun a b => a.1 ≤ b.1) := by
      intro q
      induction q with
      | nil => intro _; exact ⟨[u], List.Perm.refl _, by simp⟩
      | cons v q ih =>
        intro hq
        have hv := List.pairwise_cons.1 hq
        by_cases h : u.1 ≤ v.1
        · refine ⟨u :: v :: q, List.Perm.refl _, List.pairwise_cons.2 ⟨fun y hy => ?_, hq⟩⟩
          rcases List.mem_cons.1 hy with rfl | hy
          · exact h
          · have := hv.1 y hy; omega
        · obtain ⟨q', hq', hs'⟩ := ih hv.2
          refine ⟨v :: q', (hq'.cons v).trans (List.Perm.swap u v q), List.pairwise_cons.2 ⟨fun y hy => ?_, hs'⟩⟩
          rcases List.mem_cons.1 (hq'.mem_iff.1 hy) with rfl | hy
          · omega
          · exact hv.1 y hy
    obtain ⟨q', hq', hs'⟩ := ins p hs
    exact ⟨q', hq'.trans (hp.cons u), hs'⟩
/-- the waste of two usages together is the sum -/
theorem waste_sum {xs : List Int} {us vs : List (Int × Int)} (hu : (wasteT xs us).2 = 0) (hv : (wasteT xs vs).2 = 0) (hm : (mergeT us vs).2 = 0) : wasteT xs (mergeT us vs).1 = ((wasteT xs us).1 + (wasteT xs vs).1, 0) := by
  obtain ⟨h1, h2, h3, h4⟩ := wasteT_ok hu
  obtain ⟨_, k2, k3, k4⟩ := wasteT_ok hv
  obtain ⟨okU', okV, hE, hck⟩ := mergeT_ok hm
  obtain ⟨p, hp, hs⟩ := sorted_ex (us ++ vs)
  have hj := mjF_ref okU' okV hp hs
  rw [hE]
  have hfirst : ∀ y ∈ refL us vs 4096, cls xs y.1 < xs.length := fun y hy => by
    rw [← hj] at hy
    obtain ⟨u, hu', e⟩ := (mjF_law hs).2.2 y hy
    rw [← e]
    rcases List.mem_append.1 (hp.mem_iff.1 hu') with h | h
    · exact h3 u h
    · exact k3 u h
  rw [wasteT_of h1 hck hfirst, h4, k4, ← hj]
  unfold mjF
  rw [wsum_mjF, wsum_perm _ hp, wsum_append]
  simp [wsum]
/-- one more class, in its place -/
def withF (xs : List Int) (s : Int) : List Int := xs.take (cls xs s) ++ [s] ++ xs.drop (cls xs s)
theorem withF_mem (xs : List Int) (s : Int) {x : Int} (h : x ∈ xs) : x ∈ withF xs s := by
  unfold withF
  rw [← List.take_append_drop (cls xs s) xs] at h
  rcases List.mem_append.1 h with h | h
  · simp [h]
  · simp [h]
/-- one more class does not increase the waste -/
theorem waste_with {xs : List Int} {us : List (Int × Int)} {s : Int} (hu : (wasteT xs us).2 = 0) (hm : chkT (withF xs s) = 0) : (wasteT (withF xs s) us).2 = 0 ∧ (wasteT (withF xs s) us).1 ≤ (wasteT xs us).1 := by
  obtain ⟨h1, h2, h3, h4⟩ := wasteT_ok hu
  have hL := chkT_ok hm
  generalize hg : withF xs s = L at *
  have hin : ∀ x ∈ xs, x ∈ L := fun x hx => by rw [← hg]; exact withF_mem xs s hx
  have key : ∀ t, cls xs t < xs.length → cls L t < L.length ∧ L.getD (cls L t) 0 ≤ xs.getD (cls xs t) 0 := fun t ht => by
    have hx : xs.getD (cls xs t) 0 ∈ xs := by rw [List.getD_eq_getElem?_getD, List.getElem?_eq_getElem ht]; simp
    obtain ⟨i, hi, e⟩ := List.getElem_of_mem (hin _ hx)
    have hge := cls_ge xs t ht
    have hi' : L.getD i 0 = xs.getD (cls xs t) 0 := by rw [List.getD_eq_getElem?_getD, List.getElem?_eq_getElem hi]; simpa using e
    have hle := cls_at_most L t i hi (by omega)
    have := hL.asc (i - cls L t) (cls L t) (by omega)
    rw [show cls L t + (i - cls L t) = i by omega] at this
    exact ⟨by omega, by omega⟩
  rw [wasteT_of hm h2 (fun u hu => (key u.1 (h3 u hu)).1), h4]
  refine ⟨rfl, ?_⟩
  have hU := chkU_ok h2
  have hmem := fun u (h : u ∈ us) => okU_mem hU h
  clear hu h2 h4 hU
  show wsum (wof L) us ≤ wsum (wof xs) us
  induction us with
  | nil => simp [wsum]
  | cons u r ih =>
    have ih' := ih (fun v hv => h3 v (by simp [hv])) (fun v hv => hmem v (by simp [hv]))
    have hk := (key u.1 (h3 u (by simp))).2
    have hp := hmem u (by simp)
    have : wof L u.1 * u.2 ≤ wof xs u.1 * u.2 := Int.mul_le_mul_of_nonneg_right (by unfold wof; omega) (by omega)
    simp only [wsum]
    omega
end Go.Pol
