/- The plain law of Worst: the greatest share of the first sizes of the classes is the greatest share of all sizes; both are brought to lowest terms. No program in sight. -/
import Derived.Test.YtiohcegkkpeodaaSpecA
namespace Go.Pol
theorem redR_one : ∀ (k a b : Nat), Nat.gcd a b = 1 → redR k a b = ((a : Int), (b : Int))
  | 0, _, _, _ => rfl
  | k + 1, a, b, h => by
    unfold redR
    by_cases hk : k = 0
    · rw [if_pos hk]
    · rw [if_neg hk, if_neg ?_]
      · exact redR_one k a b h
      · rintro ⟨h1, h2⟩
        have d1 : (k + 1) ∣ a := by have := Int.dvd_of_emod_eq_zero h1; exact_mod_cast this
        have d2 : (k + 1) ∣ b := by have := Int.dvd_of_emod_eq_zero h2; exact_mod_cast this
        have := Nat.dvd_gcd d1 d2
        rw [h] at this
        have := Nat.le_of_dvd (by omega) this
        omega
theorem redR_gcd : ∀ (k a b : Nat), 1 ≤ b → Nat.gcd a b ≤ k → redR k a b = ((a : Int) / (Nat.gcd a b : Nat), (b : Int) / (Nat.gcd a b : Nat))
  | 0, a, b, hb, h => by have := Nat.gcd_pos_of_pos_right a (show 0 < b by omega); omega
  | k + 1, a, b, hb, h => by
    have hg := Nat.gcd_pos_of_pos_right a (show 0 < b by omega)
    unfold redR
    by_cases hk : k = 0
    · rw [if_pos hk]
      have : Nat.gcd a b = 1 := by omega
      rw [this]; simp
    · rw [if_neg hk]
      by_cases he : Nat.gcd a b = k + 1
      · have d1 := Nat.gcd_dvd_left a b
        have d2 := Nat.gcd_dvd_right a b
        rw [he] at d1 d2
        have e1 : (a : Int) % ((k : Int) + 1) = 0 := Int.emod_eq_zero_of_dvd (by exact_mod_cast d1)
        have e2 : (b : Int) % ((k : Int) + 1) = 0 := Int.emod_eq_zero_of_dvd (by exact_mod_cast d2)
        rw [if_pos ⟨e1, e2⟩, he]
        have := redR_one k (a / (k + 1)) (b / (k + 1)) (by rw [Nat.gcd_div d1 d2, he, Nat.div_self (by omega)])
        push_cast at this ⊢
        exact this
      · rw [if_neg ?_]
        · exact redR_gcd k a b hb (by omega)
        · rintro ⟨h1, h2⟩
          have d1 : (k + 1) ∣ a := by have := Int.dvd_of_emod_eq_zero h1; exact_mod_cast this
          have d2 : (k + 1) ∣ b := by have := Int.dvd_of_emod_eq_zero h2; exact_mod_cast this
          have := Nat.le_of_dvd (by omega) (Nat.dvd_gcd d1 d2)
          omega
/-- what the reference of Worst computes -/
def refW (xs : List Int) : Int × Int × Int × Int :=
  if chkT xs = 0 then
    let r := wrsR xs (xs.getD (xs.length - 1) 0).toNat 1 1 0 1
    let q := redR r.2.2.toNat r.2.1 r.2.2
    (r.1, q.1, q.2, 0)
  else (0, 0, 0, chkT xs)
/-- sizes of the class 'c' that come behind its first one change nothing -/
theorem wrsR_skip (xs : List Int) (c : Int) (f : Nat) (size num den : Int) (hden : 1 ≤ den) (hc : 1 ≤ c) : ∀ (d : Nat) (n : Int), (∀ m, n ≤ m → m < n + d → xs.getD (cls xs m) 0 = c) → (c - n) * den ≤ num * c →
    wrsR xs (d + f) n size num den = wrsR xs f (n + d) size num den
  | 0, n, _, _ => by simp
  | d + 1, n, hcl, hle => by
    rw [show d + 1 + f = (d + f) + 1 by omega, wrsR, hcl n (by omega) (by omega), if_neg (by omega)]
    have h2 : (c - (n + 1)) * den ≤ (c - n) * den := Int.mul_le_mul_of_nonneg_right (by omega) (by omega)
    rw [wrsR_skip xs c f size num den hden hc d (n + 1) (fun m h1 h2 => hcl m (by omega) (by omega)) (by omega)]
    congr 1
    push_cast; omega
theorem cls_pre (pre : List Int) (c : Int) (r : List Int) (m : Int) (hp : ∀ k, k < pre.length → pre.getD k 0 < m) (hm : m ≤ c) : (pre ++ c :: r).getD (cls (pre ++ c :: r) m) 0 = c := by
  induction pre with
  | nil => simp [cls, show ¬ c < m by omega]
  | cons x pre ih =>
    have h0 := hp 0 (by simp)
    simp only [List.getD_cons_zero] at h0
    simp only [List.cons_append, cls, if_pos h0, List.getD_cons_succ]
    exact ih (fun k hk => by have := hp (k + 1) (by simpa using hk); simpa using this)
theorem wrs_eq (xs : List Int) (L : Int) : ∀ (r pre : List Int) (first size num den : Int) (f : Nat), xs = pre ++ r → (∀ k, k < pre.length → pre.getD k 0 < first) → 1 ≤ first → 0 ≤ num → 1 ≤ den →
    (∀ k, k < r.length → first ≤ r.getD k 0 ∧ (if k = 0 then first - 1 else r.getD (k - 1) 0) < r.getD k 0) → (first + f = (if r = [] then first - 1 else r.getD (r.length - 1) 0) + 1) →
    wrsR xs f first size num den = ((wrs size (num, den) first r).1, (wrs size (num, den) first r).2.1, (wrs size (num, den) first r).2.2)
  | [], pre, first, size, num, den, f, hx, hp, h1, hn, hd, hr, hf => by
    have : f = 0 := by simp at hf; omega
    subst this; rfl
  | c :: r, pre, first, size, num, den, f, hx, hp, h1, hn, hd, hr, hf => by
    have hc := hr 0 (by simp)
    simp only [List.getD_cons_zero, if_true] at hc
    have hcl : ∀ m, first ≤ m → m ≤ c → xs.getD (cls xs m) 0 = c := fun m hm hm2 => by rw [hx]; exact cls_pre pre c r m (fun k hk => by have := hp k hk; omega) hm2
    have hasc : ∀ k, k < r.length → c + 1 ≤ r.getD k 0 ∧ (if k = 0 then c + 1 - 1 else r.getD (k - 1) 0) < r.getD k 0 := by
      intro k
      induction k with
      | zero => intro hk; have := hr 1 (by simpa using hk); simp at this ⊢; omega
      | succ k ih =>
        intro hk
        have := hr (k + 2) (by simp; omega)
        have h2 := ih (by omega)
        simp at this ⊢
        simp at h2
        omega
    -- where the sizes end
    have hlast : (if r = [] then c + 1 - 1 else r.getD (r.length - 1) 0) = (c :: r).getD ((c :: r).length - 1) 0 := by
      by_cases e : r = []
      · subst e; simp
      · rw [if_neg e]
        obtain ⟨m, hm⟩ : ∃ m, r.length = m + 1 := ⟨r.length - 1, by have := List.length_pos_iff.2 e; omega⟩
        simp [hm]
    rw [if_neg (by simp)] at hf
    have hge : c ≤ (c :: r).getD ((c :: r).length - 1) 0 := by
      rw [← hlast]
      by_cases e : r = []
      · rw [if_pos e]; omega
      · rw [if_neg e]; have := (hasc (r.length - 1) (by have := List.length_pos_iff.2 e; omega)).1; omega
    obtain ⟨d, hd'⟩ : ∃ d : Nat, c = first + d := ⟨(c - first).toNat, by omega⟩
    obtain ⟨g, hg⟩ : ∃ g : Nat, f = 1 + (d + g) := ⟨f - 1 - d, by omega⟩
    have hpre : ∀ k, k < (pre ++ [c]).length → (pre ++ [c]).getD k 0 < c + 1 := by
      intro k hk
      simp only [List.length_append, List.length_cons, List.length_nil] at hk
      by_cases e : k < pre.length
      · have := hp k e
        rw [List.getD_eq_getElem?_getD, List.getElem?_append_left e, ← List.getD_eq_getElem?_getD]; omega
      · have : k = pre.length := by omega
        subst this; simp; omega
    have step : ∀ size num den, 0 ≤ num → 1 ≤ den → (c - first) * den ≤ num * c → wrsR xs (d + g) (first + 1) size num den = ((wrs size (num, den) (c + 1) r).1, (wrs size (num, den) (c + 1) r).2.1, (wrs size (num, den) (c + 1) r).2.2) := by
      intro size num den hn hd hle
      have h2 : (c - (first + 1)) * den ≤ (c - first) * den := Int.mul_le_mul_of_nonneg_right (by omega) (by omega)
      rw [wrsR_skip xs c g size num den hd (by omega) d (first + 1) (fun m a b => hcl m (by omega) (by omega)) (by omega), show first + 1 + (d : Int) = c + 1 by omega]
      exact wrs_eq xs L r (pre ++ [c]) (c + 1) size num den g (by rw [hx]; simp) hpre (by omega) hn hd hasc (by rw [hlast]; omega)
    rw [hg, Nat.add_comm 1, wrsR, hcl first (by omega) (by omega)]
    unfold wrs
    by_cases hl : num * c < (c - first) * den
    · rw [if_pos hl, if_pos (by simpa [less] using hl)]
      exact step first (c - first) c (by omega) (by omega) (Int.le_refl _)
    · rw [if_neg (by omega), if_neg (by simpa [less] using hl)]
      exact step size num den hn hd (by omega)
theorem wrs_pos : ∀ (r : List Int) (size num den first : Int), 0 ≤ num → 1 ≤ den → (∀ k, k < r.length → (if k = 0 then first - 1 else r.getD (k - 1) 0) < r.getD k 0 ∧ 1 ≤ r.getD k 0) → 0 ≤ (wrs size (num, den) first r).2.1 ∧ 1 ≤ (wrs size (num, den) first r).2.2
  | [], _, _, _, _, h1, h2, _ => ⟨h1, h2⟩
  | c :: r, size, num, den, first, h1, h2, hr => by
    have h0 := hr 0 (by simp)
    simp at h0
    have hr' : ∀ k, k < r.length → (if k = 0 then c + 1 - 1 else r.getD (k - 1) 0) < r.getD k 0 ∧ 1 ≤ r.getD k 0 := by
      intro k hk
      have := hr (k + 1) (by simpa using hk)
      cases k with
      | zero => simp at this ⊢; omega
      | succ k => simpa using this
    unfold wrs
    split
    · exact wrs_pos r first (c - first) c (c + 1) (by omega) (by omega) hr'
    · exact wrs_pos r size num den (c + 1) h1 h2 hr'
/-- THE LAW -/
theorem worst_law (xs : List Int) : wrsT xs = refW xs := by
  unfold wrsT refW
  by_cases h : chkT xs = 0
  · rw [if_pos h, if_pos h]
    have ok := chkT_ok h
    obtain ⟨c, r, rfl⟩ : ∃ c r, xs = c :: r := by
      cases xs with
      | nil => have := ok.pos; simp at this
      | cons c r => exact ⟨c, r, rfl⟩
    have h0 := ok.at_ 0 (by simp)
    simp [prev] at h0
    have hr : ∀ k, k < (c :: r).length → (1 : Int) ≤ (c :: r).getD k 0 ∧ (if k = 0 then (1 : Int) - 1 else (c :: r).getD (k - 1) 0) < (c :: r).getD k 0 := fun k hk => by
      have := ok.at_ k hk
      simp only [prev] at this
      refine ⟨this.1, ?_⟩
      split
      · omega
      · rename_i e; rw [if_neg e] at this; exact this.2.2
    have hl := ok.at_ ((c :: r).length - 1) (by simp)
    have hfuel : (1 : Int) + ((c :: r).getD ((c :: r).length - 1) 0).toNat = (if (c :: r) = [] then (1 : Int) - 1 else (c :: r).getD ((c :: r).length - 1) 0) + 1 := by
      rw [if_neg (by simp)]; omega
    have e := wrs_eq (c :: r) 0 (c :: r) [] 1 1 0 1 _ rfl (by simp) (by omega) (by omega) (by omega) hr hfuel
    -- the first class always takes the place of -1/1 and of 0/1 alike
    have e2 : wrs 0 (-1, 1) 1 (c :: r) = wrs 1 (0, 1) 1 (c :: r) := by
      have a1 : less (-1, 1) (c - 1, c) = true := by simp [less]; omega
      simp only [wrs, a1, if_true]
      by_cases hc1 : c = 1
      · subst hc1; simp [less]
      · rw [if_pos (by simp [less]; omega)]
    rw [e2, e]
    have hp := wrs_pos (c :: r) 1 0 1 1 (by omega) (by omega) (fun k hk => ⟨(hr k hk).2, (hr k hk).1⟩)
    generalize wrs 1 (0, 1) 1 (c :: r) = R at *
    obtain ⟨s, nu, de⟩ := R
    simp only at hp ⊢
    obtain ⟨a, rfl⟩ := Int.eq_ofNat_of_zero_le hp.1
    obtain ⟨b, rfl⟩ := Int.eq_ofNat_of_zero_le (show 0 ≤ de by omega)
    have hb : 1 ≤ b := by omega
    have := redR_gcd b a b hb (Nat.le_of_dvd (by omega) (Nat.gcd_dvd_right a b))
    simp only [Int.toNat_natCast]
    rw [this]
  · rw [if_neg h, if_neg h]
end Go.Pol
