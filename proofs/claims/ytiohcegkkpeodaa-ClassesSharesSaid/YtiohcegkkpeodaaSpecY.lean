/- The plain law of the shares of waste: the worst size is attained, no size has a greater share, no smaller one the same. No program in sight. -/
import Derived.Test.YtiohcegkkpeodaaSpecW
namespace Go.Pol
/-- what is known of the worst size when all sizes below f have been looked at -/
structure WInv (xs : List Int) (f size a b : Int) : Prop where
  lo : 1 ≤ size
  hi : size < f
  cl : xs.getD (cls xs size) 0 = b
  num : a = b - size
  den : 1 ≤ b
  le : size ≤ b
  edge : size = 1 ∨ ∃ i, i < xs.length ∧ size = xs.getD i 0 + 1
  all : ∀ m, 1 ≤ m → m < f → (xs.getD (cls xs m) 0 - m) * b ≤ a * xs.getD (cls xs m) 0 ∧ ((xs.getD (cls xs m) 0 - m) * b = a * xs.getD (cls xs m) 0 → size ≤ m) ∧ 1 ≤ xs.getD (cls xs m) 0
theorem frac_lt {p q a b x y : Int} (hq : 1 ≤ q) (hb : 1 ≤ b) (hy : 1 ≤ y) (h1 : p * b ≤ a * q) (h2 : a * y < x * b) : p * y < x * q := by
  have e1 : p * b * y ≤ a * q * y := Int.mul_le_mul_of_nonneg_right h1 (by omega)
  have e2 : a * y * q < x * b * q := Int.mul_lt_mul_of_pos_right h2 (by omega)
  have e3 : p * b * y = p * y * b := by rw [Int.mul_assoc, Int.mul_comm b y, ← Int.mul_assoc]
  have e4 : a * q * y = a * y * q := by rw [Int.mul_assoc, Int.mul_comm q y, ← Int.mul_assoc]
  have e5 : x * b * q = x * q * b := by rw [Int.mul_assoc, Int.mul_comm b q, ← Int.mul_assoc]
  exact Int.lt_of_mul_lt_mul_right (show p * y * b < x * q * b by omega) (by omega)
theorem wrs_inv (xs : List Int) : ∀ (r pre : List Int) (first size a b : Int), xs = pre ++ r → (∀ k, k < pre.length → pre.getD k 0 < first) → 1 ≤ first → (first = 1 ∨ ∃ i, i < xs.length ∧ first = xs.getD i 0 + 1) →
    (∀ k, k < r.length → first ≤ r.getD k 0 ∧ (if k = 0 then first - 1 else r.getD (k - 1) 0) < r.getD k 0) → WInv xs first size a b →
    WInv xs ((if r = [] then first - 1 else r.getD (r.length - 1) 0) + 1) (wrs size (a, b) first r).1 (wrs size (a, b) first r).2.1 (wrs size (a, b) first r).2.2
  | [], pre, first, size, a, b, hx, hp, h1, hed, hr, inv => by simpa [wrs] using inv
  | c :: r, pre, first, size, a, b, hx, hp, h1, hed, hr, inv => by
    have hc := hr 0 (by simp)
    simp only [List.getD_cons_zero, if_true] at hc
    have hcl : ∀ m, first ≤ m → m ≤ c → xs.getD (cls xs m) 0 = c := fun m hm hm2 => by rw [hx]; exact cls_pre pre c r m (fun k hk => by have := hp k hk; omega) hm2
    have hasc : ∀ k, k < r.length → c + 1 ≤ r.getD k 0 ∧ (if k = 0 then c + 1 - 1 else r.getD (k - 1) 0) < r.getD k 0 := by
      intro k
      induction k with
      | zero => intro hk; have := hr 1 (by simpa using hk); simp at this ⊢; omega
      | succ k ih =>
        intro hk
        have := hr (k + 2) (by simp; omega)
        have h2 := ih (by omega)
        simp at this ⊢
        simp at h2
        omega
    have hlast : (if r = [] then c + 1 - 1 else r.getD (r.length - 1) 0) = (if (c :: r) = [] then first - 1 else (c :: r).getD ((c :: r).length - 1) 0) := by
      rw [if_neg (show ¬ (c :: r) = [] by simp)]
      by_cases e : r = []
      · subst e; simp
      · rw [if_neg e]
        obtain ⟨m, hm⟩ : ∃ m, r.length = m + 1 := ⟨r.length - 1, by have := List.length_pos_iff.2 e; omega⟩
        simp [hm]
    have hpre : ∀ k, k < (pre ++ [c]).length → (pre ++ [c]).getD k 0 < c + 1 := by
      intro k hk
      simp only [List.length_append, List.length_cons, List.length_nil] at hk
      by_cases e : k < pre.length
      · have := hp k e
        rw [List.getD_eq_getElem?_getD, List.getElem?_append_left e, ← List.getD_eq_getElem?_getD]; omega
      · have : k = pre.length := by omega
        subst this; simp; omega
    have hed2 : c + 1 = 1 ∨ ∃ i, i < xs.length ∧ c + 1 = xs.getD i 0 + 1 := .inr ⟨pre.length, by rw [hx]; simp, by rw [hx]; simp⟩
    have hx2 : xs = (pre ++ [c]) ++ r := by rw [hx]; simp
    rw [← hlast]
    unfold wrs
    by_cases hl : less (a, b) (c - first, c) = true
    · rw [if_pos hl]
      simp only [less, decide_eq_true_eq] at hl
      refine wrs_inv xs r (pre ++ [c]) (c + 1) first (c - first) c hx2 hpre (by omega) hed2 hasc ⟨h1, by omega, hcl first (by omega) (by omega), rfl, by omega, by omega, hed, fun m hm hm2 => ?_⟩
      by_cases e : m < first
      · obtain ⟨i1, i2, i3⟩ := inv.all m hm e
        have := frac_lt i3 inv.den (show 1 ≤ c by omega) i1 hl
        exact ⟨by omega, fun h => by omega, i3⟩
      · rw [hcl m (by omega) (by omega)]
        have := Int.mul_le_mul_of_nonneg_right (show c - m ≤ c - first by omega) (show 0 ≤ c by omega)
        exact ⟨this, fun _ => by omega, by omega⟩
    · rw [if_neg hl]
      simp only [less, decide_eq_true_eq] at hl
      refine wrs_inv xs r (pre ++ [c]) (c + 1) size a b hx2 hpre (by omega) hed2 hasc ⟨inv.lo, by have := inv.hi; omega, inv.cl, inv.num, inv.den, inv.le, inv.edge, fun m hm hm2 => ?_⟩
      by_cases e : m < first
      · exact inv.all m hm e
      · rw [hcl m (by omega) (by omega)]
        have := Int.mul_le_mul_of_nonneg_right (show c - m ≤ c - first by omega) (show 0 ≤ b by have := inv.den; omega)
        exact ⟨by omega, fun _ => by have := inv.hi; omega, by omega⟩
/-- what the law of the shares asks of the worst size -/
structure Shares (xs : List Int) (size num den : Int) : Prop where
  dn : 1 ≤ den
  nm : 0 ≤ num
  lt : num < den
  bd : den ≤ 4096
  lo : 1 ≤ size
  hi : size ≤ xs.getD (xs.length - 1) 0
  edge : size = 1 ∨ ∃ i, i < xs.length ∧ size = xs.getD i 0 + 1
  own : (xs.getD (cls xs size) 0 - size) * den = num * xs.getD (cls xs size) 0
  all : ∀ m, 1 ≤ m → m ≤ xs.getD (xs.length - 1) 0 → (xs.getD (cls xs m) 0 - m) * den ≤ num * xs.getD (cls xs m) 0 ∧ ((xs.getD (cls xs m) 0 - m) * den = num * xs.getD (cls xs m) 0 → size ≤ m)
theorem shares_law {xs : List Int} (h : chkT xs = 0) : (wrsT xs).2.2.2 = 0 ∧ Shares xs (wrsT xs).1 (wrsT xs).2.1 (wrsT xs).2.2.1 := by
  have ok := chkT_ok h
  obtain ⟨c, r, rfl⟩ : ∃ c r, xs = c :: r := by
    cases xs with
    | nil => have := ok.pos; simp at this
    | cons c r => exact ⟨c, r, rfl⟩
  have h0 := ok.at_ 0 (by simp)
  simp [prev] at h0
  have hr : ∀ k, k < r.length → c + 1 ≤ r.getD k 0 ∧ (if k = 0 then c + 1 - 1 else r.getD (k - 1) 0) < r.getD k 0 := by
    intro k
    induction k with
    | zero => intro hk; have := ok.at_ 1 (by simpa using hk); simp [prev] at this ⊢; omega
    | succ k ih =>
      intro hk
      have := ok.at_ (k + 2) (by simp; omega)
      have h2 := ih (by omega)
      simp [prev] at this ⊢
      simp at h2
      omega
  have e2 : wrs 0 (-1, 1) 1 (c :: r) = wrs 1 (c - 1, c) (c + 1) r := by
    have a1 : less (-1, 1) (c - 1, c) = true := by simp [less]; omega
    simp only [wrs, a1, if_true]
  have hcl1 : ∀ m, 1 ≤ m → m ≤ c → (c :: r).getD (cls (c :: r) m) 0 = c := fun m _ hm2 => cls_pre [] c r m (by simp) hm2
  have inv := wrs_inv (c :: r) r [c] (c + 1) 1 (c - 1) c rfl (by simp; omega) (by omega) (.inr ⟨0, by simp, by simp⟩) hr ⟨by omega, by omega, hcl1 1 (by omega) (by omega), rfl, by omega, by omega, .inl rfl, fun m hm hm2 => by
    rw [hcl1 m hm (by omega)]
    have := Int.mul_le_mul_of_nonneg_right (show c - m ≤ c - 1 by omega) (show 0 ≤ c by omega)
    exact ⟨this, fun _ => by omega, by omega⟩⟩
  have hlast : (if r = [] then c + 1 - 1 else r.getD (r.length - 1) 0) = (c :: r).getD ((c :: r).length - 1) 0 := by
    by_cases e : r = []
    · subst e; simp
    · rw [if_neg e]
      obtain ⟨m, hm⟩ : ∃ m, r.length = m + 1 := ⟨r.length - 1, by have := List.length_pos_iff.2 e; omega⟩
      simp [hm]
  rw [hlast] at inv
  unfold wrsT
  rw [if_pos h, e2]
  generalize wrs 1 (c - 1, c) (c + 1) r = R at *
  obtain ⟨s, a, b⟩ := R
  simp only at inv ⊢
  have i1 := inv.lo
  have i2 := inv.hi
  have i3 := inv.num
  have i4 := inv.den
  have i5 := inv.le
  have hb4096 : b ≤ 4096 := by
    have h1 := inv.cl
    have h2 := cls_le (c :: r) s
    by_cases e : cls (c :: r) s < (c :: r).length
    · have := (ok.at_ _ e).2.1; omega
    · exfalso
      have : (c :: r).getD (cls (c :: r) s) 0 = 0 := by
        rw [List.getD_eq_getElem?_getD, List.getElem?_eq_none (by omega)]; rfl
      omega
  obtain ⟨x, rfl⟩ := Int.eq_ofNat_of_zero_le (show 0 ≤ a by omega)
  obtain ⟨y, rfl⟩ := Int.eq_ofNat_of_zero_le (show 0 ≤ b by omega)
  simp only [Int.toNat_natCast]
  have hg := Nat.gcd_pos_of_pos_right x (show 0 < y by omega)
  have d1 := Nat.gcd_dvd_left x y
  have d2 := Nat.gcd_dvd_right x y
  generalize Nat.gcd x y = g at *
  obtain ⟨p, rfl⟩ := d1
  obtain ⟨q, rfl⟩ := d2
  have ep : ((g * p : Nat) : Int) / (g : Int) = (p : Int) := by rw [Int.natCast_mul]; exact Int.mul_ediv_cancel_left _ (by omega)
  have eq_ : ((g * q : Nat) : Int) / (g : Int) = (q : Int) := by rw [Int.natCast_mul]; exact Int.mul_ediv_cancel_left _ (by omega)
  rw [ep, eq_]
  have hq1 : 1 ≤ q := by
    rcases Nat.eq_zero_or_pos q with e | e
    · subst e; simp at i4
    · exact e
  have hqb : q ≤ g * q := Nat.le_mul_of_pos_left q hg
  have hpq : p < q := by
    have : g * p < g * q := by omega
    exact Nat.lt_of_mul_lt_mul_left this
  have hall : ∀ m, 1 ≤ m → m < (c :: r).getD ((c :: r).length - 1) 0 + 1 → ((c :: r).getD (cls (c :: r) m) 0 - m) * (q : Int) ≤ (p : Int) * (c :: r).getD (cls (c :: r) m) 0 ∧ (((c :: r).getD (cls (c :: r) m) 0 - m) * (q : Int) = (p : Int) * (c :: r).getD (cls (c :: r) m) 0 → s ≤ m) := by
    intro m hm hm2
    obtain ⟨j1, j2, _⟩ := inv.all m hm hm2
    generalize (c :: r).getD (cls (c :: r) m) 0 = d at *
    have f1 : (d - m) * ((g * q : Nat) : Int) = (d - m) * (q : Int) * (g : Int) := by rw [Int.natCast_mul, Int.mul_comm (g : Int) (q : Int), ← Int.mul_assoc]
    have f2 : ((g * p : Nat) : Int) * d = (p : Int) * d * (g : Int) := by rw [Int.natCast_mul, Int.mul_comm (g : Int) (p : Int), Int.mul_assoc, Int.mul_comm (g : Int) d, ← Int.mul_assoc]
    rw [f1, f2] at j1 j2
    exact ⟨Int.le_of_mul_le_mul_right j1 (by omega), fun h => j2 (by rw [h])⟩
  refine ⟨trivial, ⟨by omega, by omega, by omega, by omega, i1, by omega, inv.edge, ?_, fun m hm hm2 => hall m hm (by omega)⟩⟩
  have h1 := hall s i1 i2
  have h2 := inv.all s i1 i2
  have h3 := inv.cl
  rw [h3]
  have e1 : ((g * q : Nat) : Int) - s = ((g * p : Nat) : Int) := by omega
  rw [e1, Int.natCast_mul, Int.natCast_mul, Int.mul_comm (g : Int) (p : Int), Int.mul_assoc]
end Go.Pol
