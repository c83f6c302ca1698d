/- The plain law of Steps: what it makes is a table, and classes that follow each other are near. No program in sight. -/
import Derived.Test.YtiohcegkkpeodaaSpecS
namespace Go.Pol
def near (mx per : Int) (l : List Int) : Prop := ∀ k, k + 1 < l.length → l.getD k 0 < l.getD (k+1) 0 ∧ (l.getD (k+1) 0 - l.getD k 0) * per < l.getD k 0 + 8 * per ∧ l.getD k 0 < mx
theorem getD_left {p : List Int} {x : Int} {k : Nat} (h : k < p.length) : (p ++ [x]).getD k 0 = p.getD k 0 := by
  rw [List.getD_eq_getElem?_getD, List.getElem?_append_left h, ← List.getD_eq_getElem?_getD]
theorem getD_last (p : List Int) (x : Int) : (p ++ [x]).getD p.length 0 = x := by simp
theorem near_snoc {mx per : Int} {p : List Int} {c d : Int} (h : near mx per (p ++ [c])) (h1 : c < d) (h2 : (d - c) * per < c + 8 * per) (h3 : c < mx) : near mx per (p ++ [c] ++ [d]) := by
  intro k hk
  simp only [List.length_append, List.length_cons, List.length_nil] at hk
  by_cases e : k + 1 < (p ++ [c]).length
  · rw [getD_left (by simp at e ⊢; omega), getD_left e]; exact h k e
  · have hk2 : k = p.length := by simp at e; omega
    subst hk2
    have e1 : (p ++ [c] ++ [d]).getD (p.length + 1) 0 = d := by simp
    rw [getD_left (by simp), getD_last, e1]
    exact ⟨h1, h2, h3⟩
theorem near_cut {mx per : Int} {p : List Int} {c d : Int} (hp : 0 ≤ per) (h : near mx per (p ++ [c])) (h1 : d ≤ c) (h2 : mx ≤ d) : near mx per (p ++ [d]) := by
  intro k hk
  simp only [List.length_append, List.length_cons, List.length_nil] at hk
  have h0 := h k (by simp; omega)
  by_cases e : k + 1 < p.length
  · rw [getD_left (by omega), getD_left e] at h0 ⊢; exact h0
  · have hk2 : k + 1 = p.length := by omega
    rw [hk2, getD_last, getD_left (by omega)] at h0 ⊢
    have := Int.mul_le_mul_of_nonneg_right (show d - p.getD k 0 ≤ c - p.getD k 0 by omega) hp
    exact ⟨by omega, by omega, h0.2.2⟩
/-- what one doubling does -/
theorem innF_law (mx per base : Int) (hb : 8 ≤ base) (hb8 : base % 8 = 0) (hp : 1 ≤ per) : ∀ (f : Nat) (i : Int) (p : List Int) (last : Int), 1 ≤ i → per + 1 - i ≤ f → near mx per (p ++ [last]) → last % 8 = 0 → base ≤ last → base * (per + (i - 1)) ≤ last * per →
    near mx per ((innF mx per base f i p last).1 ++ [(innF mx per base f i p last).2]) ∧ (innF mx per base f i p last).2 % 8 = 0 ∧ last ≤ (innF mx per base f i p last).2 ∧
    (base * 2 ≤ (innF mx per base f i p last).2 ∨ mx ≤ (innF mx per base f i p last).2) ∧
    (((innF mx per base f i p last).1.length : Int) - p.length) * 8 ≤ (innF mx per base f i p last).2 - last ∧ (innF mx per base f i p last).1.length ≤ p.length + f ∧ ((innF mx per base f i p last).1.length : Int) ≤ p.length + (if per + 1 - i < 0 then 0 else per + 1 - i) ∧ ((innF mx per base f i p last).2 ≤ last ∨ (innF mx per base f i p last).2 ≤ 2 * base) ∧ p.length ≤ (innF mx per base f i p last).1.length ∧ (p ++ [last]).getD 0 0 = ((innF mx per base f i p last).1 ++ [(innF mx per base f i p last).2]).getD 0 0
  | 0, i, p, last, hi, hf, hn, h8, hbl, hc => by
    have hfull : base * 2 ≤ last := by
      have e : base * (2 * per) ≤ base * (per + (i - 1)) := Int.mul_le_mul_of_nonneg_left (by omega) (by omega)
      have e2 : base * (2 * per) = base * 2 * per := by rw [Int.mul_assoc]
      exact Int.le_of_mul_le_mul_right (show base * 2 * per ≤ last * per by omega) (by omega)
    simp only [innF]
    refine ⟨hn, h8, Int.le_refl _, .inl hfull, by simp, by omega, ?_, .inl (Int.le_refl _), Nat.le_refl _, trivial⟩
    split <;> omega
  | f + 1, i, p, last, hi, hf, hn, h8, hbl, hc => by
    by_cases hcond : i ≤ per ∧ last < mx
    · have hlo := upF_lo (base * (per + i)) per (by omega)
      have hhi := upF_hi (base * (per + i)) per (by omega)
      have hlt := upF_lt base per i (by omega) hp hcond.1
      have hmd := upF_mod (base * (per + i)) per
      have e1 : base * (per + i) = base * (per + (i - 1)) + base := by
        rw [show per + i = per + (i - 1) + 1 by omega, Int.mul_add]; omega
      by_cases hm : last < upF (base * (per + i)) per
      · rw [innF_more mx per base f i p last hcond.1 hcond.2 hm]
        obtain ⟨u, hu⟩ : ∃ u, upF (base * (per + i)) per = u := ⟨_, rfl⟩
        rw [hu] at hlo hhi hlt hmd hm ⊢
        have hd : (u - last) * per < last + 8 * per := by rw [Int.sub_mul]; omega
        obtain ⟨a1, a2, a3, a4, a5, a6, a7, a8, a9, a10⟩ := innF_law mx per base hb hb8 hp f (i + 1) (p ++ [last]) u (by omega) (by omega) (near_snoc hn hm hd hcond.2) hmd (by omega) (by rw [show i + 1 - 1 = i by omega]; exact hlo)
        simp only [List.length_append, List.length_cons, List.length_nil] at a5 a6 a7 a9
        refine ⟨a1, a2, by omega, a4, by omega, by omega, ?_, ?_, by omega, ?_⟩
        · rw [if_neg (by omega)]
          split at a7 <;> omega
        · right; omega
        · rw [← a10]
          exact (getD_left (by simp)).symm
      · rw [innF_pass mx per base f i p last hcond.1 hcond.2 hm]
        have hc2 : base * (per + (i + 1 - 1)) ≤ last * per := by
          rw [show i + 1 - 1 = i by omega]
          have := Int.mul_le_mul_of_nonneg_right (show upF (base * (per + i)) per ≤ last by omega) (show 0 ≤ per by omega)
          omega
        obtain ⟨a1, a2, a3, a4, a5, a6, a7, a8, a9, a10⟩ := innF_law mx per base hb hb8 hp f (i + 1) p last (by omega) (by omega) hn h8 hbl hc2
        refine ⟨a1, a2, a3, a4, a5, by omega, ?_, a8, a9, a10⟩
        rw [if_neg (by omega)]
        split at a7 <;> omega
    · rw [innF_end mx per base (f + 1) i p last hcond]
      refine ⟨hn, h8, Int.le_refl _, ?_, by simp, by simp only; omega, ?_, .inl (Int.le_refl _), Nat.le_refl _, rfl⟩
      · by_cases hm : mx ≤ last
        · exact .inr hm
        · left
          have hi2 : per + 1 ≤ i := by omega
          have e : base * (2 * per) ≤ base * (per + (i - 1)) := Int.mul_le_mul_of_nonneg_left (by omega) (by omega)
          have e2 : base * (2 * per) = base * 2 * per := by rw [Int.mul_assoc]
          exact Int.le_of_mul_le_mul_right (show base * 2 * per ≤ last * per by omega) (by omega)
      · simp only
        split <;> omega
/-- how many classes may follow from a base on -/
def roomS (base : Int) : Int :=
  if 4096 ≤ base then 0 else if 2048 ≤ base then 8 else if 1024 ≤ base then 16 else if 512 ≤ base then 24 else if 256 ≤ base then 32 else if 128 ≤ base then 40 else if 64 ≤ base then 48 else if 32 ≤ base then 56 else 59 - (if base = 16 then 1 else 0)
theorem roomS_step (base n : Int) (hb : 8 ≤ base) (hb8 : base % 8 = 0) (hb2 : base < 4096) (h1 : n ≤ 8) (h2 : n * 8 ≤ base) : n + roomS (base * 2) ≤ roomS base := by
  by_cases e : base = 8
  · subst e; simp [roomS]; omega
  by_cases e : base = 16
  · subst e; simp [roomS]; omega
  by_cases e : base = 24
  · subst e; simp [roomS]; omega
  have hh : ∀ b : Int, 32 ≤ b → roomS b = if 4096 ≤ b then 0 else if 2048 ≤ b then 8 else if 1024 ≤ b then 16 else if 512 ≤ b then 24 else if 256 ≤ b then 32 else if 128 ≤ b then 40 else if 64 ≤ b then 48 else 56 := fun b hb => by
    unfold roomS; rw [if_pos hb]
  rw [hh base (by omega), hh (base * 2) (by omega)]
  by_cases c1 : 2048 ≤ base
  · rw [if_pos (show 4096 ≤ base * 2 by omega), if_neg (by omega), if_pos c1]; omega
  rw [if_neg (show ¬ 4096 ≤ base * 2 by omega), if_neg (show ¬ 4096 ≤ base by omega), if_neg c1]
  by_cases c2 : 1024 ≤ base
  · rw [if_pos (show 2048 ≤ base * 2 by omega), if_pos c2]; omega
  rw [if_neg (show ¬ 2048 ≤ base * 2 by omega), if_neg c2]
  by_cases c3 : 512 ≤ base
  · rw [if_pos (show 1024 ≤ base * 2 by omega), if_pos c3]; omega
  rw [if_neg (show ¬ 1024 ≤ base * 2 by omega), if_neg c3]
  by_cases c4 : 256 ≤ base
  · rw [if_pos (show 512 ≤ base * 2 by omega), if_pos c4]; omega
  rw [if_neg (show ¬ 512 ≤ base * 2 by omega), if_neg c4]
  by_cases c5 : 128 ≤ base
  · rw [if_pos (show 256 ≤ base * 2 by omega), if_pos c5]; omega
  rw [if_neg (show ¬ 256 ≤ base * 2 by omega), if_neg c5]
  by_cases c6 : 64 ≤ base
  · rw [if_pos (show 128 ≤ base * 2 by omega), if_pos c6]; omega
  rw [if_neg (show ¬ 128 ≤ base * 2 by omega), if_neg c6, if_pos (show 64 ≤ base * 2 by omega)]; omega
theorem roomS_le (base : Int) : 0 ≤ roomS base ∧ roomS base ≤ 59 := by
  unfold roomS
  constructor <;> (repeat' split) <;> omega
theorem outF_law (mx per : Int) (hp : 1 ≤ per) (hp8 : per ≤ 8) (hmx : mx ≤ 4096) : ∀ (f : Nat) (base : Int) (p : List Int) (last : Int), 8 ≤ base → base % 8 = 0 → last % 8 = 0 → (base ≤ last ∨ mx ≤ last) → near mx per (p ++ [last]) →
    near mx per ((outF mx per f base p last).1 ++ [(outF mx per f base p last).2]) ∧ ((outF mx per f base p last).1.length : Int) ≤ p.length + roomS base ∧ last ≤ (outF mx per f base p last).2 ∧ (mx - base ≤ f → mx ≤ (outF mx per f base p last).2) ∧ (p ++ [last]).getD 0 0 = ((outF mx per f base p last).1 ++ [(outF mx per f base p last).2]).getD 0 0
  | 0, base, p, last, hb, hb8, h8, hbl, hn => by
    simp only [outF]
    have := roomS_le base
    refine ⟨hn, by omega, Int.le_refl _, ?_, trivial⟩
    intro h
    omega
  | f + 1, base, p, last, hb, hb8, h8, hbl, hn => by
    by_cases hlt : last < mx
    · have hbl2 : base ≤ last := by omega
      rw [outF, if_pos hlt]
      have hc : base * (per + ((1 : Int) - 1)) ≤ last * per := by
        rw [show per + ((1 : Int) - 1) = per by omega]
        exact Int.mul_le_mul_of_nonneg_right hbl2 (by omega)
      obtain ⟨a1, a2, a3, a4, a5, a6, a7, a8, a9, a10⟩ := innF_law mx per base hb hb8 hp 9 1 p last (by omega) (by omega) hn h8 hbl2 hc
      generalize innF mx per base 9 1 p last = r at *
      obtain ⟨q, l2⟩ := r
      simp only at a1 a2 a3 a4 a5 a6 a7 a8 a9 a10 ⊢
      obtain ⟨b1, b2, b3, b4, b5⟩ := outF_law mx per hp hp8 hmx f (base * 2) q l2 (by omega) (by omega) a2 a4 a1
      have hr := roomS_step base ((q.length : Int) - p.length) hb hb8 (by omega) (by split at a7 <;> omega) (by omega)
      exact ⟨b1, by omega, by omega, fun h => b4 (by omega), a10.trans b5⟩
    · rw [outF_end mx per (f + 1) base p last hlt]
      have := roomS_le base
      exact ⟨hn, by simp only; omega, Int.le_refl _, fun _ => by simp only; omega, rfl⟩
theorem chkL_of : ∀ (l : List Int) (last : Int), (∀ k, k < l.length → 1 ≤ l.getD k 0 ∧ l.getD k 0 ≤ 4096 ∧ (if k = 0 then last else l.getD (k-1) 0) < l.getD k 0) → chkL last l = 0
  | [], _, _ => rfl
  | n :: r, last, h => by
    have h0 := h 0 (by simp)
    simp at h0
    unfold chkL
    rw [if_neg (by simp [isSz_iff.2 ⟨h0.1, h0.2.1⟩]), if_neg (by omega)]
    refine chkL_of r n (fun k hk => ?_)
    have := h (k + 1) (by simpa using hk)
    cases k with
    | zero => simpa using this
    | succ k => simpa using this
/-- THE LAW -/
theorem steps_law (mn mx per : Int) (h : okS mn mx per = true) : near 4096 per (stepsL mn mx per) ∧ chkT (stepsL mn mx per) = 0 := by
  obtain ⟨⟨a1, a2⟩, a3, ⟨a4, a5⟩, a6, a7, a8⟩ := okS_iff.1 h
  have h0 : near mx per (([] : List Int) ++ [mn]) := fun k hk => by simp at hk
  obtain ⟨b1, b2, b3, b4, b5⟩ := outF_law mx per a7 a8 a5 4096 mn [] mn (by omega) a3 a3 (.inl (Int.le_refl _)) h0
  have b6 := b4 (by omega)
  have hrm := roomS_le mn
  unfold stepsL
  generalize outF mx per 4096 mn [] mn = r at *
  obtain ⟨p, last⟩ := r
  simp only at b1 b2 b3 b5 b6 ⊢
  obtain ⟨d, hd⟩ : ∃ d, (if 4096 < last then 4096 else last) = d := ⟨_, rfl⟩
  rw [hd]
  have hd1 : d ≤ 4096 ∧ d ≤ last ∧ mx ≤ d := by rw [← hd]; split <;> omega
  have hn := near_cut (by omega) b1 hd1.2.1 hd1.2.2
  have hfirst : 8 ≤ (p ++ [d]).getD 0 0 := by
    cases p with
    | nil => simp at b5 ⊢; omega
    | cons x p => simp at b5 ⊢; omega
  have hall : ∀ k, k < (p ++ [d]).length → 8 ≤ (p ++ [d]).getD k 0 ∧ (p ++ [d]).getD k 0 ≤ 4096 := by
    intro k hk
    refine ⟨?_, ?_⟩
    · induction k with
      | zero => exact hfirst
      | succ k ih => have := ih (by omega); have := (hn k hk).1; omega
    · by_cases e : k + 1 < (p ++ [d]).length
      · have := (hn k e).2.2; omega
      · have : k = p.length := by simp at hk e; omega
        subst this
        rw [getD_last]; omega
  have hlen : (p ++ [d]).length ≤ 60 ∧ 1 ≤ (p ++ [d]).length := by simp at b2 ⊢; omega
  refine ⟨fun k hk => ?_, ?_⟩
  · have := hn k hk
    exact ⟨this.1, this.2.1, by omega⟩
  · unfold chkT
    rw [if_neg (by omega), if_neg (by omega)]
    refine chkL_of _ _ (fun k hk => ?_)
    have := hall k hk
    refine ⟨by omega, this.2, ?_⟩
    by_cases e : k = 0
    · subst e; rw [if_pos rfl]; omega
    · rw [if_neg e]
      have := (hn (k - 1) (by omega)).1
      rwa [show k - 1 + 1 = k by omega] at this
end Go.Pol
