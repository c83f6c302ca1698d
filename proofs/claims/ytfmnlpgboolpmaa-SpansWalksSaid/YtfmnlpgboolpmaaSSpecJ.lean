/- Plain laws: what the reference's Pieces makes of the pages of a set. -/
import Derived.Test.YtfmnlpgboolpmaaSSpecI
namespace Go.Pol
open Go
theorem bump_cons (x y : Sp) (r : List Sp) : bump (x :: y :: r) = x :: bump (y :: r) := by
  rcases List.eq_nil_or_concat (y :: r) with h | ⟨i, l, h⟩
  · cases h
  · rw [h, List.concat_eq_append, bump_snoc, ← List.cons_append, bump_snoc, List.cons_append]
theorem not_mult {size a p : Int} (hs : 1 ≤ size) (h1 : a < p) (h2 : p < nextM size a) : p % size ≠ 0 := fun h => by
  obtain ⟨k, hk⟩ := Int.dvd_of_emod_eq_zero h
  have e1 := Int.emod_add_mul_ediv a size
  have e2 := Int.emod_nonneg a (show size ≠ 0 by omega)
  have hn : nextM size a = size * (a / size) + size := by unfold nextM; rw [Int.add_mul, Int.one_mul, Int.mul_comm]
  have h3 : size * (a / size) < size * k := by omega
  have h4 : size * k < size * (a / size + 1) := by rw [Int.mul_add, Int.mul_one]; omega
  have h5 := Int.lt_of_mul_lt_mul_left h3 (by omega)
  have h6 := Int.lt_of_mul_lt_mul_left h4 (by omega)
  omega
theorem cut_ne {size en a : Int} {k : Nat} (h : a < en) : ∃ y r, cutN size en (k + 1) a = y :: r := ⟨_, _, cutN_step h⟩
/-- one page more -/
theorem cut_snoc {size p : Int} (hs : 1 ≤ size) : ∀ (k : Nat) (a : Int), p + 1 - a ≤ k → a ≤ p → cutN size (p + 1) k a = if p = a ∨ p % size = 0 then cutN size p k a ++ [(p, 1)] else bump (cutN size p k a)
  | 0, a, h, h1 => by omega
  | k + 1, a, h, h1 => by
    have hn := nextM_gt (size := size) (a := a) hs
    rw [cutN_step (by omega)]
    by_cases hpa : p = a
    · subst hpa
      rw [if_pos (.inl rfl), cutN_end (by omega), show min (nextM size p) (p + 1) = p + 1 by omega, cutN_end (by omega)]
      simp
      omega
    · have hlt : a < p := by omega
      by_cases hm : nextM size a ≤ p
      · have ih := cut_snoc (p := p) hs k (nextM size a) (by omega) hm
        rw [cutN_step hlt, show min (nextM size a) (p + 1) = nextM size a by omega, show min (nextM size a) p = nextM size a by omega, ih]
        by_cases hp : p % size = 0
        · rw [if_pos (.inr hp), if_pos (.inr hp)]; rfl
        · have hne : p ≠ nextM size a := fun h => hp (by rw [h]; exact nextM_mult)
          rw [if_neg (by rintro (h | h); exact hne h; exact hp h), if_neg (by rintro (h | h); exact hpa h; exact hp h)]
          obtain ⟨k', rfl⟩ : ∃ k', k = k' + 1 := ⟨k - 1, by omega⟩
          obtain ⟨y, r, hy⟩ := cut_ne (size := size) (en := p) (a := nextM size a) (k := k') (by omega)
          rw [hy, bump_cons]
      · have hp : p % size ≠ 0 := not_mult hs hlt (by omega)
        rw [if_neg (by rintro (h | h); exact hpa h; exact hp h), cutN_step hlt, show min (nextM size a) (p + 1) = p + 1 by omega, show min (nextM size a) p = p by omega, cutN_end (by omega), cutN_end (by omega)]
        have := bump_snoc [] (a, p - a)
        rw [List.nil_append, List.nil_append] at this
        rw [this]
        congr 2
        omega
/-- what the reference makes of pages -/
def goP (size : Int) : Int → List Int → List Sp → List Sp
  | _, [], out => out
  | prev, p :: r, out => if p = prev + 1 ∧ p % size ≠ 0 then goP size p r (bump out) else goP size p r (out ++ [(p, 1)])
theorem bump_app (o : List Sp) (y : Sp) (r : List Sp) : bump (o ++ y :: r) = o ++ bump (y :: r) := by
  rcases List.eq_nil_or_concat (y :: r) with h | ⟨i, l, h⟩
  · cases h
  · rw [h, List.concat_eq_append, ← List.append_assoc, bump_snoc, bump_snoc, List.append_assoc]
theorem go_span {size a : Int} (hs : 1 ≤ size) (r : List Int) (out : List Sp) : ∀ (m j : Nat), 1 ≤ j → j + m ≤ 1024 →
    goP size (a + j - 1) (pagesX (a + j, 0) m ++ r) (out ++ cutN size (a + j) 1024 a) = goP size (a + (j + m : Nat) - 1) r (out ++ cutN size (a + (j + m : Nat)) 1024 a)
  | 0, j, _, _ => by simp [pagesX]
  | m + 1, j, hj, hle => by
    rw [pagesX_cons, List.cons_append, goP]
    have ih := go_span (a := a) hs r out m (j + 1) (by omega) (by omega)
    have hc := cut_snoc (size := size) (p := a + j) hs 1024 a (by omega) (by omega)
    rw [show a + (j : Int) + 1 = a + ((j + 1 : Nat) : Int) by omega] at hc
    have e2 : a + (j : Int) = a + ((j + 1 : Nat) : Int) - 1 := by omega
    have e3 : a + (j : Int) + 1 = a + ((j + 1 : Nat) : Int) := by omega
    have e4 : j + (m + 1) = j + 1 + m := by omega
    by_cases hp : (a + (j : Int)) % size = 0
    · rw [if_neg (fun h => h.2 hp)]
      rw [if_pos (.inr hp)] at hc
      rw [List.append_assoc, ← hc, e4, ← ih, ← e2, e3]
    · rw [if_pos ⟨by omega, hp⟩]
      rw [if_neg (by rintro (h | h); omega; exact hp h)] at hc
      obtain ⟨y, z, hy⟩ := cut_ne (size := size) (en := a + j) (a := a) (k := 1023) (by omega)
      have hb : bump (out ++ cutN size (a + j) 1024 a) = out ++ cutN size (a + ((j + 1 : Nat) : Int)) 1024 a := by rw [hc, hy, bump_app]
      rw [hb, e4, ← ih, ← e2, e3]
theorem go_all {size : Int} (hs : 1 ≤ size) : ∀ (us : List Sp) (prev : Int) (out : List Sp), formOk (prev + 1) us = true → (∀ x ∈ us, vld x = true) → goP size prev (pagesOf us) out = out ++ us.flatMap (cutF size)
  | [], _, _, _, _ => by simp [pagesOf, goP]
  | x :: r, prev, out, hf, hv => by
    have hf' := formOk_cons.1 hf
    have hx := vld_iff.1 (hv x (by simp))
    obtain ⟨m, hm⟩ : ∃ m : Nat, x.2.toNat = m + 1 := ⟨x.2.toNat - 1, by omega⟩
    have e0 : pagesX x (m + 1) = x.1 :: pagesX (x.1 + 1, 0) m := pagesX_cons x.1 x.2 m
    rw [pagesOf_cons, hm, e0, List.cons_append, goP, if_neg (fun h => by omega)]
    have h1 := cut_snoc (size := size) (p := x.1) hs 1024 x.1 (by omega) (by omega)
    rw [if_pos (.inl rfl), cutN_end (size := size) (en := x.1) (a := x.1) (k := 1024) (by omega), List.nil_append] at h1
    have hg := go_span (a := x.1) hs (pagesOf r) out m 1 (by omega) (by omega)
    rw [show x.1 + ((1 : Nat) : Int) - 1 = x.1 by omega, show x.1 + ((1 : Nat) : Int) = x.1 + 1 by omega, h1] at hg
    have e1 : x.1 + ((1 + m : Nat) : Int) = x.1 + x.2 := by omega
    rw [hg, e1, go_all hs r (x.1 + x.2 - 1) _ (by rw [show x.1 + x.2 - 1 + 1 = x.1 + x.2 by omega]; exact hf'.2) (fun y hy => hv y (by simp [hy])), List.flatMap_cons, List.append_assoc]
    rfl
theorem pagesX_in {x : Sp} {m : Nat} {p : Int} (h : p ∈ pagesX x m) : x.1 ≤ p ∧ p < x.1 + m := by
  simp only [pagesX, List.mem_map, List.mem_range] at h
  obtain ⟨k, h1, rfl⟩ := h
  omega
theorem pages_in : ∀ {us : List Sp}, (∀ x ∈ us, vld x = true) → ∀ p ∈ pagesOf us, 0 ≤ p ∧ p < 1024
  | [], _, p, hp => by simp [pagesOf] at hp
  | x :: r, hv, p, hp => by
    rw [pagesOf_cons] at hp
    rcases List.mem_append.1 hp with h | h
    · have h1 := pagesX_in h
      have hx := vld_iff.1 (hv x (by simp))
      omega
    · exact pages_in (fun y hy => hv y (by simp [hy])) p h
theorem pages_most {us : List Sp} (h : Can us) : (pagesOf us).length ≤ 1024 := by
  have h1 := pagesOf_len us (fun x hx => by have := vld_iff.1 (h.1 x hx); omega)
  have h2 := sum_form us (-1) (by omega) h.1 h.2
  omega
theorem ref_pieces {us : List Sp} {size : Int} (h : Can us) (hs : 1 ≤ size ∧ size ≤ 1024) : goP size (-2) (pagesOf us) [] = piecesF us size := by
  rw [go_all hs.1 us (-2) [] (by show formOk (-1) us = true; exact h.2) h.1, List.nil_append]
  unfold piecesF
  rw [if_pos ⟨chkS_zero.2 h, hs.1, hs.2⟩]
end Go.Pol
