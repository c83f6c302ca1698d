/- Plain functions and laws on spans of pages: what a set is, that two sets with the same pages are equal, the common pages and the gaps of sets, the set of marked pages. -/
import Derived.Test.YtifdgabfnnkghaaLib
namespace Go.Pol
abbrev Sp := Int × Int

def vld (x : Sp) : Bool := decide (0 ≤ x.1) && decide (x.1 < 1024) && decide (1 ≤ x.2) && decide (x.2 ≤ 1024 - x.1)
theorem vld_iff {x : Sp} : vld x = true ↔ 0 ≤ x.1 ∧ x.1 < 1024 ∧ 1 ≤ x.2 ∧ x.2 ≤ 1024 - x.1 := by simp [vld, and_assoc]
def formOk : Int → List Sp → Bool
  | _, [] => true
  | e, x :: r => decide (e < x.1) && formOk (x.1 + x.2) r
def chkS (s : List Sp) : Int := if 512 < s.length then 3 else if s.all vld = false then 7 else if formOk (-1) s then 0 else 6
def mem (p : Int) (s : List Sp) : Bool := s.any fun x => decide (x.1 ≤ p) && decide (p < x.1 + x.2)
def Can (s : List Sp) : Prop := (∀ x ∈ s, vld x = true) ∧ formOk (-1) s = true

theorem mem_nil {p : Int} : mem p [] = false := rfl
theorem mem_cons {p : Int} {x : Sp} {s : List Sp} : mem p (x :: s) = ((decide (x.1 ≤ p) && decide (p < x.1 + x.2)) || mem p s) := rfl
theorem mem_append {p : Int} {s t : List Sp} : mem p (s ++ t) = (mem p s || mem p t) := by simp [mem]
theorem mem_cons' {p : Int} {x : Sp} {s : List Sp} : mem p (x :: s) = true ↔ (x.1 ≤ p ∧ p < x.1 + x.2) ∨ mem p s = true := by simp [mem_cons]
theorem formOk_cons {e : Int} {x : Sp} {s : List Sp} : formOk e (x :: s) = true ↔ e < x.1 ∧ formOk (x.1 + x.2) s = true := by simp [formOk]
theorem formOk_le {e e' : Int} {s : List Sp} (h : formOk e s = true) (he : e' ≤ e) : formOk e' s = true := by
  cases s with
  | nil => rfl
  | cons x s => rw [formOk_cons] at h ⊢; exact ⟨by omega, h.2⟩
theorem mem_lt {p : Int} : ∀ {s : List Sp} {e : Int}, formOk e s = true → (∀ x ∈ s, 0 ≤ x.2) → mem p s = true → e < p
  | [], _, _, _, h => by simp [mem_nil] at h
  | x :: s, e, hf, hw, h => by
    rw [formOk_cons] at hf
    have := hw x (by simp)
    rcases mem_cons'.1 h with h | h
    · omega
    · have := mem_lt hf.2 (fun y hy => hw y (by simp [hy])) h
      omega
theorem uniq : ∀ (s t : List Sp) (e : Int), (∀ x ∈ s, 1 ≤ x.2) → (∀ x ∈ t, 1 ≤ x.2) → formOk e s = true → formOk e t = true → (∀ p : Int, mem p s = mem p t) → s = t
  | [], [], _, _, _, _, _, _ => rfl
  | [], y :: t, _, _, ht, _, _, h => by
    have := h y.1
    have h1 := ht y (by simp)
    rw [mem_nil, mem_cons] at this
    simp at this
    omega
  | x :: s, [], _, hs, _, _, _, h => by
    have := h x.1
    have h1 := hs x (by simp)
    rw [mem_nil, mem_cons] at this
    simp at this
    omega
  | x :: s, y :: t, e, hs, ht, fs, ft, h => by
    have hx := hs x (by simp)
    have hy := ht y (by simp)
    rw [formOk_cons] at fs ft
    have hs' : ∀ z ∈ s, 1 ≤ z.2 := fun z hz => hs z (by simp [hz])
    have ht' : ∀ z ∈ t, 1 ≤ z.2 := fun z hz => ht z (by simp [hz])
    have low : ∀ p, mem p s = true → x.1 + x.2 < p := fun p hp => mem_lt fs.2 (fun z hz => by have := hs' z hz; omega) hp
    have low' : ∀ p, mem p t = true → y.1 + y.2 < p := fun p hp => mem_lt ft.2 (fun z hz => by have := ht' z hz; omega) hp
    have e1 : x.1 = y.1 := by
      have a := h x.1
      have b := h y.1
      have a1 : mem x.1 (x :: s) = true := mem_cons'.2 (.inl (by omega))
      have b1 : mem y.1 (y :: t) = true := mem_cons'.2 (.inl (by omega))
      rw [a1] at a; rw [b1] at b
      rcases mem_cons'.1 a.symm with h1 | h1 <;> rcases mem_cons'.1 b with h2 | h2
      · omega
      · have := low _ h2; omega
      · have := low' _ h1; omega
      · have := low _ h2; have := low' _ h1; omega
    have e2 : x.2 = y.2 := by
      have a := h (x.1 + x.2)
      have b := h (y.1 + y.2)
      have a1 : mem (x.1 + x.2) (x :: s) = false := by
        rw [Bool.eq_false_iff]; intro hh
        rcases mem_cons'.1 hh with h1 | h1
        · omega
        · have := low _ h1; omega
      have b1 : mem (y.1 + y.2) (y :: t) = false := by
        rw [Bool.eq_false_iff]; intro hh
        rcases mem_cons'.1 hh with h1 | h1
        · omega
        · have := low' _ h1; omega
      rw [a1] at a; rw [b1] at b
      have a2 : ¬ (y.1 ≤ x.1 + x.2 ∧ x.1 + x.2 < y.1 + y.2) := fun hh => by
        have : mem (x.1 + x.2) (y :: t) = true := mem_cons'.2 (.inl hh)
        rw [← a] at this; cases this
      have b2 : ¬ (x.1 ≤ y.1 + y.2 ∧ y.1 + y.2 < x.1 + x.2) := fun hh => by
        have : mem (y.1 + y.2) (x :: s) = true := mem_cons'.2 (.inl hh)
        rw [b] at this; cases this
      omega
    have exy : x = y := Prod.ext e1 e2
    subst exy
    congr 1
    refine uniq s t (x.1 + x.2) hs' ht' fs.2 ft.2 fun p => ?_
    have hp := h p
    rw [mem_cons, mem_cons] at hp
    by_cases hin : x.1 ≤ p ∧ p < x.1 + x.2
    · have z1 : mem p s = false := by rw [Bool.eq_false_iff]; intro hh; have := low _ hh; omega
      have z2 : mem p t = false := by rw [Bool.eq_false_iff]; intro hh; have := low' _ hh; omega
      rw [z1, z2]
    · have : (decide (x.1 ≤ p) && decide (p < x.1 + x.2)) = false := by simp; omega
      simpa [this] using hp
theorem Can.eq {s t : List Sp} (hs : Can s) (ht : Can t) (h : ∀ p : Int, mem p s = mem p t) : s = t :=
  uniq s t (-1) (fun x hx => (vld_iff.1 (hs.1 x hx)).2.2.1) (fun x hx => (vld_iff.1 (ht.1 x hx)).2.2.1) hs.2 ht.2 h
theorem form_len : ∀ (s : List Sp) (e : Int), e < 1024 → (∀ x ∈ s, vld x = true) → formOk e s = true → 2 * (s.length : Int) ≤ 1024 - e
  | [], e, he, _, _ => by simp; omega
  | x :: s, e, _, hv, hf => by
    rw [formOk_cons] at hf
    have hx := vld_iff.1 (hv x (by simp))
    cases s with
    | nil => simp; omega
    | cons y r =>
      have hf2 := formOk_cons.1 hf.2
      have hy := vld_iff.1 (hv y (by simp))
      have := (form_len (y :: r) (x.1 + x.2) (by omega) (fun z hz => hv z (List.mem_cons_of_mem _ hz)) hf.2)
      simp only [List.length_cons] at this ⊢
      omega
theorem Can.len {s : List Sp} (h : Can s) : s.length ≤ 512 := by
  have := form_len s (-1) (by omega) h.1 h.2
  omega
theorem chkS_zero {s : List Sp} : chkS s = 0 ↔ Can s := by
  unfold chkS
  constructor
  · intro h
    split at h
    · cases h
    · split at h
      · cases h
      · split at h
        · rename_i h1 h2 h3
          exact ⟨fun x hx => by simpa using List.all_eq_true.1 (by simpa using h2 : s.all vld = true) x hx, h3⟩
        · cases h
  · intro h
    rw [if_neg (by have := h.len; omega), if_neg (by rw [Bool.not_eq_false]; exact List.all_eq_true.2 h.1), if_pos h.2]
theorem chkS_ne {s : List Sp} : chkS s = 0 ∨ chkS s = 3 ∨ chkS s = 6 ∨ chkS s = 7 := by
  unfold chkS; split
  · simp
  · split
    · simp
    · split <;> simp

/-! the common pages -/
def commonN : Nat → List Sp → List Sp → List Sp
  | 0, _, _ => []
  | _ + 1, [], _ => []
  | _ + 1, _ :: _, [] => []
  | k + 1, x :: a, y :: b =>
    (if max x.1 y.1 < min (x.1 + x.2) (y.1 + y.2) then [(max x.1 y.1, min (x.1 + x.2) (y.1 + y.2) - max x.1 y.1)] else []) ++
      (if x.1 + x.2 < y.1 + y.2 then commonN k a (y :: b) else commonN k (x :: a) b)
def commonF (a b : List Sp) : List Sp := commonN (a.length + b.length) a b
theorem commonN_nil {k : Nat} {b : List Sp} : commonN k [] b = [] := by cases k <;> rfl
theorem commonN_nil' {k : Nat} {a : List Sp} : commonN k a [] = [] := by cases k <;> cases a <;> rfl
theorem commonF_cons (x y : Sp) (a b : List Sp) : commonF (x :: a) (y :: b) =
    (if max x.1 y.1 < min (x.1 + x.2) (y.1 + y.2) then [(max x.1 y.1, min (x.1 + x.2) (y.1 + y.2) - max x.1 y.1)] else []) ++
      (if x.1 + x.2 < y.1 + y.2 then commonF a (y :: b) else commonF (x :: a) b) := by
  unfold commonF
  rw [show (x :: a).length + (y :: b).length = (a.length + (y :: b).length) + 1 by simp; omega]
  rw [commonN]
  rw [show (x :: a).length + b.length = a.length + (y :: b).length by simp; omega]
theorem commonF_nil {b : List Sp} : commonF [] b = [] := commonN_nil
theorem commonF_nil' {a : List Sp} : commonF a [] = [] := commonN_nil'
theorem common_form : ∀ (k : Nat) (a b : List Sp) (ea eb e : Int), (∀ x ∈ a, 0 ≤ x.2) → (∀ x ∈ b, 0 ≤ x.2) → formOk ea a = true → formOk eb b = true → (e ≤ ea ∨ e ≤ eb) → formOk e (commonN k a b) = true
  | 0, _, _, _, _, _, _, _, _, _, _ => rfl
  | _ + 1, [], _, _, _, _, _, _, _, _, _ => rfl
  | _ + 1, _ :: _, [], _, _, _, _, _, _, _, _ => rfl
  | k + 1, x :: a, y :: b, ea, eb, e, ha, hb, fa, fb, he => by
    have fa' := formOk_cons.1 fa
    have fb' := formOk_cons.1 fb
    have hx := ha x (by simp)
    have hy := hb y (by simp)
    have ha' : ∀ z ∈ a, 0 ≤ z.2 := fun z hz => ha z (by simp [hz])
    have hb' : ∀ z ∈ b, 0 ≤ z.2 := fun z hz => hb z (by simp [hz])
    rw [commonN]
    by_cases hlt : max x.1 y.1 < min (x.1 + x.2) (y.1 + y.2)
    · rw [if_pos hlt, List.singleton_append, formOk_cons]
      refine ⟨by simp only; omega, ?_⟩
      simp only
      split
      · exact common_form k a (y :: b) (x.1 + x.2) eb _ ha' hb fa'.2 fb (by omega)
      · exact common_form k (x :: a) b ea (y.1 + y.2) _ ha hb' fa fb'.2 (by omega)
    · rw [if_neg hlt, List.nil_append]
      split
      · exact common_form k a (y :: b) (x.1 + x.2) eb _ ha' hb fa'.2 fb (by omega)
      · exact common_form k (x :: a) b ea (y.1 + y.2) _ ha hb' fa fb'.2 (by omega)
theorem common_vld : ∀ (k : Nat) (a b : List Sp), (∀ x ∈ a, vld x = true) → (∀ x ∈ b, vld x = true) → ∀ x ∈ commonN k a b, vld x = true
  | 0, _, _, _, _ => by simp [commonN]
  | _ + 1, [], _, _, _ => by simp [commonN]
  | _ + 1, _ :: _, [], _, _ => by simp [commonN]
  | k + 1, x :: a, y :: b, ha, hb => by
    have hx := vld_iff.1 (ha x (by simp))
    have hy := vld_iff.1 (hb y (by simp))
    have ha' : ∀ z ∈ a, vld z = true := fun z hz => ha z (by simp [hz])
    have hb' : ∀ z ∈ b, vld z = true := fun z hz => hb z (by simp [hz])
    intro z hz
    rw [commonN, List.mem_append] at hz
    rcases hz with hz | hz
    · split at hz
      · simp only [List.mem_singleton] at hz
        subst hz
        rw [vld_iff]
        simp only
        omega
      · simp at hz
    · split at hz
      · exact common_vld k a (y :: b) ha' hb z hz
      · exact common_vld k (x :: a) b ha hb' z hz
theorem mem_common (p : Int) : ∀ (k : Nat) (a b : List Sp) (ea eb : Int), a.length + b.length ≤ k → (∀ x ∈ a, 0 ≤ x.2) → (∀ x ∈ b, 0 ≤ x.2) → formOk ea a = true → formOk eb b = true → mem p (commonN k a b) = (mem p a && mem p b)
  | 0, [], _, _, _, _, _, _, _, _ => rfl
  | _ + 1, [], _, _, _, _, _, _, _, _ => rfl
  | 0, _ :: _, _, _, _, h, _, _, _, _ => by simp at h
  | _ + 1, _ :: _, [], _, _, _, _, _, _, _ => by simp [commonN, mem_nil]
  | k + 1, x :: a, y :: b, ea, eb, hk, ha, hb, fa, fb => by
    have fa' := formOk_cons.1 fa
    have fb' := formOk_cons.1 fb
    have hx := ha x (by simp)
    have hy := hb y (by simp)
    have ha' : ∀ z ∈ a, 0 ≤ z.2 := fun z hz => ha z (by simp [hz])
    have hb' : ∀ z ∈ b, 0 ≤ z.2 := fun z hz => hb z (by simp [hz])
    have lowa : mem p a = true → x.1 + x.2 < p := fun hp => mem_lt fa'.2 ha' hp
    have lowb : mem p b = true → y.1 + y.2 < p := fun hp => mem_lt fb'.2 hb' hp
    simp only [List.length_cons] at hk
    have hpc : mem p (if max x.1 y.1 < min (x.1 + x.2) (y.1 + y.2) then [(max x.1 y.1, min (x.1 + x.2) (y.1 + y.2) - max x.1 y.1)] else []) = true ↔ (x.1 ≤ p ∧ p < x.1 + x.2) ∧ (y.1 ≤ p ∧ p < y.1 + y.2) := by
      split
      · rw [mem_cons']; simp only [mem_nil]; simp; omega
      · simp only [mem_nil]; simp; omega
    rw [commonN, mem_append, Bool.eq_iff_iff, Bool.or_eq_true, hpc, Bool.and_eq_true, mem_cons', mem_cons']
    by_cases hlt : x.1 + x.2 < y.1 + y.2
    · rw [if_pos hlt, mem_common p k a (y :: b) (x.1 + x.2) eb (by simp; omega) ha' hb fa'.2 fb, Bool.and_eq_true, mem_cons']
      constructor
      · rintro (⟨h1, h2⟩ | ⟨h1, h2⟩)
        · exact ⟨.inl h1, .inl h2⟩
        · exact ⟨.inr h1, h2⟩
      · rintro ⟨h1 | h1, h2⟩
        · rcases h2 with h2 | h2
          · exact .inl ⟨h1, h2⟩
          · have := lowb h2; omega
        · exact .inr ⟨h1, h2⟩
    · rw [if_neg hlt, mem_common p k (x :: a) b ea (y.1 + y.2) (by simp; omega) ha hb' fa fb'.2, Bool.and_eq_true, mem_cons']
      constructor
      · rintro (⟨h1, h2⟩ | ⟨h1, h2⟩)
        · exact ⟨.inl h1, .inl h2⟩
        · exact ⟨h1, .inr h2⟩
      · rintro ⟨h1, h2 | h2⟩
        · rcases h1 with h1 | h1
          · exact .inl ⟨h1, h2⟩
          · have := lowa h1; omega
        · exact .inr ⟨h1, h2⟩
theorem Can.common {a b : List Sp} (ha : Can a) (hb : Can b) : Can (commonF a b) :=
  ⟨common_vld _ a b ha.1 hb.1, common_form _ a b (-1) (-1) (-1) (fun x hx => by have := (vld_iff.1 (ha.1 x hx)).2.2.1; omega) (fun x hx => by have := (vld_iff.1 (hb.1 x hx)).2.2.1; omega) ha.2 hb.2 (.inl (by omega))⟩
theorem Can.mem_common {a b : List Sp} (ha : Can a) (hb : Can b) (p : Int) : mem p (commonF a b) = (mem p a && mem p b) :=
  Go.Pol.mem_common p _ a b (-1) (-1) (Nat.le_refl _) (fun x hx => by have := (vld_iff.1 (ha.1 x hx)).2.2.1; omega) (fun x hx => by have := (vld_iff.1 (hb.1 x hx)).2.2.1; omega) ha.2 hb.2
theorem Can.one {x : Sp} (h : vld x = true) : Can [x] := ⟨by simpa using h, by rw [formOk_cons]; have := (vld_iff.1 h).1; exact ⟨by omega, rfl⟩⟩
theorem mem_one {p : Int} {x : Sp} : mem p [x] = true ↔ x.1 ≤ p ∧ p < x.1 + x.2 := by simp [mem]
theorem mem_two {p : Int} {x y : Sp} : mem p [x, y] = true ↔ (x.1 ≤ p ∧ p < x.1 + x.2) ∨ (y.1 ≤ p ∧ p < y.1 + y.2) := by simp [mem]

/-! the gaps -/
def gapsL : Int → Int → List Sp → List Sp
  | n, e, [] => if n < e then [(n, e - n)] else []
  | n, e, x :: r => (if n < x.1 then [(n, x.1 - n)] else []) ++ gapsL (x.1 + x.2) e r
def gapsF (s : List Sp) (i : Sp) : List Sp := gapsL i.1 (i.1 + i.2) (commonF s [i])
theorem gaps_form : ∀ (l : List Sp) (n e n' : Int), n' < n → (∀ x ∈ l, 1 ≤ x.2) → formOk (n - 1) l = true → formOk n' (gapsL n e l) = true
  | [], n, e, n', h, _, _ => by
    rw [gapsL]; split
    · rw [formOk_cons]; exact ⟨h, rfl⟩
    · rfl
  | x :: r, n, e, n', h, hw, hf => by
    have hf' := formOk_cons.1 hf
    have hx := hw x (by simp)
    have hw' : ∀ z ∈ r, 1 ≤ z.2 := fun z hz => hw z (by simp [hz])
    rw [gapsL]; split
    · rw [List.singleton_append, formOk_cons]
      exact ⟨h, gaps_form r (x.1 + x.2) e _ (by simp only; omega) hw' (formOk_le hf'.2 (by omega))⟩
    · rw [List.nil_append]
      exact gaps_form r (x.1 + x.2) e _ (by omega) hw' (formOk_le hf'.2 (by omega))
theorem gaps_vld : ∀ (l : List Sp) (n e : Int), 0 ≤ n → e ≤ 1024 → (∀ x ∈ l, vld x = true) → ∀ x ∈ gapsL n e l, vld x = true
  | [], n, e, h0, h1, _ => by
    rw [gapsL]; intro x hx
    split at hx
    · simp only [List.mem_singleton] at hx; subst hx; rw [vld_iff]; simp only; omega
    · simp at hx
  | x :: r, n, e, h0, h1, hv => by
    have hx := vld_iff.1 (hv x (by simp))
    rw [gapsL]; intro y hy
    rw [List.mem_append] at hy
    rcases hy with hy | hy
    · split at hy
      · simp only [List.mem_singleton] at hy; subst hy; rw [vld_iff]; simp only; omega
      · simp at hy
    · exact gaps_vld r _ e (by omega) h1 (fun z hz => hv z (by simp [hz])) y hy
theorem mem_gaps (p : Int) : ∀ (l : List Sp) (n e : Int), n ≤ e → (∀ x ∈ l, 1 ≤ x.2 ∧ x.1 + x.2 ≤ e) → formOk (n - 1) l = true → (mem p (gapsL n e l) = true ↔ (n ≤ p ∧ p < e) ∧ mem p l = false)
  | [], n, e, _, _, _ => by
    rw [gapsL]; split
    · rw [mem_cons']; simp [mem_nil]; omega
    · simp [mem_nil]; omega
  | x :: r, n, e, hne, hw, hf => by
    have hf' := formOk_cons.1 hf
    have hx := hw x (by simp)
    have hw' : ∀ z ∈ r, 1 ≤ z.2 ∧ z.1 + z.2 ≤ e := fun z hz => hw z (by simp [hz])
    have low : mem p r = true → x.1 + x.2 < p := fun hp => mem_lt hf'.2 (fun z hz => by have := hw' z hz; omega) hp
    have ih := mem_gaps p r (x.1 + x.2) e (by omega) hw' (formOk_le hf'.2 (by omega))
    have h1 : mem p (if n < x.1 then [(n, x.1 - n)] else []) = true ↔ n ≤ p ∧ p < x.1 := by
      split
      · rw [mem_cons']; simp [mem_nil]; omega
      · simp [mem_nil]; omega
    have h2 : mem p (x :: r) = false ↔ ¬ (x.1 ≤ p ∧ p < x.1 + x.2) ∧ mem p r = false := by rw [mem_cons]; simp
    rw [gapsL, mem_append, Bool.or_eq_true, h1, ih, h2]
    constructor
    · rintro (h | ⟨h, hr⟩)
      · refine ⟨by omega, by omega, ?_⟩
        rw [Bool.eq_false_iff]; intro hh; have := low hh; omega
      · exact ⟨by omega, by omega, hr⟩
    · rintro ⟨h, hn, hr⟩
      by_cases hp : p < x.1
      · exact .inl (by omega)
      · exact .inr ⟨by omega, hr⟩
theorem Can.gaps {s : List Sp} {i : Sp} (hs : Can s) (hi : vld i = true) : Can (gapsF s i) ∧ ∀ p, mem p (gapsF s i) = true ↔ (i.1 ≤ p ∧ p < i.1 + i.2) ∧ mem p s = false := by
  have hi' := vld_iff.1 hi
  have hc := hs.common (Can.one hi)
  have hm := hs.mem_common (Can.one hi)
  have hin : ∀ x ∈ commonF s [i], i.1 ≤ x.1 ∧ x.1 + x.2 ≤ i.1 + i.2 := fun x hx => by
    have hv := vld_iff.1 (hc.1 x hx)
    have hx1 : mem x.1 (commonF s [i]) = true := List.any_eq_true.2 ⟨x, hx, by simp; omega⟩
    have hx2 : mem (x.1 + x.2 - 1) (commonF s [i]) = true := List.any_eq_true.2 ⟨x, hx, by simp; omega⟩
    rw [hm, Bool.and_eq_true, mem_one] at hx1 hx2
    omega
  have hf : formOk (i.1 - 1) (commonF s [i]) = true := by
    have := hc.2
    cases hl : commonF s [i] with
    | nil => rfl
    | cons x r =>
      rw [hl] at this hin
      rw [formOk_cons] at this ⊢
      have hh := this
      have := hin x (by simp)
      exact ⟨by omega, hh.2⟩
  refine ⟨⟨gaps_vld _ _ _ hi'.1 (by omega) hc.1, gaps_form _ _ _ _ (by omega) (fun x hx => (vld_iff.1 (hc.1 x hx)).2.2.1) hf⟩, fun p => ?_⟩
  unfold gapsF
  rw [mem_gaps p _ _ _ (by omega) (fun x hx => ⟨(vld_iff.1 (hc.1 x hx)).2.2.1, (hin x hx).2⟩) hf, hm]
  constructor
  · rintro ⟨h1, h2⟩
    have : mem p [i] = true := mem_one.2 h1
    rw [this, Bool.and_true] at h2
    exact ⟨h1, h2⟩
  · rintro ⟨h1, h2⟩
    exact ⟨h1, by rw [h2]; rfl⟩

/-! the set of the pages that are marked -/
def bump (l : List Sp) : List Sp := match l.reverse with | [] => [] | x :: r => r.reverse ++ [(x.1, x.2 + 1)]
theorem bump_snoc (l : List Sp) (x : Sp) : bump (l ++ [x]) = l ++ [(x.1, x.2 + 1)] := by simp [bump]
theorem bump_len (l : List Sp) : (bump l).length = l.length := by
  rcases List.eq_nil_or_concat l with rfl | ⟨r, x, rfl⟩
  · rfl
  · rw [List.concat_eq_append, bump_snoc]; simp
def setF (f : Nat → Bool) : Nat → List Sp
  | 0 => []
  | p + 1 => if f p then (if decide (0 < p) && f (p - 1) then bump (setF f p) else setF f p ++ [((p : Int), 1)]) else setF f p
def lastE : Int → List Sp → Int
  | e, [] => e
  | _, x :: r => lastE (x.1 + x.2) r
theorem lastE_snoc (e : Int) : ∀ (l : List Sp) (x : Sp), lastE e (l ++ [x]) = x.1 + x.2
  | [], _ => rfl
  | y :: r, x => lastE_snoc (y.1 + y.2) r x
theorem formOk_snoc : ∀ (l : List Sp) (e : Int) (x : Sp), formOk e (l ++ [x]) = true ↔ formOk e l = true ∧ lastE e l < x.1
  | [], e, x => by simp [formOk, lastE]
  | y :: r, e, x => by rw [List.cons_append, formOk_cons, formOk_cons, formOk_snoc r, lastE]; simp only [and_assoc]
theorem mem_snoc {p : Int} {l : List Sp} {x : Sp} : mem p (l ++ [x]) = true ↔ mem p l = true ∨ (x.1 ≤ p ∧ p < x.1 + x.2) := by rw [mem_append, Bool.or_eq_true, mem_one]
structure SetOk (f : Nat → Bool) (p : Nat) (l : List Sp) : Prop where
  wid : ∀ x ∈ l, 0 ≤ x.1 ∧ 1 ≤ x.2 ∧ x.1 + x.2 ≤ p
  form : formOk (-1) l = true
  mem : ∀ q : Int, mem q l = true ↔ (0 ≤ q ∧ q < p) ∧ f q.toNat = true
  last : 0 < p → f (p - 1) = true → ∃ (r : List Sp) (x : Sp), l = r ++ [x] ∧ x.1 + x.2 = (p : Int)
  open_ : (0 < p → f (p - 1) = false) → lastE (-1) l < p
theorem setF_ok (f : Nat → Bool) : ∀ p, SetOk f p (setF f p)
  | 0 => ⟨by simp [setF], rfl, fun q => by simp [setF, mem_nil]; omega, fun h => absurd h (by omega), fun _ => by simp [setF, lastE]⟩
  | p + 1 => by
    have ih := setF_ok f p
    rw [setF]
    by_cases hp : f p = true
    · rw [if_pos hp]
      by_cases hq : 0 < p ∧ f (p - 1) = true
      · rw [if_pos (by simp [hq])]
        obtain ⟨r, x, hl, hx⟩ := ih.last hq.1 hq.2
        have hw := ih.wid
        have hf := ih.form
        have hm := ih.mem
        rw [hl] at hw hf hm ⊢
        rw [bump_snoc]
        refine ⟨fun y hy => ?_, ?_, fun q => ?_, fun _ _ => ⟨r, _, rfl, by simp only; omega⟩, fun h => ?_⟩
        · rw [List.mem_append, List.mem_singleton] at hy
          rcases hy with hy | rfl
          · have := hw y (by simp [hy]); omega
          · have := hw x (by simp); simp only; omega
        · rw [formOk_snoc] at hf ⊢; exact hf
        · have h1 := hm q
          rw [mem_snoc] at h1 ⊢
          simp only
          have hx' := hw x (by simp)
          by_cases hqp : q = (p : Int)
          · constructor
            · intro _; exact ⟨by omega, by rw [hqp]; simpa using hp⟩
            · intro _; right; omega
          · constructor
            · rintro (h | h)
              · have := h1.1 (.inl h)
                exact ⟨by omega, this.2⟩
              · have := h1.1 (.inr (by omega))
                exact ⟨by omega, this.2⟩
            · rintro ⟨h2, h3⟩
              rcases h1.2 ⟨by omega, h3⟩ with h | h
              · exact .inl h
              · exact .inr (by omega)
        · rw [Nat.add_sub_cancel] at h
          have := h (by omega)
          rw [hp] at this; cases this
      · rw [if_neg (by simpa using hq)]
        have hop := ih.open_ (fun h0 => by
          cases h : f (p - 1) with
          | false => rfl
          | true => exact absurd ⟨h0, h⟩ hq)
        refine ⟨fun y hy => ?_, ?_, fun q => ?_, fun _ _ => ⟨_, _, rfl, by simp only; omega⟩, fun h => ?_⟩
        · rw [List.mem_append, List.mem_singleton] at hy
          rcases hy with hy | rfl
          · have := ih.wid y hy; omega
          · simp only; omega
        · rw [formOk_snoc]; exact ⟨ih.form, hop⟩
        · rw [mem_snoc, ih.mem q]
          simp only
          by_cases hqp : q = p
          · subst hqp
            constructor
            · intro _; exact ⟨by omega, by simpa using hp⟩
            · intro _; right; omega
          · constructor
            · rintro (⟨h, h2⟩ | h)
              · exact ⟨by omega, h2⟩
              · omega
            · rintro ⟨h, h2⟩; exact .inl ⟨by omega, h2⟩
        · rw [Nat.add_sub_cancel] at h
          have := h (by omega)
          rw [hp] at this; cases this
    · rw [if_neg hp]
      have hp' : f p = false := by simpa using hp
      refine ⟨fun y hy => by have := ih.wid y hy; omega, ih.form, fun q => ?_, fun _ h => ?_, fun _ => ?_⟩
      · rw [ih.mem q]
        constructor
        · rintro ⟨h1, h2⟩; exact ⟨by omega, h2⟩
        · rintro ⟨h1, h2⟩
          refine ⟨?_, h2⟩
          by_cases hqp : q = p
          · subst hqp; rw [Int.toNat_natCast, hp'] at h2; cases h2
          · omega
      · rw [Nat.add_sub_cancel, hp'] at h; cases h
      · by_cases hq : 0 < p ∧ f (p - 1) = true
        · obtain ⟨r, x, hl, hx⟩ := ih.last hq.1 hq.2
          rw [hl, lastE_snoc, hx]; omega
        · have := ih.open_ (fun h0 => by
            cases h : f (p - 1) with
            | false => rfl
            | true => exact absurd ⟨h0, h⟩ hq)
          omega
def setA (f : Nat → Bool) : List Sp := setF f 1024
theorem setA_can (f : Nat → Bool) : Can (setA f) := ⟨fun x hx => by have := (setF_ok f 1024).wid x hx; rw [vld_iff]; omega, (setF_ok f 1024).form⟩
theorem mem_setA (f : Nat → Bool) (q : Int) : mem q (setA f) = true ↔ (0 ≤ q ∧ q < 1024) ∧ f q.toNat = true := (setF_ok f 1024).mem q
theorem Can.range {s : List Sp} (h : Can s) {p : Int} (hp : mem p s = true) : 0 ≤ p ∧ p < 1024 := by
  obtain ⟨x, hx, hh⟩ := List.any_eq_true.1 hp
  have := vld_iff.1 (h.1 x hx)
  simp at hh
  omega
/-- a set is what the marks of its pages give -/
theorem Can.eq_setA {s : List Sp} (h : Can s) (f : Nat → Bool) (hf : ∀ p : Nat, p < 1024 → f p = mem p s) : s = setA f := by
  refine h.eq (setA_can f) fun p => ?_
  rw [Bool.eq_iff_iff, mem_setA]
  constructor
  · intro hp
    have := h.range hp
    refine ⟨this, ?_⟩
    rw [hf _ (by omega), Int.toNat_of_nonneg this.1]; exact hp
  · rintro ⟨h1, h2⟩
    rw [hf _ (by omega), Int.toNat_of_nonneg h1.1] at h2; exact h2
end Go.Pol
