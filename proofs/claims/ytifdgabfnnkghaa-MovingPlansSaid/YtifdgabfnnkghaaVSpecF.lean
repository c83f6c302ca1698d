/- Packing free places: blocks of these orders can be placed exactly if the counts suffice; no program in sight. -/
import Derived.Test.YtifdgabfnnkghaaVSpecD
namespace Go.Pol
theorem frB_iff {pg : Nat} {m : Nat → Bool} {o i : Nat} : frB pg m o i = true ↔ (i + 1) * 2 ^ o ≤ pg ∧ ∀ k, i * 2 ^ o ≤ k → k < (i + 1) * 2 ^ o → m k = false := by
  unfold frB
  simp only [Bool.and_eq_true, decide_eq_true_eq, List.all_eq_true, List.mem_range, Bool.not_eq_true']
  have e : (i + 1) * 2 ^ o = i * 2 ^ o + 2 ^ o := by rw [Nat.add_mul]; omega
  constructor
  · rintro ⟨h1, h2⟩
    refine ⟨h1, fun k hk1 hk2 => ?_⟩
    have := h2 (k - i * 2 ^ o) (by omega)
    rwa [show i * 2 ^ o + (k - i * 2 ^ o) = k by omega] at this
  · rintro ⟨h1, h2⟩
    exact ⟨h1, fun k hk => h2 _ (by omega) (by omega)⟩
theorem markB_iff {m : Nat → Bool} {p o k : Nat} : markB m p o k = true ↔ m k = true ∨ (p ≤ k ∧ k < p + 2 ^ o) := by
  unfold markB; simp
theorem markB_false {m : Nat → Bool} {p o k : Nat} : markB m p o k = false ↔ m k = false ∧ ¬ (p ≤ k ∧ k < p + 2 ^ o) := by
  cases h : markB m p o k with
  | true =>
    have := markB_iff.1 h
    simp only [Bool.true_eq_false, false_iff]
    intro hc
    rcases this with h1 | h1
    · rw [hc.1] at h1; cases h1
    · exact hc.2 h1
  | false =>
    simp only [true_iff]
    have hn : ¬ (m k = true ∨ (p ≤ k ∧ k < p + 2 ^ o)) := fun hc => by rw [markB_iff.2 hc] at h; cases h
    refine ⟨by cases hm : m k with | false => rfl | true => exact absurd (.inl hm) hn, fun hc => hn (.inr hc)⟩
theorem markB_comm (m : Nat → Bool) (p o q o' : Nat) : markB (markB m p o) q o' = markB (markB m q o') p o := by
  funext k
  unfold markB
  rw [Bool.or_assoc, Bool.or_assoc, Bool.or_comm (decide (p ≤ k) && _)]
theorem frB_anti {pg : Nat} {m m' : Nat → Bool} {o i : Nat} (h : ∀ k, m k = true → m' k = true) (hf : frB pg m' o i = true) : frB pg m o i = true := by
  rw [frB_iff] at hf ⊢
  refine ⟨hf.1, fun k h1 h2 => ?_⟩
  have := hf.2 k h1 h2
  cases hm : m k with
  | false => rfl
  | true => rw [h k hm] at this; cases this
theorem frB_lt {pg : Nat} {m : Nat → Bool} {o i : Nat} (h : frB pg m o i = true) : i < pg := by
  have h1 := (frB_iff.1 h).1
  have h2 := Nat.mul_le_mul_left (i + 1) (Nat.two_pow_pos o)
  omega
theorem frB_lt_div {pg : Nat} {m : Nat → Bool} {o i : Nat} (h : frB pg m o i = true) : i < pg / 2 ^ o := by
  rw [Nat.lt_iff_add_one_le, Nat.le_div_iff_mul_le (Nat.two_pow_pos o)]
  exact (frB_iff.1 h).1
/-- blocks of these orders can be placed, one after the other -/
def packB (pg : Nat) : (Nat → Bool) → List Nat → Prop
  | _, [] => True
  | m, o :: r => ∃ a, frB pg m o a = true ∧ packB pg (markB m (a * 2 ^ o) o) r
theorem place_end (a o : Nat) : (a + 1) * 2 ^ o = a * 2 ^ o + 2 ^ o := by rw [Nat.add_mul]; omega
theorem pack_swap {pg : Nat} {m : Nat → Bool} {x y : Nat} {r : List Nat} (h : packB pg m (x :: y :: r)) : packB pg m (y :: x :: r) := by
  obtain ⟨a, ha, b, hb, hr⟩ := h
  refine ⟨b, frB_anti (fun k hk => markB_iff.2 (.inl hk)) hb, a, ?_, by rw [markB_comm]; exact hr⟩
  have ha' := frB_iff.1 ha
  have hb' := frB_iff.1 hb
  refine frB_iff.2 ⟨ha'.1, fun k h1 h2 => markB_false.2 ⟨ha'.2 k h1 h2, fun hc => ?_⟩⟩
  have := (markB_false.1 (hb'.2 k hc.1 (by rw [place_end]; exact hc.2))).2
  exact this ⟨h1, by rw [place_end] at h2; exact h2⟩
theorem pack_perm {pg : Nat} {l l' : List Nat} (h : l.Perm l') : ∀ m, packB pg m l → packB pg m l' := by
  induction h with
  | nil => exact fun _ h => h
  | cons x _ ih => rintro m ⟨a, ha, hr⟩; exact ⟨a, ha, ih _ hr⟩
  | swap x y l => exact fun m h => pack_swap h
  | trans _ _ h1 h2 => exact fun m h => h2 m (h1 m h)
theorem cntB_mono {f g : Nat → Bool} : ∀ n, (∀ i, i < n → f i = true → g i = true) → cntB f n ≤ cntB g n
  | 0, _ => Nat.le_refl _
  | n + 1, h => by
    have ih := cntB_mono (f := f) (g := g) n (fun i hi => h i (by omega))
    rw [cntB, cntB]
    cases hf : f n with
    | false => simp; omega
    | true => rw [h n (by omega) hf]; omega
theorem cntB_pos {f : Nat → Bool} : ∀ n, 0 < cntB f n → ∃ i, i < n ∧ f i = true
  | 0, h => by simp [cntB] at h
  | n + 1, h => by
    cases hf : f n with
    | true => exact ⟨n, by omega, hf⟩
    | false =>
      rw [cntB, hf] at h
      obtain ⟨i, hi, hfi⟩ := cntB_pos n (by simpa using h)
      exact ⟨i, by omega, hfi⟩
theorem cntB_block {f : Nat → Bool} {N s : Nat} : ∀ n, s + n ≤ N → (∀ i, s ≤ i → i < s + n → f i = true) → cntB (fun i => f i && !(decide (s ≤ i) && decide (i < s + n))) N + n = cntB f N
  | 0, _, _ => by
    rw [cntB_ext N (g := f) (fun i _ => by
      have : (decide (s ≤ i) && decide (i < s + 0)) = false := by
        by_cases h : s ≤ i
        · rw [decide_eq_false (show ¬ i < s + 0 by omega)]; simp
        · rw [decide_eq_false h]; simp
      rw [this]; simp)]
    rfl
  | n + 1, h, hf => by
    have ih := cntB_block (f := f) (N := N) (s := s) n (by omega) (fun i h1 h2 => hf i h1 (by omega))
    have hg : (fun i => f i && !(decide (s ≤ i) && decide (i < s + n))) (s + n) = true := by
      simp only [hf (s + n) (by omega) (by omega), Bool.true_and]
      rw [decide_eq_false (show ¬ s + n < s + n by omega)]; simp
    have hc := cntB_clear (f := fun i => f i && !(decide (s ≤ i) && decide (i < s + n))) (k := s + n) hg N (by omega)
    have he : cntB (fun i => (f i && !(decide (s ≤ i) && decide (i < s + n))) && !(i == s + n)) N = cntB (fun i => f i && !(decide (s ≤ i) && decide (i < s + (n + 1)))) N := cntB_ext N (fun i _ => by
      by_cases h1 : s ≤ i
      · by_cases h2 : i < s + n
        · rw [decide_eq_true h1, decide_eq_true h2, decide_eq_true (show i < s + (n + 1) by omega)]; simp
        · by_cases h3 : i = s + n
          · subst h3; simp
          · rw [decide_eq_false h2, decide_eq_false (show ¬ i < s + (n + 1) by omega)]
            have : (i == s + n) = false := by simpa using h3
            rw [this]; simp
      · rw [decide_eq_false h1]
        have : (i == s + n) = false := by simp; omega
        rw [this]; simp)
    rw [he] at hc
    omega
/-- a free place of a greater order holds so many of a lower one -/
theorem cnt_mark {pg : Nat} {m : Nat → Bool} {o a t : Nat} (hpg : pg ≤ 1024) (hf : frB pg m o a = true) (ht : t ≤ o) : cntB (frB pg (markB m (a * 2 ^ o) o) t) 1024 + 2 ^ (o - t) = cntB (frB pg m t) 1024 := by
  have hp := Nat.two_pow_pos t
  have hq := Nat.two_pow_pos (o - t)
  have he : 2 ^ o = 2 ^ (o - t) * 2 ^ t := by rw [← Nat.pow_add]; congr 1; omega
  have hf' := frB_iff.1 hf
  have hle : a * 2 ^ (o - t) + 2 ^ (o - t) ≤ 1024 := by
    have h1 : (a * 2 ^ (o - t) + 2 ^ (o - t)) * 2 ^ t ≤ pg := by
      have := hf'.1
      rw [place_end, he, ← Nat.mul_assoc, ← Nat.add_mul] at this
      exact this
    have h2 := Nat.mul_le_mul_left (a * 2 ^ (o - t) + 2 ^ (o - t)) hp
    omega
  rw [← cntB_block (f := frB pg m t) (N := 1024) (s := a * 2 ^ (o - t)) (2 ^ (o - t)) hle (fun i h1 h2 => ?_)]
  · refine congrArg (· + 2 ^ (o - t)) (cntB_ext 1024 (fun i _ => ?_))
    rw [frB_mark]
    have e1 : a * 2 ^ o / 2 ^ t = a * 2 ^ (o - t) := by rw [he, ← Nat.mul_assoc, Nat.mul_div_cancel _ hp]
    have e2 : decide (i ≤ (a * 2 ^ o + 2 ^ o - 1) / 2 ^ t) = decide (i < a * 2 ^ (o - t) + 2 ^ (o - t)) := by
      rw [Bool.eq_iff_iff, decide_eq_true_eq, decide_eq_true_eq, Nat.le_div_iff_mul_le hp]
      have e3 : a * 2 ^ o + 2 ^ o = (a * 2 ^ (o - t) + 2 ^ (o - t)) * 2 ^ t := by rw [he, ← Nat.mul_assoc, Nat.add_mul]
      have h1 : 0 < a * 2 ^ o + 2 ^ o := by have := Nat.two_pow_pos o; omega
      constructor
      · intro h
        refine Nat.lt_of_mul_lt_mul_right (a := 2 ^ t) ?_
        rw [← e3]; omega
      · intro h
        have := Nat.mul_le_mul_right (2 ^ t) (Nat.succ_le_of_lt h)
        rw [Nat.succ_mul, ← e3] at this
        omega
    rw [e1, e2]
  · refine frB_iff.2 ⟨?_, fun k hk1 hk2 => hf'.2 k ?_ ?_⟩
    · have h3 := Nat.mul_le_mul_right (2 ^ t) (Nat.succ_le_of_lt h2)
      have h4 : (a * 2 ^ (o - t) + 2 ^ (o - t)) * 2 ^ t = (a + 1) * 2 ^ o := by rw [place_end, he, ← Nat.mul_assoc, Nat.add_mul]
      rw [h4] at h3
      exact Nat.le_trans h3 hf'.1
    · have h3 := Nat.mul_le_mul_right (2 ^ t) h1
      rw [Nat.mul_assoc, ← he] at h3
      omega
    · have h3 := Nat.mul_le_mul_right (2 ^ t) (Nat.succ_le_of_lt h2)
      have h4 : (a * 2 ^ (o - t) + 2 ^ (o - t)) * 2 ^ t = (a + 1) * 2 ^ o := by rw [place_end, he, ← Nat.mul_assoc, Nat.add_mul]
      rw [h4] at h3
      exact Nat.lt_of_lt_of_le hk2 h3
theorem needB_cons (o : Nat) (r : List Nat) (t : Nat) : needB (o :: r) t = (if t ≤ o then 2 ^ (o - t) else 0) + needB r t := by simp [needB]
theorem needB_perm {l l' : List Nat} (h : l.Perm l') (t : Nat) : needB l t = needB l' t := by
  induction h with
  | nil => rfl
  | cons x _ ih => rw [needB_cons, needB_cons, ih]
  | swap x y l => rw [needB_cons, needB_cons, needB_cons, needB_cons]; omega
  | trans _ _ h1 h2 => rw [h1, h2]
theorem holdsB_iff {f : Nat → Nat → Bool} {os : List Nat} : holdsB f os = true ↔ ∀ t, t < 11 → needB os t ≤ cntB (f t) 1024 := by
  unfold holdsB
  simp only [List.all_eq_true, List.mem_range, decide_eq_true_eq]
theorem need_of_pack {pg : Nat} (hpg : pg ≤ 1024) : ∀ (os : List Nat) (m : Nat → Bool) (t : Nat), packB pg m os → needB os t ≤ cntB (frB pg m t) 1024
  | [], _, _, _ => by simp [needB]
  | o :: r, m, t, h => by
    obtain ⟨a, ha, hr⟩ := h
    have ih := need_of_pack hpg r _ t hr
    rw [needB_cons]
    by_cases ht : t ≤ o
    · rw [if_pos ht, ← cnt_mark hpg ha ht]; omega
    · rw [if_neg ht]
      have := cntB_mono (f := frB pg (markB m (a * 2 ^ o) o) t) (g := frB pg m t) 1024 (fun i _ hi => frB_anti (fun k hk => markB_iff.2 (.inl hk)) hi)
      omega
theorem holds_of_pack {pg : Nat} {m : Nat → Bool} {os : List Nat} (hpg : pg ≤ 1024) (h : packB pg m os) : holdsB (frB pg m) os = true := holdsB_iff.2 (fun t _ => need_of_pack hpg os m t h)
theorem exists_max : ∀ (l : List Nat), l ≠ [] → ∃ x, x ∈ l ∧ ∀ y ∈ l, y ≤ x
  | [], h => absurd rfl h
  | [x], _ => ⟨x, by simp, by simp⟩
  | x :: y :: r, _ => by
    obtain ⟨z, hz, hm⟩ := exists_max (y :: r) (by simp)
    by_cases h : z ≤ x
    · exact ⟨x, by simp, fun u hu => by
        rcases List.mem_cons.1 hu with rfl | hu
        · exact Nat.le_refl _
        · exact Nat.le_trans (hm u hu) h⟩
    · exact ⟨z, List.mem_cons_of_mem _ hz, fun u hu => by
        rcases List.mem_cons.1 hu with rfl | hu
        · omega
        · exact hm u hu⟩
theorem needB_zero {os : List Nat} {t : Nat} (h : ∀ o ∈ os, o < t) : needB os t = 0 := by
  induction os with
  | nil => simp [needB]
  | cons x r ih =>
    rw [needB_cons, ih (fun o ho => h o (by simp [ho])), if_neg (by have := h x (by simp); omega)]
theorem pack_of_holds {pg : Nat} (hpg : pg ≤ 1024) : ∀ (n : Nat) (os : List Nat) (m : Nat → Bool), os.length = n → (∀ o ∈ os, o ≤ 10) → holdsB (frB pg m) os = true → packB pg m os
  | 0, os, m, hn, _, _ => by
    obtain rfl := List.eq_nil_of_length_eq_zero hn
    trivial
  | n + 1, os, m, hn, ho, h => by
    have hne : os ≠ [] := by rintro rfl; cases hn
    obtain ⟨o, hmem, hmax⟩ := exists_max os hne
    have hperm := List.perm_cons_erase hmem
    have hh := holdsB_iff.1 h
    have ho10 := ho o hmem
    have h1 := hh o (by omega)
    rw [needB_perm hperm, needB_cons, if_pos (Nat.le_refl _)] at h1
    have hp := Nat.two_pow_pos (o - o)
    obtain ⟨a, _, ha⟩ := cntB_pos (f := frB pg m o) 1024 (by omega)
    refine pack_perm hperm.symm m ⟨a, ha, pack_of_holds hpg n _ _ ?_ (fun x hx => ho x (List.mem_of_mem_erase hx)) (holdsB_iff.2 (fun t ht => ?_))⟩
    · rw [List.length_erase_of_mem hmem, hn]; rfl
    · by_cases hto : t ≤ o
      · have h2 := hh t ht
        rw [needB_perm hperm, needB_cons, if_pos hto, ← cnt_mark hpg ha hto] at h2
        omega
      · rw [needB_zero (fun x hx => by have := hmax x (List.mem_of_mem_erase hx); omega)]; omega
theorem pack_iff {pg : Nat} {m : Nat → Bool} {os : List Nat} (hpg : pg ≤ 1024) (ho : ∀ o ∈ os, o ≤ 10) : holdsB (frB pg m) os = true ↔ packB pg m os := ⟨pack_of_holds hpg _ os m rfl ho, holds_of_pack hpg⟩
/-- moves, each to a place that is free then -/
def stepsB (pg : Nat) (bs : List B3) : (Nat → Bool) → List (Int × Int) → Prop
  | _, [] => True
  | m, mv :: r => ∃ i a : Nat, mv = ((i : Int), ((a * 2 ^ ordB bs i : Nat) : Int)) ∧ frB pg m (ordB bs i) a = true ∧ stepsB pg bs (markB m (a * 2 ^ ordB bs i) (ordB bs i)) r
/-- where the blocks can be placed, each one is -/
theorem greedy_steps {pg : Nat} {bs : List B3} (hpg : pg ≤ 1024) (ho : ∀ i, ordB bs i ≤ 10) : ∀ (l : List Nat) (m : Nat → Bool), holdsB (frB pg m) (l.map (ordB bs)) = true →
    stepsB pg bs m (greedy pg bs m l) ∧ (greedy pg bs m l).map (·.1) = l.map (fun i : Nat => (i : Int))
  | [], _, _ => ⟨trivial, rfl⟩
  | i :: r, m, h => by
    have hp := (pack_iff hpg (fun o hm => by obtain ⟨j, _, rfl⟩ := List.mem_map.1 hm; exact ho j)).1 h
    rw [List.map_cons] at hp
    obtain ⟨a, ha, hr⟩ := hp
    have hh := holds_of_pack hpg hr
    have hs := firstB_spec (fun a => frB pg m (ordB bs i) a && holdsB (frB pg (markB m (a * 2 ^ ordB bs i) (ordB bs i))) (r.map (ordB bs))) (pg / 2 ^ ordB bs i) 0
    rw [greedy]
    unfold pickB
    cases hc : firstB (fun a => frB pg m (ordB bs i) a && holdsB (frB pg (markB m (a * 2 ^ ordB bs i) (ordB bs i))) (r.map (ordB bs))) (pg / 2 ^ ordB bs i) 0 with
    | none =>
      rw [hc] at hs
      have := hs a (by omega) (by rw [Nat.zero_add]; exact frB_lt_div ha)
      rw [ha, hh] at this
      cases this
    | some b =>
      rw [hc] at hs
      obtain ⟨_, _, hb, _⟩ := hs
      rw [Bool.and_eq_true] at hb
      obtain ⟨h1, h2⟩ := greedy_steps hpg ho r _ hb.2
      exact ⟨⟨i, b, rfl, hb.1, h1⟩, by simp only [List.map_cons, h2]⟩
end Go.Pol
