/- The plain laws of Merge: the usages sorted and joined are the reference's sum, size by size; wastes add up. No program in sight. -/
import Derived.Test.YtiohcegkkpeodaaDoorSpecA
namespace Go.Pol
/-- how often a size is requested in all -/
def tm : List (Int × Int) → Int → Int
  | [], _ => 0
  | u :: r, s => (if u.1 = s then u.2 else 0) + tm r s
/-- the first entry of a size -/
def timesF : List (Int × Int) → Int → Int
  | [], _ => 0
  | u :: r, s => if u.1 = s then u.2 else timesF r s
/-- one more entry behind sorted ones: joined to the last one of the same size -/
def mj (out : List (Int × Int)) (x : Int × Int) : List (Int × Int) :=
  match out.getLast? with
  | none => [x]
  | some l => if l.1 = x.1 then out.dropLast ++ [(l.1, l.2 + x.2)] else out ++ [x]
theorem mj_nil (x : Int × Int) : mj [] x = [x] := rfl
theorem mj_snoc (pre : List (Int × Int)) (l x : Int × Int) : mj (pre ++ [l]) x = if l.1 = x.1 then pre ++ [(l.1, l.2 + x.2)] else pre ++ [l] ++ [x] := by simp [mj]
def mjF (us : List (Int × Int)) : List (Int × Int) := us.foldl mj []
theorem mjF_snoc (us : List (Int × Int)) (x : Int × Int) : mjF (us ++ [x]) = mj (mjF us) x := by simp [mjF]
def bigU (us : List (Int × Int)) : Bool := us.any fun u => decide (1000000 < u.2)
theorem bigU_snoc (pre : List (Int × Int)) (l : Int × Int) : bigU (pre ++ [l]) = (bigU pre || decide (1000000 < l.2)) := by simp [bigU]
theorem tm_append (us vs : List (Int × Int)) (s : Int) : tm (us ++ vs) s = tm us s + tm vs s := by
  induction us with
  | nil => simp [tm]
  | cons u r ih => simp only [List.cons_append, tm, ih]; omega
theorem tm_perm {us vs : List (Int × Int)} (h : us.Perm vs) (s : Int) : tm us s = tm vs s := by
  induction h with
  | nil => rfl
  | cons x _ ih => simp only [tm, ih]
  | swap x y l => simp only [tm]; omega
  | trans _ _ h1 h2 => exact h1.trans h2
/-- the sizes ascend -/
def asc (us : List (Int × Int)) : Prop := us.Pairwise (fun a b => a.1 < b.1)
theorem asc_snoc {us : List (Int × Int)} {x : Int × Int} : asc (us ++ [x]) ↔ asc us ∧ ∀ y ∈ us, y.1 < x.1 := by
  unfold asc
  rw [List.pairwise_append]
  simp
theorem mj_law {L : List (Int × Int)} {x : Int × Int} (hA : asc L) (hle : ∀ y ∈ L, y.1 ≤ x.1) : asc (mj L x) ∧ (∀ s, tm (mj L x) s = tm L s + if x.1 = s then x.2 else 0) ∧ (∀ y ∈ mj L x, y.1 ≤ x.1 ∧ (y.1 = x.1 ∨ ∃ z ∈ L, z.1 = y.1)) := by
  rcases List.eq_nil_or_concat L with rfl | ⟨pre, l, rfl⟩
  · rw [mj_nil]
    refine ⟨by simp [asc], fun s => by simp [tm], fun y hy => ?_⟩
    simp only [List.mem_singleton] at hy
    subst hy
    exact ⟨Int.le_refl _, .inl rfl⟩
  · rw [List.concat_eq_append] at *
    rw [mj_snoc]
    have hlx := hle l (by simp)
    have ha := asc_snoc.1 hA
    by_cases h : l.1 = x.1
    · rw [if_pos h]
      refine ⟨asc_snoc.2 ha, fun s => ?_, fun y hy => ?_⟩
      · rw [tm_append, tm_append]
        simp only [tm, h]
        split <;> omega
      · rcases List.mem_append.1 hy with h1 | h1
        · exact ⟨hle y (by simp [h1]), .inr ⟨y, by simp [h1], rfl⟩⟩
        · simp only [List.mem_singleton] at h1
          subst h1
          exact ⟨by simp only; omega, .inl h⟩
    · rw [if_neg h]
      refine ⟨asc_snoc.2 ⟨hA, fun y hy => ?_⟩, fun s => ?_, fun y hy => ?_⟩
      · rcases List.mem_append.1 hy with h1 | h1
        · have := ha.2 y h1; omega
        · simp only [List.mem_singleton] at h1
          subst h1; omega
      · rw [tm_append (pre ++ [l])]
        simp [tm]
      · rcases List.mem_append.1 hy with h1 | h1
        · exact ⟨hle y h1, .inr ⟨y, h1, rfl⟩⟩
        · simp only [List.mem_singleton] at h1
          subst h1
          exact ⟨Int.le_refl _, .inl rfl⟩
/-- what joining keeps of all entries, if each entry and each sum of two has it -/
theorem mj_all {p : Int × Int → Prop} {L : List (Int × Int)} {x : Int × Int} (hL : ∀ y ∈ L, p y) (hx : p x) (ha : ∀ y, p y → y.1 = x.1 → p (y.1, y.2 + x.2)) : ∀ y ∈ mj L x, p y := by
  rcases List.eq_nil_or_concat L with rfl | ⟨pre, l, rfl⟩
  · rw [mj_nil]; simpa using hx
  · rw [List.concat_eq_append] at *
    rw [mj_snoc]
    split
    · rename_i h
      intro y hy
      rcases List.mem_append.1 hy with h1 | h1
      · exact hL y (by simp [h1])
      · simp only [List.mem_singleton] at h1
        subst h1
        exact ha l (hL l (by simp)) h
    · intro y hy
      rcases List.mem_append.1 hy with h1 | h1
      · exact hL y h1
      · simp only [List.mem_singleton] at h1
        subst h1; exact hx
theorem mj_len (L : List (Int × Int)) (x : Int × Int) : (mj L x).length ≤ L.length + 1 := by
  rcases List.eq_nil_or_concat L with rfl | ⟨pre, l, rfl⟩
  · simp [mj_nil]
  · rw [List.concat_eq_append, mj_snoc]
    split <;> simp
theorem foldl_mj : ∀ (us L done : List (Int × Int)), asc L → (∀ s, tm L s = tm done s) → (∀ y ∈ L, ∃ u ∈ done, u.1 = y.1) → (∀ a ∈ done, ∀ b ∈ us, a.1 ≤ b.1) → us.Pairwise (fun a b => a.1 ≤ b.1) →
    asc (us.foldl mj L) ∧ (∀ s, tm (us.foldl mj L) s = tm (done ++ us) s) ∧ ∀ y ∈ us.foldl mj L, ∃ u ∈ done ++ us, u.1 = y.1
  | [], L, done, hA, ht, hf, _, _ => ⟨hA, by simpa using ht, by simpa using hf⟩
  | x :: us, L, done, hA, ht, hf, hle, hp => by
    obtain ⟨h1, h2, h3⟩ := mj_law (x := x) hA (fun y hy => by
      obtain ⟨u, hu, e⟩ := hf y hy
      have := hle u hu x (by simp)
      omega)
    have hp' := List.pairwise_cons.1 hp
    have h := foldl_mj us (mj L x) (done ++ [x]) h1 (fun s => by rw [h2, ht, tm_append]; simp [tm]) (fun y hy => by
      rcases (h3 y hy).2 with e | ⟨z, hz, e⟩
      · exact ⟨x, by simp, e.symm⟩
      · obtain ⟨u, hu, e'⟩ := hf z hz
        exact ⟨u, by simp [hu], by omega⟩) (fun a ha b hb => by
      rcases List.mem_append.1 ha with h | h
      · exact hle a h b (by simp [hb])
      · simp only [List.mem_singleton] at h
        subst h; exact hp'.1 b hb) hp'.2
    refine ⟨h.1, fun s => ?_, fun y hy => ?_⟩
    · rw [List.foldl_cons, h.2.1 s, List.append_assoc]; rfl
    · obtain ⟨u, hu, e⟩ := h.2.2 y hy
      exact ⟨u, by simpa using hu, e⟩
theorem mjF_law {us : List (Int × Int)} (hp : us.Pairwise (fun a b => a.1 ≤ b.1)) : asc (mjF us) ∧ (∀ s, tm (mjF us) s = tm us s) ∧ ∀ y ∈ mjF us, ∃ u ∈ us, u.1 = y.1 := by
  have h := foldl_mj us [] [] (by simp [asc]) (fun _ => rfl) (by simp) (by simp) hp
  exact ⟨h.1, fun s => h.2.1 s, fun y hy => h.2.2 y hy⟩
/-- what joining keeps, over a whole list -/
theorem mjF_all {p : Int × Int → Prop} (ha : ∀ y x, p y → p x → y.1 = x.1 → p (y.1, y.2 + x.2)) : ∀ (us L : List (Int × Int)), (∀ y ∈ L, p y) → (∀ y ∈ us, p y) → ∀ y ∈ us.foldl mj L, p y
  | [], _, hL, _ => hL
  | x :: us, L, hL, hu => by
    rw [List.foldl_cons]
    exact mjF_all ha us (mj L x) (mj_all hL (hu x (by simp)) (fun y hy e => ha y x hy (hu x (by simp)) e)) (fun y hy => hu y (by simp [hy]))
/-- a sum over the entries, in the times -/
def wsum (w : Int → Int) : List (Int × Int) → Int
  | [] => 0
  | u :: r => w u.1 * u.2 + wsum w r
theorem wsum_append (w : Int → Int) (us vs : List (Int × Int)) : wsum w (us ++ vs) = wsum w us + wsum w vs := by
  induction us with
  | nil => simp [wsum]
  | cons u r ih => simp only [List.cons_append, wsum, ih]; omega
theorem wsum_perm (w : Int → Int) {us vs : List (Int × Int)} (h : us.Perm vs) : wsum w us = wsum w vs := by
  induction h with
  | nil => rfl
  | cons x _ ih => simp only [wsum, ih]
  | swap x y l => simp only [wsum]; omega
  | trans _ _ h1 h2 => exact h1.trans h2
theorem wsum_mj (w : Int → Int) (L : List (Int × Int)) (x : Int × Int) : wsum w (mj L x) = wsum w L + w x.1 * x.2 := by
  rcases List.eq_nil_or_concat L with rfl | ⟨pre, l, rfl⟩
  · simp [mj_nil, wsum]
  · rw [List.concat_eq_append, mj_snoc]
    split
    · rename_i h
      rw [wsum_append, wsum_append]
      simp only [wsum, h, Int.mul_add]
      omega
    · rw [wsum_append (us := pre ++ [l])]
      simp [wsum]
theorem wsum_mjF (w : Int → Int) : ∀ (us L : List (Int × Int)), wsum w (us.foldl mj L) = wsum w L + wsum w us
  | [], L => by simp [wsum]
  | x :: us, L => by rw [List.foldl_cons, wsum_mjF w us, wsum_mj]; simp only [wsum]; omega
theorem tm_zero {L : List (Int × Int)} {s : Int} (h : ∀ y ∈ L, y.1 ≠ s) : tm L s = 0 := by
  induction L with
  | nil => rfl
  | cons u r ih =>
    rw [tm, if_neg (h u (by simp)), ih (fun y hy => h y (by simp [hy]))]; rfl
theorem asc_mem {L : List (Int × Int)} (h : asc L) {x : Int × Int} (hx : x ∈ L) : tm L x.1 = x.2 := by
  induction L with
  | nil => simp at hx
  | cons u r ih =>
    have hp := List.pairwise_cons.1 h
    rw [tm]
    rcases List.mem_cons.1 hx with rfl | hx'
    · rw [if_pos rfl, tm_zero (fun y hy => by have := hp.1 y hy; omega)]; omega
    · have := hp.1 x hx'
      rw [if_neg (by omega), ih hp.2 hx']; omega
theorem mem_of_tm {L : List (Int × Int)} {s : Int} (h : asc L) (ht : tm L s ≠ 0) : (s, tm L s) ∈ L := by
  induction L with
  | nil => exact absurd rfl ht
  | cons u r ih =>
    have hp := List.pairwise_cons.1 h
    by_cases e : u.1 = s
    · have h0 : tm r s = 0 := tm_zero (fun y hy => by have := hp.1 y hy; omega)
      rw [tm, if_pos e, h0]
      subst e
      simp
    · rw [tm, if_neg e] at ht ⊢
      rw [Int.zero_add] at ht ⊢
      exact List.mem_cons_of_mem _ (ih hp.2 ht)
theorem timesF_asc {L : List (Int × Int)} (h : asc L) (s : Int) : timesF L s = tm L s := by
  induction L with
  | nil => rfl
  | cons u r ih =>
    have hp := List.pairwise_cons.1 h
    rw [tm, timesF]
    split
    · rename_i e
      rw [tm_zero (fun y hy => by have := hp.1 y hy; omega)]; omega
    · rw [ih hp.2]; omega
theorem asc_ext : ∀ {L M : List (Int × Int)}, asc L → asc M → (∀ x, x ∈ L ↔ x ∈ M) → L = M
  | [], [], _, _, _ => rfl
  | [], y :: M, _, _, h => absurd ((h y).2 (by simp)) (by simp)
  | x :: L, [], _, _, h => absurd ((h x).1 (by simp)) (by simp)
  | x :: L, y :: M, hL, hM, h => by
    have hl := List.pairwise_cons.1 hL
    have hm := List.pairwise_cons.1 hM
    have e : x = y := by
      rcases List.mem_cons.1 ((h x).1 (by simp)) with e | hx
      · exact e
      · rcases List.mem_cons.1 ((h y).2 (by simp)) with e | hy
        · exact e.symm
        · have h1 := hl.1 y hy
          have h2 := hm.1 x hx
          omega
    subst e
    rw [asc_ext hl.2 hm.2 fun z => ?_]
    constructor
    · intro hz
      rcases List.mem_cons.1 ((h z).1 (by simp [hz])) with e | h'
      · subst e; have := hl.1 z hz; omega
      · exact h'
    · intro hz
      rcases List.mem_cons.1 ((h z).2 (by simp [hz])) with e | h'
      · subst e; have := hm.1 z hz; omega
      · exact h'
/-- the reference's list: size by size -/
def refL (us vs : List (Int × Int)) : Nat → List (Int × Int)
  | 0 => []
  | k + 1 => if 0 < timesF us ((k : Int) + 1) + timesF vs ((k : Int) + 1) then refL us vs k ++ [((k : Int) + 1, timesF us ((k : Int) + 1) + timesF vs ((k : Int) + 1))] else refL us vs k
theorem refL_len (us vs : List (Int × Int)) : ∀ k, (refL us vs k).length ≤ k
  | 0 => Nat.le_refl _
  | k + 1 => by have := refL_len us vs k; unfold refL; split <;> simp <;> omega
theorem refL_mem (us vs : List (Int × Int)) : ∀ k x, x ∈ refL us vs k ↔ 1 ≤ x.1 ∧ x.1 ≤ k ∧ x.2 = timesF us x.1 + timesF vs x.1 ∧ 0 < x.2
  | 0, x => by simp [refL]; omega
  | k + 1, x => by
    have ih := refL_mem us vs k x
    obtain ⟨a, b⟩ := x
    unfold refL
    split
    · rename_i h
      rw [List.mem_append, ih, List.mem_singleton]
      simp only [Prod.mk.injEq]
      constructor
      · rintro (⟨h1, h2, h3, h4⟩ | ⟨rfl, rfl⟩)
        · exact ⟨h1, by omega, h3, h4⟩
        · exact ⟨by omega, by omega, rfl, h⟩
      · rintro ⟨h1, h2, h3, h4⟩
        by_cases e : a = (k : Int) + 1
        · subst e; exact .inr ⟨rfl, h3⟩
        · exact .inl ⟨h1, by omega, h3, h4⟩
    · rename_i h
      rw [ih]
      constructor
      · rintro ⟨h1, h2, h3, h4⟩; exact ⟨h1, by simp at h2 ⊢; omega, h3, h4⟩
      · rintro ⟨h1, h2, h3, h4⟩
        by_cases e : a = (k : Int) + 1
        · subst e; simp only at h3 h4; omega
        · exact ⟨h1, by simp at h2 ⊢; omega, h3, h4⟩
theorem refL_asc (us vs : List (Int × Int)) : ∀ k, asc (refL us vs k)
  | 0 => by simp [refL, asc]
  | k + 1 => by
    have ih := refL_asc us vs k
    unfold refL
    split
    · exact asc_snoc.2 ⟨ih, fun y hy => by have := (refL_mem us vs k y).1 hy; simp only; omega⟩
    · exact ih
theorem okU_asc {us : List (Int × Int)} (h : okU us) : asc us := by
  have hd : ∀ (d k : Nat), k + d + 1 < us.length → (us.getD k (0,0)).1 < (us.getD (k + d + 1) (0,0)).1 := by
    intro d
    induction d with
    | zero => intro k hk; have := (h.at_ (k + 1) hk).2.2.2.2; simpa [prevU] using this
    | succ d ih =>
      intro k hk
      have h1 := ih k (by omega)
      have := (h.at_ (k + (d + 1) + 1) hk).2.2.2.2
      simp only [prevU, if_neg (show ¬ k + (d + 1) + 1 = 0 by omega), Nat.add_sub_cancel] at this
      rw [show k + (d + 1) = k + d + 1 by omega] at this ⊢
      omega
  unfold asc
  rw [List.pairwise_iff_getElem]
  intro i j hi hj hij
  have := hd (j - i - 1) i (by omega)
  rw [show i + (j - i - 1) + 1 = j by omega] at this
  simpa [List.getD_eq_getElem?_getD, hi, hj] using this
theorem okU_mem {us : List (Int × Int)} (h : okU us) {u : Int × Int} (hu : u ∈ us) : 1 ≤ u.1 ∧ u.1 ≤ 4096 ∧ 1 ≤ u.2 ∧ u.2 ≤ 1000000 := by
  obtain ⟨i, hi, rfl⟩ := List.getElem_of_mem hu
  have := h.at_ i hi
  simp only [List.getD_eq_getElem?_getD, List.getElem?_eq_getElem hi, Option.getD_some] at this
  exact ⟨this.1, this.2.1, this.2.2.1, this.2.2.2.1⟩
/-- the usages sorted and joined: the sum, size by size -/
theorem mjF_ref {us vs p : List (Int × Int)} (hU : okU us) (hV : okU vs) (hp : p.Perm (us ++ vs)) (hs : p.Pairwise (fun a b => a.1 ≤ b.1)) : mjF p = refL us vs 4096 := by
  obtain ⟨h1, h2, h3⟩ := mjF_law hs
  have hin : ∀ u ∈ p, 1 ≤ u.1 ∧ u.1 ≤ 4096 ∧ 1 ≤ u.2 := fun u hu => by
    rcases List.mem_append.1 (hp.mem_iff.1 hu) with h | h
    · have := okU_mem hU h; omega
    · have := okU_mem hV h; omega
  have hpos : ∀ y ∈ mjF p, 1 ≤ y.2 := mjF_all (p := fun y => 1 ≤ y.2) (fun y x hy hx _ => by simp only; omega) p [] (by simp) (fun y hy => (hin y hy).2.2)
  have ht : ∀ s, tm (mjF p) s = timesF us s + timesF vs s := fun s => by rw [h2, tm_perm hp, tm_append, timesF_asc (okU_asc hU), timesF_asc (okU_asc hV)]
  refine asc_ext h1 (refL_asc us vs 4096) fun x => ?_
  rw [refL_mem]
  constructor
  · intro hx
    obtain ⟨u, hu, e⟩ := h3 x hx
    have := hin u hu
    have hxt := asc_mem h1 hx
    have hxp := hpos x hx
    exact ⟨by omega, by omega, by rw [← ht, hxt], by omega⟩
  · rintro ⟨_, _, h3, h4⟩
    obtain ⟨a, b⟩ := x
    simp only at h3 h4
    rw [← ht] at h3
    have := mem_of_tm h1 (s := a) (by omega)
    rwa [← h3] at this
/-- Merge: the entries, and the error -/
def mergeT (us vs : List (Int × Int)) : List (Int × Int) × Int :=
  if chkU us = 0 then if chkU vs = 0 then if 200 < (refL us vs 4096).length then ([], 3) else if bigU (refL us vs 4096) = true then ([], 7) else (refL us vs 4096, 0) else ([], chkU vs) else ([], chkU us)
theorem chkUL_of : ∀ (us : List (Int × Int)) (last : Int), (∀ y ∈ us, isUse y = true) → (∀ y ∈ us, last < y.1) → asc us → chkUL last us = 0
  | [], _, _, _, _ => rfl
  | u :: r, last, h1, h2, h3 => by
    have hp := List.pairwise_cons.1 h3
    have hl := h2 u (by simp)
    rw [chkUL, if_neg (by rw [h1 u (by simp)]; simp), if_neg (by omega)]
    exact chkUL_of r u.1 (fun y hy => h1 y (by simp [hy])) hp.1 hp.2
/-- a merge without an error is a usage without one -/
theorem mergeT_ok {us vs : List (Int × Int)} (h : (mergeT us vs).2 = 0) : okU us ∧ okU vs ∧ mergeT us vs = (refL us vs 4096, 0) ∧ chkU (refL us vs 4096) = 0 := by
  unfold mergeT at h
  by_cases h1 : chkU us = 0
  · rw [if_pos h1] at h
    by_cases h2 : chkU vs = 0
    · rw [if_pos h2] at h
      by_cases h3 : 200 < (refL us vs 4096).length
      · rw [if_pos h3] at h; simp at h
      · rw [if_neg h3] at h
        by_cases h4 : bigU (refL us vs 4096) = true
        · rw [if_pos h4] at h; simp at h
        · refine ⟨chkU_ok h1, chkU_ok h2, by unfold mergeT; rw [if_pos h1, if_pos h2, if_neg h3, if_neg h4], ?_⟩
          unfold chkU
          rw [if_neg h3]
          refine chkUL_of _ 0 (fun y hy => ?_) (fun y hy => ?_) (refL_asc us vs 4096)
          · have hm := (refL_mem us vs 4096 y).1 hy
            have hb : ¬ 1000000 < y.2 := fun hb => h4 (by unfold bigU; rw [List.any_eq_true]; exact ⟨y, hy, by simpa using hb⟩)
            have := hm.2.1
            exact isUse_iff.2 ⟨hm.1, by omega, by omega, by omega⟩
          · have hm := (refL_mem us vs 4096 y).1 hy
            omega
    · rw [if_neg h2] at h; exact absurd h h2
  · rw [if_neg h1] at h; exact absurd h h1
/-- whether an entry has become too great: as the program keeps it -/
def bigStep (L : List (Int × Int)) (g : Bool) (x : Int × Int) : Bool :=
  match L.getLast? with
  | none => g
  | some l => if l.1 = x.1 then g || decide (1000000 < l.2 + x.2) else g
theorem bigStep_law {L : List (Int × Int)} {x : Int × Int} (hx : 1 ≤ x.2 ∧ x.2 ≤ 1000000) : bigStep L (bigU L) x = bigU (mj L x) := by
  rcases List.eq_nil_or_concat L with rfl | ⟨pre, l, rfl⟩
  · simp [bigStep, mj_nil, bigU]; omega
  · rw [List.concat_eq_append, mj_snoc]
    simp only [bigStep, List.getLast?_append, List.getLast?_singleton, Option.some_or]
    split
    · rw [bigU_snoc, bigU_snoc]
      simp only
      by_cases h : 1000000 < l.2
      · have : 1000000 < l.2 + x.2 := by omega
        simp [h, this]
      · simp [h]
    · rw [bigU_snoc (pre ++ [l])]
      have : ¬ 1000000 < x.2 := by omega
      simp [this]
end Go.Pol
