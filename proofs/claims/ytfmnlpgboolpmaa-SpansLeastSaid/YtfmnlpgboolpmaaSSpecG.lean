/- Plain laws: the places of First and Best are places; none lies before that of First, nor in a smaller span than that of Best. -/
import Derived.Test.YtfmnlpgboolpmaaSSpecF
import Derived.Test.YtfmnlpgboolpmaaGWalkH
import Derived.Test.YtfmnlpgboolpmaaGSpecC
namespace Go.Proofs.Ytfmnlpgboolpmaa
open Go Go.Proofs Go.RowKit Go.Pol
/-- all pages of a run in a set lie in one span of it -/
theorem skip_span : ∀ (us : List Sp) (p : Int), p < skipF p us → ∃ x ∈ us, x.1 ≤ p ∧ p < x.1 + x.2 ∧ skipF p us = x.1 + x.2
  | [], p, h => by simp [skipF] at h
  | x :: r, p, h => by
    rw [skipF] at h ⊢
    by_cases h1 : x.1 ≤ p ∧ p < x.1 + x.2
    · rw [if_pos h1]; exact ⟨x, by simp, h1.1, h1.2, rfl⟩
    · rw [if_neg h1] at h ⊢
      obtain ⟨y, hy, h2⟩ := skip_span r p h
      exact ⟨y, by simp [hy], h2⟩
theorem run_span {us : List Sp} (hu : Go.Pol.Can us) {p n : Int} (hn : 1 ≤ n) (h : ∀ q, p ≤ q → q < p + n → mem q us = true) : ∃ x ∈ us, x.1 ≤ p ∧ p + n ≤ x.1 + x.2 := by
  obtain ⟨s1, s2, s3⟩ := skipF_ok us p (-1) (fun x hx => (vld_iff.1 (hu.1 x hx)).2.2.1) hu.2
  have h1 : p + n ≤ skipF p us := by
    by_cases h2 : p + n ≤ skipF p us
    · exact h2
    · have := h (skipF p us) s1 (by omega)
      rw [s3] at this; cases this
  obtain ⟨x, hx, h2, h3, h4⟩ := skip_span us p (by omega)
  exact ⟨x, hx, h2, by omega⟩
theorem span_run {us : List Sp} {p n : Int} {x : Sp} (hx : x ∈ us) (h1 : x.1 ≤ p) (h2 : p + n ≤ x.1 + x.2) (q : Int) (h3 : p ≤ q) (h4 : q < p + n) : mem q us = true :=
  List.any_eq_true.2 ⟨x, hx, by simp; omega⟩
/-- is that a place? -/
def placeT (us : List Sp) (p m al : Int) : Bool := decide (0 ≤ p ∧ p < 1024 ∧ 1 ≤ m ∧ m ≤ 1024 - p ∧ 1 ≤ al ∧ p % al = 0) && (decide (askS us (p, m) = 0) && (gapsF us (p, m)).isEmpty)
/-- how many pages the span with a page has -/
def withinF (p : Int) : List Sp → Int
  | [] => 0
  | x :: r => if x.1 ≤ p ∧ p - x.1 < x.2 then x.2 else withinF p r
theorem placeT_iff {us : List Sp} (hu : Go.Pol.Can us) {p m al : Int} : placeT us p m al = true ↔ (0 ≤ p ∧ p < 1024 ∧ 1 ≤ m ∧ m ≤ 1024 - p ∧ 1 ≤ al ∧ p % al = 0) ∧ ∃ x ∈ us, x.1 ≤ p ∧ p + m ≤ x.1 + x.2 := by
  unfold placeT
  rw [Bool.and_eq_true, decide_eq_true_eq]
  constructor
  · rintro ⟨h1, h2⟩
    refine ⟨h1, ?_⟩
    have hv : vld (p, m) = true := vld_iff.2 ⟨h1.1, h1.2.1, h1.2.2.1, h1.2.2.2.1⟩
    rw [Bool.and_eq_true] at h2
    have h3 := h2.2
    obtain ⟨hg, hm⟩ := hu.gaps hv
    refine run_span hu h1.2.2.1 (fun q h4 h5 => ?_)
    cases hq : mem q us with
    | true => rfl
    | false =>
      have h6 := (hm q).2 ⟨⟨h4, h5⟩, hq⟩
      rw [List.isEmpty_iff.1 h3] at h6
      cases h6
  · rintro ⟨h1, x, hx, h2, h3⟩
    refine ⟨h1, ?_⟩
    have hv : vld (p, m) = true := vld_iff.2 ⟨h1.1, h1.2.1, h1.2.2.1, h1.2.2.2.1⟩
    have ha : askS us (p, m) = 0 := by rw [askS, if_pos (chkS_zero.2 hu), if_pos hv]
    rw [decide_eq_true ha, Bool.true_and]
    obtain ⟨hg, hm⟩ := hu.gaps hv
    cases hG : gapsF us (p, m) with
    | nil => rfl
    | cons y r =>
      exfalso
      have hy := vld_iff.1 (hg.1 y (by rw [hG]; simp))
      have h4 : mem y.1 (gapsF us (p, m)) = true := by rw [hG]; exact mem_cons'.2 (.inl (by omega))
      have h5 := (hm y.1).1 h4
      have h6 := span_run hx h2 h3 y.1 h5.1.1 h5.1.2
      rw [h6] at h5; cases h5.2
theorem within_eq : ∀ {us : List Sp} {e p : Int} {x : Sp}, formOk e us = true → (∀ y ∈ us, 1 ≤ y.2) → x ∈ us → x.1 ≤ p → p < x.1 + x.2 → withinF p us = x.2
  | [], _, _, _, _, _, h, _, _ => by cases h
  | y :: r, e, p, x, hf, hw, hx, h1, h2 => by
    have hf' := formOk_cons.1 hf
    have hwr : ∀ z ∈ r, 1 ≤ z.2 := fun z hz => hw z (by simp [hz])
    rw [withinF]
    rcases List.mem_cons.1 hx with rfl | hr
    · rw [if_pos ⟨h1, by omega⟩]
    · have hmem : mem x.1 r = true := List.any_eq_true.2 ⟨x, hr, by have := hwr x hr; simp; omega⟩
      have := mem_lt hf'.2 (fun z hz => by have := hwr z hz; omega) hmem
      rw [if_neg (by omega)]
      exact within_eq hf'.2 hwr hr h1 h2
theorem mem_places {us : List Sp} {pages align : Int} {u : Int} {x : Sp} : (u, x) ∈ placesF us pages align ↔ x ∈ us ∧ u = upP align x.1 ∧ upP align x.1 + pages ≤ x.1 + x.2 := by
  unfold placesF
  rw [List.mem_filterMap]
  constructor
  · rintro ⟨y, hy, h⟩
    unfold placeX at h
    split at h
    · rename_i h1
      simp only [Option.some.injEq, Prod.mk.injEq] at h
      obtain ⟨rfl, rfl⟩ := h
      exact ⟨hy, rfl, h1⟩
    · cases h
  · rintro ⟨hx, rfl, h⟩
    exact ⟨x, hx, by rw [placeX, if_pos h]⟩
/-- what Best's fold is: the first of the smallest -/
theorem bestG_ok : ∀ (l : List (Int × Sp)) (s : Int × Int), (∀ y ∈ l, s.2 ≤ (l.foldl stB s).2 → True) ∧ (l.foldl stB s).2 ≤ s.2 ∧ (∀ y ∈ l, (l.foldl stB s).2 ≤ y.2.2) ∧ (l.foldl stB s = s ∨ ∃ y ∈ l, l.foldl stB s = (y.1, y.2.2))
  | [], s => ⟨fun _ _ _ => trivial, by simp, by simp, .inl rfl⟩
  | x :: r, s => by
    obtain ⟨_, h1, h2, h3⟩ := bestG_ok r (stB s x)
    have hs : (stB s x).2 ≤ s.2 ∧ (stB s x).2 ≤ x.2.2 ∧ (stB s x = s ∨ stB s x = (x.1, x.2.2)) := by
      unfold stB
      split
      · rename_i h; exact ⟨by simp only; omega, by simp, .inr rfl⟩
      · rename_i h; exact ⟨by omega, by omega, .inl rfl⟩
    rw [List.foldl_cons]
    refine ⟨fun _ _ _ => trivial, by omega, fun y hy => ?_, ?_⟩
    · rcases List.mem_cons.1 hy with rfl | hy
      · omega
      · exact h2 y hy
    · rcases h3 with h | ⟨y, hy, h⟩
      · rw [h]
        rcases hs.2.2 with h4 | h4
        · exact .inl h4
        · exact .inr ⟨x, by simp, h4⟩
      · exact .inr ⟨y, by simp [hy], h⟩
/-- the places of First and Best -/
structure LeastF (us : List Sp) (m al a b : Int) : Prop where
  atA : placeT us a m al = true
  atB : placeT us b m al = true
  low : ∀ p, placeT us p m al = true → a ≤ p ∧ withinF b us ≤ withinF p us
theorem least_some {us : List Sp} {m al : Int} (h0 : placeE us m al = 0) (hne : placesF us m al ≠ []) : (firstF us m al).2 = 0 ∧ (bestF us m al).2 = 0 ∧ LeastF us m al (firstF us m al).1 (bestF us m al).1 := by
  obtain ⟨hu, hm0, hm1, ha0, ha1, _⟩ := placeE_zero h0
  have hw : ∀ y ∈ us, 1 ≤ y.2 := fun y hy => (vld_iff.1 (hu.1 y hy)).2.2.1
  have good : ∀ u x, (u, x) ∈ placesF us m al → placeT us u m al = true := fun u x hx => by
    obtain ⟨h1, rfl, h3⟩ := mem_places.1 hx
    have hv := vld_iff.1 (hu.1 x h1)
    have hup := upP_ok (a := x.1) ha0
    exact (placeT_iff hu).2 ⟨⟨by omega, by omega, hm0, by omega, ha0, upP_mult⟩, x, h1, hup.1, h3⟩
  have back : ∀ p, placeT us p m al = true → ∃ x, (upP al x.1, x) ∈ placesF us m al ∧ x.1 ≤ p ∧ p < x.1 + x.2 ∧ upP al x.1 ≤ p := fun p hp => by
    obtain ⟨h1, x, hx, h2, h3⟩ := (placeT_iff hu).1 hp
    have hup := upP_least ha0 h2 h1.2.2.2.2.2
    exact ⟨x, mem_places.2 ⟨hx, rfl, by omega⟩, h2, by omega, hup⟩
  -- the order of the places
  have hsort : (placesF us m al).Pairwise (fun y z => y.1 ≤ z.1) := by
    have hp : us.Pairwise (fun y z => y.1 + y.2 < z.1) := by
      have : ∀ (l : List Sp) (e : Int), formOk e l = true → (∀ y ∈ l, 1 ≤ y.2) → l.Pairwise (fun y z => y.1 + y.2 < z.1) := fun l => by
        induction l with
        | nil => intro _ _ _; exact List.Pairwise.nil
        | cons y r ih =>
          intro e hf hw
          have hf' := formOk_cons.1 hf
          have hwr : ∀ z ∈ r, 1 ≤ z.2 := fun z hz => hw z (by simp [hz])
          refine List.Pairwise.cons (fun z hz => ?_) (ih _ hf'.2 hwr)
          exact mem_lt hf'.2 (fun z hz => by have := hwr z hz; omega) (List.any_eq_true.2 ⟨z, hz, by have := hwr z hz; simp; omega⟩)
      exact this us (-1) hu.2 hw
    unfold placesF
    refine List.Pairwise.filterMap _ ?_ hp
    intro y z hyz u hu2 v hv2
    unfold placeX at hu2 hv2
    split at hu2
    · rename_i h1
      split at hv2
      · simp only [Option.some.injEq] at hu2 hv2
        subst hu2; subst hv2
        have := (upP_ok (a := z.1) ha0).1
        simp only
        omega
      · cases hv2
    · cases hu2
  obtain ⟨y, r, hL⟩ : ∃ y r, placesF us m al = y :: r := by
    cases h : placesF us m al with
    | nil => exact absurd h hne
    | cons y r => exact ⟨y, r, rfl⟩
  have hy : y ∈ placesF us m al := by rw [hL]; simp
  have eF : firstF us m al = (y.1, 0) := by rw [firstF, if_pos h0, hL]; rfl
  obtain ⟨_, b1, b2, b3⟩ := bestG_ok (placesF us m al) (-1, 1025)
  change (bestG (placesF us m al)).2 ≤ _ at b1
  change ∀ y ∈ placesF us m al, (bestG (placesF us m al)).2 ≤ y.2.2 at b2
  change bestG (placesF us m al) = _ ∨ ∃ y ∈ placesF us m al, bestG (placesF us m al) = (y.1, y.2.2) at b3
  obtain ⟨z, hz, hbz⟩ : ∃ z ∈ placesF us m al, bestG (placesF us m al) = (z.1, z.2.2) := by
    rcases b3 with h | h
    · have h2 := b2 y hy
      obtain ⟨h3, _, _⟩ := mem_places.1 (show (y.1, y.2) ∈ placesF us m al from hy)
      have := (vld_iff.1 (hu.1 y.2 h3))
      rw [h] at h2
      simp only at h2
      omega
    · exact h
  obtain ⟨hz1, hz2, hz3⟩ := mem_places.1 (show (z.1, z.2) ∈ placesF us m al from hz)
  have hzv := vld_iff.1 (hu.1 z.2 hz1)
  have hzu := upP_ok (a := z.2.1) ha0
  have eB : bestF us m al = (z.1, 0) := by rw [bestF, if_pos h0, hbz, endB, if_neg (by simp only; omega)]
  rw [eF, eB]
  refine ⟨rfl, rfl, good y.1 y.2 hy, good z.1 z.2 hz, fun p hp => ?_⟩
  obtain ⟨x, hx, h1, h2, h3⟩ := back p hp
  obtain ⟨hx1, _, _⟩ := mem_places.1 hx
  constructor
  · rw [hL] at hx hsort
    rcases List.mem_cons.1 hx with h | h
    · rw [← h]; exact h3
    · have := (List.pairwise_cons.1 hsort).1 _ h
      simp only at this
      exact Int.le_trans this h3
  · rw [within_eq hu.2 hw hx1 h1 h2, within_eq (x := z.2) hu.2 hw hz1 (by omega) (by omega)]
    have := b2 _ hx
    rw [hbz] at this
    exact this
theorem least_none {us : List Sp} {m al : Int} (h0 : placeE us m al = 0) (hne : placesF us m al = []) : firstF us m al = (0, 4) ∧ bestF us m al = (0, 4) ∧ ∀ p, placeT us p m al = false := by
  obtain ⟨hu, hm0, hm1, ha0, ha1, _⟩ := placeE_zero h0
  refine ⟨by rw [firstF, if_pos h0, hne]; rfl, by rw [bestF, if_pos h0, hne]; rfl, fun p => ?_⟩
  rw [Bool.eq_false_iff]
  intro hp
  obtain ⟨h1, x, hx, h2, h3⟩ := (placeT_iff hu).1 hp
  have hup := upP_least ha0 h2 h1.2.2.2.2.2
  have : (upP al x.1, x) ∈ placesF us m al := mem_places.2 ⟨hx, rfl, by omega⟩
  rw [hne] at this
  cases this
theorem least_bad {us : List Sp} {m al : Int} (h0 : placeE us m al ≠ 0) : firstF us m al = (0, placeE us m al) ∧ bestF us m al = (0, placeE us m al) ∧ placeE us m al ≠ 4 := by
  refine ⟨by rw [firstF, if_neg h0], by rw [bestF, if_neg h0], ?_⟩
  unfold placeE
  split
  · split <;> decide
  · rcases chkS_ne (s := us) with h | h | h | h <;> rw [h] <;> decide
end Go.Proofs.Ytfmnlpgboolpmaa
