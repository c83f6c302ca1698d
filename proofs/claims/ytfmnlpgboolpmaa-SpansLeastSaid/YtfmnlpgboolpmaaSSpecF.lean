/- Plain laws: the least multiple; powers of two; what the reference's search for places has found. -/
import Derived.Test.YtfmnlpgboolpmaaSWalkN
namespace Go.Pol
open Go
theorem upP_mult {align a : Int} : upP align a % align = 0 := by unfold upP; exact Int.mul_emod_left _ _
theorem upP_least {align a p : Int} (h : 1 ≤ align) (hp : a ≤ p) (hm : p % align = 0) : upP align a ≤ p := by
  have h0 := upP_ok (a := a) h
  have h1 := upP_mult (align := align) (a := a)
  obtain ⟨k, hk⟩ := Int.dvd_of_emod_eq_zero hm
  obtain ⟨j, hj⟩ := Int.dvd_of_emod_eq_zero h1
  rw [hk, hj]
  refine Int.mul_le_mul_of_nonneg_left ?_ (by omega)
  -- the multiple before the least one lies before 'a'
  by_cases hjk : j ≤ k
  · exact hjk
  · exfalso
    have h2 : k + 1 ≤ j := by omega
    have h3 : align * (k + 1) ≤ align * j := Int.mul_le_mul_of_nonneg_left h2 (by omega)
    rw [Int.mul_add, Int.mul_one, ← hk, ← hj] at h3
    omega
/-- what the reference's Place answers -/
def placeR (pages align : Int) (x : Sp) : Int := if upP align x.1 + pages ≤ x.1 + x.2 then upP align x.1 else -1
def pw (j : Nat) : Int := (2 ^ j : Nat)
theorem pw_succ (j : Nat) : pw (j + 1) = 2 * pw j := by unfold pw; rw [Nat.pow_succ]; omega
theorem pw_le : ∀ j : Nat, j ≤ 11 → 1 ≤ pw j ∧ pw j ≤ 2048 ∧ (pw j ≤ 1024 ↔ j ≤ 10) := by decide
theorem isPow_iff (n : Int) : isPow n.toNat = true ↔ ∃ j, j ≤ 10 ∧ n = pw j := by
  constructor
  · intro h
    have h1 := isPow_le h
    simp [isPow] at h
    rcases h with h | h | h | h | h | h | h | h | h | h | h
    · exact ⟨0, by omega, by simp [pw]; omega⟩
    · exact ⟨1, by omega, by simp [pw]; omega⟩
    · exact ⟨2, by omega, by simp [pw]; omega⟩
    · exact ⟨3, by omega, by simp [pw]; omega⟩
    · exact ⟨4, by omega, by simp [pw]; omega⟩
    · exact ⟨5, by omega, by simp [pw]; omega⟩
    · exact ⟨6, by omega, by simp [pw]; omega⟩
    · exact ⟨7, by omega, by simp [pw]; omega⟩
    · exact ⟨8, by omega, by simp [pw]; omega⟩
    · exact ⟨9, by omega, by simp [pw]; omega⟩
    · exact ⟨10, by omega, by simp [pw]; omega⟩
  · rintro ⟨j, hj, rfl⟩
    have : ∀ j : Fin 11, isPow (pw j.val).toNat = true := by decide
    exact this ⟨j, by omega⟩
/-- what has been found in the first spans -/
def FoundR (us : List Sp) (pages align : Int) (best : Bool) (k : Nat) (found : Int) : Prop :=
  (found = -1 ∧ placesF (us.take k) pages align = []) ∨
  (∃ f : Nat, f < k ∧ found = f ∧ placeR pages align (us.getD f (0,0)) = upP align (us.getD f (0,0)).1 ∧ upP align (us.getD f (0,0)).1 + pages ≤ (us.getD f (0,0)).1 + (us.getD f (0,0)).2 ∧
    if best = true then bestG (placesF (us.take k) pages align) = (upP align (us.getD f (0,0)).1, (us.getD f (0,0)).2) else ∃ r, placesF (us.take k) pages align = (upP align (us.getD f (0,0)).1, us.getD f (0,0)) :: r)
theorem found_none {us : List Sp} {pages align : Int} {best : Bool} {k : Nat} {found : Int} (hk : k < us.length) (h : FoundR us pages align best k found) (hx : ¬ upP align (us.getD k (0,0)).1 + pages ≤ (us.getD k (0,0)).1 + (us.getD k (0,0)).2) :
    FoundR us pages align best (k + 1) found := by
  have e : placesF (us.take (k + 1)) pages align = placesF (us.take k) pages align := by
    rw [places_take us pages align k hk, placeX, if_neg hx]; simp
  unfold FoundR at h ⊢
  rw [e]
  rcases h with h | ⟨f, hf, h⟩
  · exact .inl h
  · exact .inr ⟨f, by omega, h⟩
theorem found_take {us : List Sp} {pages align : Int} {k : Nat} (hk : k < us.length) (hx : upP align (us.getD k (0,0)).1 + pages ≤ (us.getD k (0,0)).1 + (us.getD k (0,0)).2) :
    placesF (us.take (k + 1)) pages align = placesF (us.take k) pages align ++ [(upP align (us.getD k (0,0)).1, us.getD k (0,0))] := by
  rw [places_take us pages align k hk, placeX, if_pos hx]; rfl
theorem found_first {us : List Sp} {pages align : Int} {best : Bool} {k : Nat} {found : Int} (hk : k < us.length) (h : FoundR us pages align best k found) (hneg : found < 0) (hw : (us.getD k (0,0)).2 ≤ 1024)
    (hx : upP align (us.getD k (0,0)).1 + pages ≤ (us.getD k (0,0)).1 + (us.getD k (0,0)).2) : FoundR us pages align best (k + 1) k := by
  rcases h with ⟨h1, h2⟩ | ⟨f, _, h1, _⟩
  · refine .inr ⟨k, by omega, rfl, by rw [placeR, if_pos hx], hx, ?_⟩
    rw [found_take hk hx, h2]
    cases best with
    | true =>
      rw [if_pos rfl]
      show stB (-1, 1025) _ = _
      rw [stB, if_pos (by simp only; omega)]
    | false => exact ⟨[], rfl⟩
  · omega
theorem found_keep {us : List Sp} {pages align : Int} {k : Nat} {found : Int} (hk : k < us.length) (h : FoundR us pages align false k found) (hpos : ¬ found < 0)
    (hx : upP align (us.getD k (0,0)).1 + pages ≤ (us.getD k (0,0)).1 + (us.getD k (0,0)).2) : FoundR us pages align false (k + 1) found := by
  rcases h with ⟨h1, h2⟩ | ⟨f, hf, h1, h2, h3, h4⟩
  · omega
  · obtain ⟨r, hr⟩ := h4
    refine .inr ⟨f, by omega, h1, h2, h3, ?_⟩
    rw [found_take hk hx, hr]
    exact ⟨r ++ _, rfl⟩
theorem found_better {us : List Sp} {pages align : Int} {k f : Nat} (hk : k < us.length) (h : FoundR us pages align true k f)
    (hx : upP align (us.getD k (0,0)).1 + pages ≤ (us.getD k (0,0)).1 + (us.getD k (0,0)).2) : FoundR us pages align true (k + 1) (if (us.getD k (0,0)).2 < (us.getD f (0,0)).2 then (k : Int) else f) := by
  rcases h with ⟨h1, h2⟩ | ⟨g, hg, h1, h2, h3, h4⟩
  · omega
  · obtain rfl : f = g := by omega
    rw [if_pos rfl] at h4
    by_cases hlt : (us.getD k (0,0)).2 < (us.getD f (0,0)).2
    · rw [if_pos hlt]
      refine .inr ⟨k, by omega, rfl, by rw [placeR, if_pos hx], hx, ?_⟩
      rw [if_pos rfl, found_take hk hx, bestG_snoc, h4, stB, if_pos hlt]
    · rw [if_neg hlt]
      refine .inr ⟨f, by omega, rfl, h2, h3, ?_⟩
      rw [if_pos rfl, found_take hk hx, bestG_snoc, h4, stB, if_neg hlt]
/-- what the reference's search answers -/
def findF (us : List Sp) (pages align : Int) (best : Bool) : Int × Int := if best = true then bestF us pages align else firstF us pages align
theorem find_none {us : List Sp} {pages align : Int} {best : Bool} {found : Int} (h0 : placeE us pages align = 0) (h : FoundR us pages align best us.length found) (hneg : found < 0) : findF us pages align best = (0, 4) := by
  rcases h with ⟨h1, h2⟩ | ⟨f, _, h1, _⟩
  · rw [List.take_length] at h2
    cases best with
    | true => rw [findF, if_pos rfl, bestF, if_pos h0, h2]; rfl
    | false => rw [findF, if_neg (by decide), firstF, if_pos h0, h2]; rfl
  · omega
theorem find_some {us : List Sp} {pages align : Int} {best : Bool} {f : Nat} (h0 : placeE us pages align = 0) (hv : ∀ x ∈ us, vld x = true) (h : FoundR us pages align best us.length f) : f < us.length ∧ findF us pages align best = (placeR pages align (us.getD f (0,0)), 0) := by
  have ha := (placeE_zero h0).2.2.2.1
  rcases h with ⟨h1, h2⟩ | ⟨g, hg, h1, h2, h3, h4⟩
  · omega
  · obtain rfl : f = g := by omega
    refine ⟨hg, ?_⟩
    have hx := vld_iff.1 (hv (us.getD f (0,0)) (by rw [List.getD_eq_getElem?_getD, List.getElem?_eq_getElem hg]; simp))
    have hu := upP_ok (a := (us.getD f (0,0)).1) ha
    rw [List.take_length] at h4
    rw [h2]
    cases best with
    | true =>
      rw [if_pos rfl] at h4
      rw [findF, if_pos rfl, bestF, if_pos h0, h4, endB, if_neg (by simp only; omega)]
    | false =>
      obtain ⟨r, hr⟩ := h4
      rw [findF, if_neg (by decide), firstF, if_pos h0, hr]; rfl
end Go.Pol
