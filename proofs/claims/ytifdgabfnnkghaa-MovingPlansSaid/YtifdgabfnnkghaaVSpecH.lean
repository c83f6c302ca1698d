/- The laws of the best plan: what its moves make; no given moves cost less; lower orders cost no more; no program in sight. -/
import Derived.Test.YtifdgabfnnkghaaVSpecG
namespace Go.Pol
/-- have n pages from p on none in common with a block? -/
def freeL (cs : List B3) (p n : Int) : Bool := cs.all fun b => !(decide (b.1 < p + n) && decide (p < b.1 + pw b.2.1))
theorem freeL_iff {cs : List B3} {p n : Nat} : freeL cs (p : Int) (n : Int) = true ↔ ∀ i, i < cs.length → ¬ hitB (cs.getD i b0) p n := by
  unfold freeL
  rw [List.all_eq_true]
  constructor
  · intro h i hi hh
    have := h _ (memD hi)
    rw [decide_eq_true (by have := hh.1; omega), decide_eq_true hh.2] at this
    simp at this
  · intro h b hb
    obtain ⟨i, hi, rfl⟩ := memI hb
    have := h i hi
    cases h1 : (decide ((cs.getD i b0).1 < (p : Int) + (n : Int)) && decide ((p : Int) < (cs.getD i b0).1 + pw (cs.getD i b0).2.1)) with
    | false => rfl
    | true =>
      rw [Bool.and_eq_true, decide_eq_true_eq, decide_eq_true_eq] at h1
      exact absurd ⟨by have := h1.1; omega, h1.2⟩ this
/-- is a place of an order free of blocks? -/
def openL (pg : Nat) (cs : List B3) (o : Nat) : Bool := (List.range (pg / 2 ^ o)).any fun k => freeL cs ((k * 2 ^ o : Nat) : Int) ((2 ^ o : Nat) : Int)
theorem openL_iff {pg : Nat} {cs : List B3} {o : Nat} : openL pg cs o = true ↔ ∃ k, k < pg / 2 ^ o ∧ ∀ i, i < cs.length → ¬ hitB (cs.getD i b0) (k * 2 ^ o) (2 ^ o) := by
  unfold openL
  simp only [List.any_eq_true, List.mem_range, freeL_iff]
theorem moved_nil {bs : List B3} {o k : Nat} (h : ∀ i, i < bs.length → ¬ hitB (bs.getD i b0) (k * 2 ^ o) (2 ^ o)) : movedB bs (placeB o k) = [] := by
  rw [List.eq_nil_iff_forall_not_mem]
  intro i hi
  obtain ⟨h1, h2⟩ := moved_iff.1 hi
  exact h i h1 ((hitB_place _ o k).2 h2)
theorem costM_nonneg (bs : List B3) : ∀ l, 0 ≤ costM bs l ∧ (costM bs l = 0 → l = [])
  | [] => ⟨by simp [costM], fun _ => rfl⟩
  | i :: r => by
    have ih := (costM_nonneg bs r).1
    have hp := pw_pos (bs.getD i b0).2.1
    have e : costM bs (i :: r) = pw (bs.getD i b0).2.1 + costM bs r := by simp [costM]
    exact ⟨by omega, fun h => by omega⟩
theorem holds_nil (f : Nat → Nat → Bool) : holdsB f [] = true := holdsB_iff.2 (fun t _ => by simp [needB])
/-- a free place is a candidate with no moves -/
theorem good_free {pg : Nat} {bs : List B3} {o k : Nat} (h : ∀ i, i < bs.length → ¬ hitB (bs.getD i b0) (k * 2 ^ o) (2 ^ o)) : goodB pg bs o k ∧ costK bs o k = 0 := by
  have hm := moved_nil h
  refine ⟨⟨by rw [hm]; rfl, by rw [hm, emptyB_place, List.map_nil, if_pos (holds_nil _)]⟩, by unfold costK; rw [hm]; rfl⟩
theorem is_of_good {pg : Nat} {bs : List B3} {o k : Nat} (hk : k < pg / 2 ^ o) (hg : goodB pg bs o k) : (planB pg bs o).2.2 = true ∧ (planB pg bs o).2.1 ≤ costK bs o k := by
  have hs := planT_spec pg bs o (pg / 2 ^ o)
  rw [← planB_T] at hs
  cases h : (planB pg bs o).2.2 with
  | false => exact absurd hg ((hs.1 h).2 k hk)
  | true =>
    obtain ⟨k', h1, h2, h3, h4, h5⟩ := hs.2 h
    exact ⟨rfl, h5 k hk hg⟩
theorem good_of_is {pg : Nat} {bs : List B3} {o : Nat} (h : (planB pg bs o).2.2 = true) : ∃ k, k < pg / 2 ^ o ∧ goodB pg bs o k ∧ (planB pg bs o).1 = (emptyB pg bs (placeB o k) (movedB bs (placeB o k))).1 ∧ (planB pg bs o).2.1 = costK bs o k := by
  have hs := planT_spec pg bs o (pg / 2 ^ o)
  rw [← planB_T] at hs
  obtain ⟨k, h1, h2, h3, h4, _⟩ := hs.2 h
  exact ⟨k, h1, h2, h3, h4⟩
theorem PlanF_ok {pg : Nat} {bs : List B3} {o : Nat} (hc : chkB (pg : Int) bs = 0) (ho : o ≤ 10) (hle : 2 ^ o ≤ pg) : PlanF (pg : Int) bs (o : Int) = if (planB pg bs o).2.2 = true then ((planB pg bs o).1, 0) else ([], 4) := by
  unfold PlanF
  rw [if_pos hc, if_pos ⟨isOrd_iff.2 ⟨by omega, by omega⟩, by rw [pw_nat]; exact_mod_cast hle⟩]
  simp only [Int.toNat_natCast]
theorem PlanF_zero {pages : Int} {bs : List B3} {o : Int} {ms : List (Int × Int)} (hc : chkB pages bs = 0) (h : PlanF pages bs o = (ms, 0)) : (0 ≤ o ∧ o ≤ 10) ∧ pw o ≤ pages ∧ (planB pages.toNat bs o.toNat).2.2 = true ∧ ms = (planB pages.toNat bs o.toNat).1 := by
  unfold PlanF at h
  rw [if_pos hc] at h
  by_cases h1 : isOrd o = true ∧ pw o ≤ pages
  · rw [if_pos h1] at h
    by_cases h2 : (planB pages.toNat bs o.toNat).2.2 = true
    · rw [if_pos h2] at h
      injection h with h3 h4
      exact ⟨isOrd_iff.1 h1.1, h1.2, h2, h3.symm⟩
    · rw [if_neg h2] at h
      injection h with h3 h4
      omega
  · rw [if_neg h1] at h
    injection h with h3 h4
    omega
theorem space_nat {pages : Int} (h : spaceB pages = true) : ∃ pg : Nat, pages = (pg : Int) ∧ 1 ≤ pg ∧ pg ≤ 1024 := by
  have := spaceB_bound h
  exact ⟨pages.toNat, by omega, by omega, by omega⟩
theorem moved_sorted (bs : List B3) (c : B3) : (movedB bs c).Pairwise (· < ·) := by
  unfold movedB
  exact List.Pairwise.filter _ List.pairwise_lt_range
/-- what the moves of a plan make -/
theorem makes_law {pg o : Nat} {bs : List B3} (hc : chkB (pg : Int) bs = 0) (hpg : pg ≤ 1024) (h : (planB pg bs o).2.2 = true) :
    (openL pg bs o = true → (planB pg bs o).1 = []) ∧ (∃ cs', afterB (pg : Int) bs (planB pg bs o).1 = (cs', 0) ∧ openL pg cs' o = true) ∧
    (planB pg bs o).1.length ≤ 64 ∧ ∃ l : List Nat, (planB pg bs o).1.map (·.1) = l.map (fun i : Nat => (i : Int)) ∧ l.Pairwise (· < ·) ∧ ∀ i ∈ l, i < bs.length ∧ (bs.getD i b0).2.2 = false := by
  have ok := chkB_ok hc
  obtain ⟨k, hk, hg, hms, hcost⟩ := good_of_is h
  obtain ⟨h1, cs', h2, h3, h4, h5⟩ := good_moves ok hpg hg
  obtain ⟨h6, h7⟩ := good_cost ok hpg hg
  refine ⟨fun hop => ?_, ⟨cs', ?_, openL_iff.2 ⟨k, hk, fun i hi => h5 i (by omega)⟩⟩, by rw [hms]; exact h6, movedB bs (placeB o k), by rw [hms]; exact h1, moved_sorted _ _, fun i hi => ⟨(moved_iff.1 hi).1, (stays_false hg.1 i hi).1⟩⟩
  · obtain ⟨j, hj, hfr⟩ := openL_iff.1 hop
    obtain ⟨hgj, hcj⟩ := good_free (pg := pg) hfr
    have hle := (is_of_good hj hgj).2
    rw [hcj, hcost] at hle
    have hnn := costM_nonneg bs (movedB bs (placeB o k))
    have hnil := hnn.2 (by unfold costK at hle; omega)
    rw [hms]
    rw [hnil] at h1
    rw [hnil]
    simpa using h1
  · unfold afterB
    rw [if_pos hc, hms, if_neg (by omega)]
    exact h2
/-! moves that are given -/
theorem after_trace {pages : Int} : ∀ (ms : List (Int × Int)) (cs cs' : List B3), okB pages cs → afterL pages cs ms = (cs', 0) →
    okB pages cs' ∧ cs'.length = cs.length ∧ (∀ i, i < cs.length → (cs'.getD i b0).2 = (cs.getD i b0).2) ∧
    (∀ i, i < cs.length → cs'.getD i b0 = cs.getD i b0 ∨ ∃ mv ∈ ms, mv.1 = (i : Int) ∧ (cs'.getD i b0).1 = mv.2) ∧
    ∀ mv ∈ ms, (0 ≤ mv.1 ∧ mv.1 < cs.length) ∧ (cs.getD mv.1.toNat b0).2.2 = false
  | [], cs, cs', ok, h => by
    simp only [afterL, Prod.mk.injEq, and_true] at h
    subst h
    exact ⟨ok, rfl, fun _ _ => rfl, fun _ _ => .inl rfl, by simp⟩
  | mv :: r, cs, cs', ok, h => by
    rw [afterL] at h
    by_cases hp : possB pages cs mv = 0
    · rw [if_pos hp] at h
      obtain ⟨⟨g0, g1⟩, g2, g3, _⟩ := possB_zero hp
      have hi : mv.1.toNat < cs.length := by omega
      obtain ⟨h1, h2, h3, h4, h5⟩ := after_trace r _ cs' (okB_mov ok hp) h
      have hlen : (movB cs mv).length = cs.length := by unfold movB; rw [List.length_set]
      have hget : ∀ j, (movB cs mv).getD j b0 = if mv.1.toNat = j then (mv.2, (cs.getD mv.1.toNat b0).2) else cs.getD j b0 := fun j => by unfold movB; exact getD_set _ _ _ _ hi
      have hsnd : ∀ j, ((movB cs mv).getD j b0).2 = (cs.getD j b0).2 := fun j => by
        rw [hget]
        split
        · rename_i e; rw [e]
        · rfl
      rw [hlen] at h2 h3 h4 h5
      refine ⟨h1, h2, fun i hi' => by rw [h3 i hi', hsnd], fun i hi' => ?_, fun mv' hm => ?_⟩
      · rcases h4 i hi' with e | ⟨mv', hm, e1, e2⟩
        · rw [hget] at e
          by_cases he : mv.1.toNat = i
          · rw [if_pos he] at e
            exact .inr ⟨mv, by simp, by omega, by rw [e]⟩
          · rw [if_neg he] at e
            exact .inl e
        · exact .inr ⟨mv', List.mem_cons_of_mem _ hm, e1, e2⟩
      · rcases List.mem_cons.1 hm with rfl | hm
        · exact ⟨⟨g0, g1⟩, g2⟩
        · obtain ⟨h6, h7⟩ := h5 mv' hm
          rw [hsnd] at h7
          exact ⟨h6, h7⟩
    · rw [if_neg hp] at h
      injection h with _ h
      exact absurd h hp
/-- what given moves cost -/
def sumW (bs : List B3) (ms : List (Int × Int)) : Int := (ms.map fun m => pw (bs.getD m.1.toNat b0).2.1).sum
theorem sumW_cons (bs : List B3) (m : Int × Int) (ms : List (Int × Int)) : sumW bs (m :: ms) = pw (bs.getD m.1.toNat b0).2.1 + sumW bs ms := by simp [sumW]
theorem sumW_perm {bs : List B3} {l l' : List (Int × Int)} (h : l.Perm l') : sumW bs l = sumW bs l' := by
  induction h with
  | nil => rfl
  | cons x _ ih => rw [sumW_cons, sumW_cons, ih]
  | swap x y l => rw [sumW_cons, sumW_cons, sumW_cons, sumW_cons]; omega
  | trans _ _ h1 h2 => rw [h1, h2]
theorem sumW_nonneg (bs : List B3) : ∀ ms, 0 ≤ sumW bs ms
  | [] => by simp [sumW]
  | m :: r => by rw [sumW_cons]; have := sumW_nonneg bs r; have := pw_pos (bs.getD m.1.toNat b0).2.1; omega
theorem costL_W (bs : List B3) : ∀ (ms : List (Int × Int)) (z : Int), (∀ m ∈ ms, (0 ≤ m.1 ∧ m.1 < bs.length) ∧ isOrd (bs.getD m.1.toNat b0).2.1 = true) → costL bs z ms = (z + sumW bs ms, 0)
  | [], z, _ => by simp [costL, sumW]
  | m :: r, z, h => by
    obtain ⟨h1, h2⟩ := h m (by simp)
    rw [costL, if_neg (by omega), if_neg (by rw [h2]; simp), costL_W bs r _ (fun x hx => h x (List.mem_cons_of_mem _ hx)), sumW_cons, Int.add_assoc]
/-- blocks that are moved, each at least once -/
theorem costM_sumW (bs : List B3) : ∀ (l : List Nat) (ms : List (Int × Int)), l.Pairwise (· < ·) → (∀ i ∈ l, ∃ m ∈ ms, m.1 = (i : Int)) → costM bs l ≤ sumW bs ms
  | [], ms, _, _ => by simpa [costM] using sumW_nonneg bs ms
  | i :: r, ms, hs, h => by
    obtain ⟨m, hm, e⟩ := h i (by simp)
    have hperm := List.perm_cons_erase hm
    rw [sumW_perm hperm, sumW_cons, e, Int.toNat_natCast]
    rw [List.pairwise_cons] at hs
    have ih := costM_sumW bs r (ms.erase m) hs.2 (fun j hj => by
      obtain ⟨m', hm', e'⟩ := h j (List.mem_cons_of_mem _ hj)
      have hlt := hs.1 j hj
      exact ⟨m', (List.mem_erase_of_ne (by rintro rfl; omega)).2 hm', e'⟩)
    have e2 : costM bs (i :: r) = pw (bs.getD i b0).2.1 + costM bs r := by simp [costM]
    omega
/-- an aligned block that is at least as large and has a page of a place has them all -/
theorem aligned_in {b : B3} {o k ob : Nat} (h0 : 0 ≤ b.1) (ho : b.2.1 = (ob : Int)) (hle : o ≤ ob) (hm : b.1 % pw b.2.1 = 0) (h : hitB b (k * 2 ^ o) (2 ^ o)) : b.1 ≤ ((k * 2 ^ o : Nat) : Int) ∧ ((k * 2 ^ o + 2 ^ o : Nat) : Int) ≤ b.1 + pw b.2.1 := by
  obtain ⟨x, hx⟩ := Int.eq_ofNat_of_zero_le h0
  rw [ho, pw_nat] at hm
  unfold hitB at h
  rw [ho, pw_nat] at h
  rw [ho, pw_nat]
  rw [hx] at h hm ⊢
  have he : 2 ^ ob = 2 ^ (ob - o) * 2 ^ o := by rw [← Nat.pow_add]; congr 1; omega
  have hm' : x % 2 ^ ob = 0 := by exact_mod_cast hm
  obtain ⟨y, hy⟩ := Nat.dvd_of_mod_eq_zero hm'
  have e1 : x = (y * 2 ^ (ob - o)) * 2 ^ o := by rw [hy, he, Nat.mul_comm, Nat.mul_assoc]
  have hT := Nat.two_pow_pos o
  generalize 2 ^ o = T at *
  generalize 2 ^ (ob - o) = S at *
  generalize y * S = X at *
  obtain ⟨h1, h2⟩ := h
  have h1' : X * T < (k + 1) * T := by rw [Nat.add_mul, Nat.one_mul, ← e1]; omega
  have h2' : k * T < (X + S) * T := by rw [Nat.add_mul, ← e1, ← he]; omega
  have h3 := Nat.lt_of_mul_lt_mul_right h1'
  have h4 := Nat.lt_of_mul_lt_mul_right h2'
  have h5 := Nat.mul_le_mul_right T (show X ≤ k by omega)
  have h6 := Nat.mul_le_mul_right T (show k + 1 ≤ X + S by omega)
  rw [Nat.add_mul, Nat.one_mul, Nat.add_mul, ← e1, ← he] at h6
  rw [← e1] at h5
  omega
/-- .. and a smaller one lies in it -/
theorem aligned_within {b : B3} {o k ob : Nat} (h0 : 0 ≤ b.1) (ho : b.2.1 = (ob : Int)) (hle : ob ≤ o) (hm : b.1 % pw b.2.1 = 0) (h : hitB b (k * 2 ^ o) (2 ^ o)) : ((k * 2 ^ o : Nat) : Int) ≤ b.1 ∧ b.1 + pw b.2.1 ≤ ((k * 2 ^ o + 2 ^ o : Nat) : Int) := by
  obtain ⟨x, hx⟩ := Int.eq_ofNat_of_zero_le h0
  rw [ho, pw_nat] at hm
  unfold hitB at h
  rw [ho, pw_nat] at h
  rw [ho, pw_nat]
  rw [hx] at h hm ⊢
  have he : 2 ^ o = 2 ^ (o - ob) * 2 ^ ob := by rw [← Nat.pow_add]; congr 1; omega
  have hm' : x % 2 ^ ob = 0 := by exact_mod_cast hm
  obtain ⟨y, hy⟩ := Nat.dvd_of_mod_eq_zero hm'
  have e1 : x = y * 2 ^ ob := by rw [hy, Nat.mul_comm]
  have e2 : k * 2 ^ o = (k * 2 ^ (o - ob)) * 2 ^ ob := by rw [he, Nat.mul_assoc]
  have hT := Nat.two_pow_pos ob
  rw [e2, he] at h ⊢
  generalize 2 ^ ob = T at *
  generalize 2 ^ (o - ob) = S at *
  generalize k * S = X at *
  obtain ⟨h1, h2⟩ := h
  have h1' : y * T < (X + S) * T := by rw [Nat.add_mul, ← e1]; omega
  have h2' : X * T < (y + 1) * T := by rw [Nat.add_mul, Nat.one_mul, ← e1]; omega
  have h3 := Nat.lt_of_mul_lt_mul_right h1'
  have h4 := Nat.lt_of_mul_lt_mul_right h2'
  have h5 := Nat.mul_le_mul_right T (show X ≤ y by omega)
  have h6 := Nat.mul_le_mul_right T (show y + 1 ≤ X + S by omega)
  rw [Nat.add_mul, Nat.one_mul, Nat.add_mul, ← e1] at h6
  rw [← e1] at h5
  omega
/-- places that are free and do not meet hold blocks -/
theorem pack_of_places {pg : Nat} (ord pl : Nat → Nat) : ∀ (l : List Nat) (m : Nat → Bool), l.Pairwise (· < ·) → (∀ i ∈ l, frB pg m (ord i) (pl i) = true) →
    (∀ i ∈ l, ∀ j ∈ l, i ≠ j → ∀ k, pl i * 2 ^ ord i ≤ k → k < pl i * 2 ^ ord i + 2 ^ ord i → ¬ (pl j * 2 ^ ord j ≤ k ∧ k < pl j * 2 ^ ord j + 2 ^ ord j)) → packB pg m (l.map ord)
  | [], _, _, _, _ => trivial
  | i :: r, m, hs, hf, hd => by
    rw [List.pairwise_cons] at hs
    refine ⟨pl i, hf i (by simp), pack_of_places ord pl r _ hs.2 (fun j hj => ?_) (fun x hx y hy => hd x (List.mem_cons_of_mem _ hx) y (List.mem_cons_of_mem _ hy))⟩
    have hfj := frB_iff.1 (hf j (List.mem_cons_of_mem _ hj))
    refine frB_iff.2 ⟨hfj.1, fun k h1 h2 => markB_false.2 ⟨hfj.2 k h1 h2, fun hc => ?_⟩⟩
    have hne : j ≠ i := fun e => by have := hs.1 j hj; omega
    exact hd j (List.mem_cons_of_mem _ hj) i (by simp) hne k h1 (by rw [← place_end]; exact h2) hc
end Go.Pol
