/- The plain law of Best: runs of entries, the least waste with so many classes, the fewest classes, the first table in lexicographic order. No program in sight. -/
import Derived.Test.YtiohcegkkpeodaaSpecC
import Derived.Test.YtiohcegkkpeodaaWalkH
namespace Go.Pol
def szU (us : List (Int × Int)) (j : Nat) : Int := (us.getD j (0,0)).1
/-- the waste of the entries from i on, the runs ending at the places of the list -/
def runW (us : List (Int × Int)) : Nat → List Nat → Int
  | _, [] => 0
  | i, j :: r => costF us i j + runW us (j + 1) r
/-- places that cut the entries from i on into runs -/
def chain (n : Nat) : Nat → List Nat → Prop
  | i, [] => i = n
  | i, j :: r => i ≤ j ∧ j < n ∧ chain n (j + 1) r
theorem chain_le {n : Nat} : ∀ {js : List Nat} {i : Nat}, chain n i js → i + js.length ≤ n
  | [], i, h => by simp [chain] at h; simp; omega
  | j :: r, i, h => by have := chain_le h.2.2; simp; have := h.1; omega
theorem row_le_run {us : List (Int × Int)} (h : okU us) : ∀ (js : List Nat) (i : Nat), chain us.length i js → 0 ≤ rowF us js.length i ∧ rowF us js.length i ≤ runW us i js
  | [], i, hc => by simp only [chain] at hc; subst hc; simp [rowF, runW]
  | j :: r, i, hc => by
    have ih := row_le_run h r (j + 1) hc.2.2
    have := row_le h r.length i j hc.1 hc.2.1 ih.1
    simp only [List.length_cons, runW]
    omega
theorem cost_same (us : List (Int × Int)) (i : Nat) : costF us i i = 0 := by
  have e1 : objF us (i + 1) = objF us i + (us.getD i (0,0)).2 := rfl
  have e2 : bytF us (i + 1) = bytF us i + (us.getD i (0,0)).2 * (us.getD i (0,0)).1 := rfl
  unfold costF
  rw [e1, e2, show objF us i + (us.getD i (0,0)).2 - objF us i = (us.getD i (0,0)).2 by omega]
  omega
theorem cost_split {us : List (Int × Int)} (h : okU us) {i j : Nat} (hij : i < j) (hj : j < us.length) : costF us (i + 1) j ≤ costF us i j := by
  have e1 : objF us (i + 1) = objF us i + (us.getD i (0,0)).2 := rfl
  have e2 : bytF us (i + 1) = bytF us i + (us.getD i (0,0)).2 * (us.getD i (0,0)).1 := rfl
  have h1 := h.asc_le (i := i) (j := j) (by omega) hj
  have h2 := h.at_ i (by omega)
  have h3 := Int.mul_le_mul_of_nonneg_left h1 (show 0 ≤ (us.getD i (0,0)).2 by omega)
  unfold costF
  rw [e1, e2]
  generalize (us.getD j (0,0)).1 = s at *
  generalize (us.getD i (0,0)).2 = t at *
  generalize (us.getD i (0,0)).1 = x at *
  have e3 : (objF us (j + 1) - objF us i) * s = (objF us (j + 1) - (objF us i + t)) * s + t * s := by
    rw [← Int.add_mul]; congr 1; omega
  omega
theorem row_mono {us : List (Int × Int)} (h : okU us) : ∀ (m i : Nat), 1 ≤ m → 0 ≤ rowF us m i → i + m + 1 ≤ us.length → 0 ≤ rowF us (m + 1) i ∧ rowF us (m + 1) i ≤ rowF us m i
  | 0, _, hm, _, _ => absurd hm (by omega)
  | m + 1, i, _, h0, hn => by
    obtain ⟨j, h1, h2, h3, h4⟩ := row_attain us m i (by omega) h0
    by_cases e : i = j
    · subst e
      cases m with
      | zero => have := row_zero us _ h3; omega
      | succ m =>
        have ih := row_mono h (m + 1) (i + 1) (by omega) h3 (by omega)
        have := row_le h (m + 1 + 1) i i (Nat.le_refl _) (by omega) ih.1
        omega
    · have a1 := row_le h m (i + 1) j (by omega) h2 h3
      have a2 := row_le h (m + 1) i i (Nat.le_refl _) (by omega) a1.1
      have a3 := cost_same us i
      have a4 := cost_split h (i := i) (j := j) (by omega) h2
      omega
theorem row_mono' {us : List (Int × Int)} (h : okU us) (m : Nat) (hm : 1 ≤ m) : ∀ d, m + d ≤ us.length → 0 ≤ rowF us (m + d) 0 ∧ rowF us (m + d) 0 ≤ rowF us m 0
  | 0, hd => ⟨row_nonneg h m 0 hm (by omega), Int.le_refl _⟩
  | d + 1, hd => by
    have ih := row_mono' h m hm d (by omega)
    have := row_mono h (m + d) 0 (by omega) ih.1 (by omega)
    rw [show m + (d + 1) = m + d + 1 by omega]
    omega
theorem mSel_min {us : List (Int × Int)} (h : okU us) (K q : Nat) (hq : 1 ≤ q) (hK : K ≤ us.length) (hrow : rowF us q 0 = rowF us K 0) : ∀ m, q ≤ m → m ≤ K → mSel us K m ≤ q
  | 0, h1, _ => by omega
  | m + 1, h1, h2 => by
    by_cases e : q = m + 1
    · have := (mSel_le us K (m + 1)).1; omega
    · have a1 := row_mono' h q hq (m - q) (by omega)
      have a2 := row_mono' h m (by omega) (K - m) (by omega)
      rw [show q + (m - q) = m by omega] at a1
      rw [show m + (K - m) = K by omega] at a2
      have hm : rowF us m 0 = rowF us K 0 := by omega
      unfold mSel
      rw [if_pos ⟨by omega, hm⟩]
      exact mSel_min h K q hq hK hrow m (by omega) (by omega)
/-- the places of the classes that the way back takes -/
def reconI (us : List (Int × Int)) : Nat → Nat → List Nat
  | 0, _ => []
  | q + 1, i => if i < us.length then pickF us (q + 1) i (us.length - i) i :: reconI us q (pickF us (q + 1) i (us.length - i) i + 1) else []
theorem recon_map (us : List (Int × Int)) : ∀ m i, recon us m i = (reconI us m i).map (szU us)
  | 0, _ => rfl
  | m + 1, i => by
    unfold recon reconI
    split
    · rw [List.map_cons, recon_map us m]; rfl
    · rfl
theorem reconI_spec {us : List (Int × Int)} : ∀ m i, i ≤ us.length → 0 ≤ rowF us m i → chain us.length i (reconI us m i) ∧ (reconI us m i).length = m ∧ runW us i (reconI us m i) = rowF us m i
  | 0, i, hi, h0 => by
    have e := row_zero us i h0
    subst e
    simp [reconI, chain, runW, rowF]
  | m + 1, i, hi, h0 => by
    have hlt : i < us.length := by
      by_cases e : i < us.length
      · exact e
      · have : i = us.length := by omega
        subst this; have := row_end us _ h0; omega
    obtain ⟨j, h1, h2, h3, h4⟩ := row_attain us m i hlt h0
    have hp := pick_spec us (m + 1) i j ⟨h3, h4⟩ (us.length - i) i h1 (by omega)
    simp only [Nat.add_sub_cancel] at hp
    obtain ⟨p1, p2, p3, p4⟩ := hp
    unfold reconI
    rw [if_pos hlt]
    generalize pickF us (m + 1) i (us.length - i) i = q at *
    obtain ⟨b1, b2, b3⟩ := reconI_spec (us := us) m (q + 1) (by omega) p3
    exact ⟨⟨p1, by omega, b1⟩, by simp [b2], by simp only [runW]; rw [b3]; exact p4⟩
/-- which of two tables with the same number of classes comes first -/
def lexB : List Int → List Int → Bool
  | x :: a, y :: b => if x = y then lexB a b else decide (x < y)
  | _, _ => false
theorem reconI_first {us : List (Int × Int)} (h : okU us) : ∀ m i, 0 ≤ rowF us m i → i ≤ us.length → ∀ js, chain us.length i js → js.length = m → runW us i js = rowF us m i → js = reconI us m i ∨ lexB ((reconI us m i).map (szU us)) (js.map (szU us)) = true
  | 0, i, h0, hi, js, hc, hl, hw => by
    have : js = [] := List.eq_nil_of_length_eq_zero hl
    subst this
    exact .inl rfl
  | m + 1, i, h0, hi, js, hc, hl, hw => by
    cases js with
    | nil => simp at hl
    | cons j r =>
      obtain ⟨c1, c2, c3⟩ := hc
      have hl' : r.length = m := by simpa using hl
      have a1 := row_le_run h r (j + 1) c3
      rw [hl'] at a1
      have a2 := row_le h m i j c1 c2 a1.1
      simp only [runW] at hw
      have a3 : costF us i j + rowF us m (j + 1) = rowF us (m + 1) i := by omega
      have a4 : runW us (j + 1) r = rowF us m (j + 1) := by omega
      have hp := pick_spec us (m + 1) i j ⟨a1.1, a3⟩ (us.length - i) i c1 (by omega)
      simp only [Nat.add_sub_cancel] at hp
      obtain ⟨p1, p2, p3, p4⟩ := hp
      unfold reconI
      rw [if_pos (by omega)]
      generalize pickF us (m + 1) i (us.length - i) i = q at *
      by_cases e : q = j
      · subst e
        rcases reconI_first h m (q + 1) p3 (by omega) r c3 hl' a4 with e | e
        · exact .inl (by rw [e])
        · right
          simp only [List.map_cons, lexB, if_true]
          exact e
      · right
        have := h.asc (i := q) (j := j) (by omega) c2
        simp only [List.map_cons, lexB, szU]
        rw [if_neg (by omega)]
        simpa using this
/-- the waste of a usage with the sizes at some places as classes is that of its runs -/
theorem cls_map {us : List (Int × Int)} (h : okU us) (pre : List Int) (j k : Nat) (r : List Nat) (hkj : k ≤ j) (hj : j < us.length) (hp : ∀ q, q < pre.length → pre.getD q 0 < szU us k) : cls (pre ++ szU us j :: r.map (szU us)) (szU us k) = pre.length := by
  have hle := h.asc_le hkj hj
  induction pre with
  | nil => simp only [List.nil_append, cls, szU]; rw [if_neg (by omega)]; rfl
  | cons x pre ih =>
    have h0 := hp 0 (by simp)
    simp only [List.getD_cons_zero] at h0
    simp only [List.cons_append, cls, if_pos h0, List.length_cons]
    rw [ih (fun q hq => by have := hp (q + 1) (by simpa using hq); simpa using this)]
theorem getD_append_right (pre : List Int) (x : Int) (r : List Int) : (pre ++ x :: r).getD pre.length 0 = x := by
  simp
/-- the entries of one run, added one behind the other -/
theorem wst_run {us : List (Int × Int)} (h : okU us) (xs : List Int) (i j : Nat) (hj : j < us.length) (hc : ∀ k, i ≤ k → k ≤ j → cls xs (szU us k) < xs.length ∧ xs.getD (cls xs (szU us k)) 0 = szU us j) (a : Int) : ∀ d, i + d ≤ j + 1 →
    wstL xs a (us.drop i) = wstL xs (a + ((objF us (i + d) - objF us i) * szU us j - (bytF us (i + d) - bytF us i))) (us.drop (i + d))
  | 0, _ => by simp
  | d + 1, hd => by
    rw [wst_run h xs i j hj hc a d (by omega)]
    have hk := hc (i + d) (by omega) (by omega)
    rw [drop_cons' (0,0) us (i + d) (by omega), wstL, if_neg (by show ¬ cls xs (szU us (i + d)) = xs.length; omega)]
    have e1 : objF us (i + (d + 1)) = objF us (i + d) + (us.getD (i + d) (0,0)).2 := rfl
    have e2 : bytF us (i + (d + 1)) = bytF us (i + d) + (us.getD (i + d) (0,0)).2 * (us.getD (i + d) (0,0)).1 := rfl
    have e3 : xs.getD (cls xs (us.getD (i + d) (0,0)).1) 0 = szU us j := hk.2
    rw [e3]
    have e4 : a + ((objF us (i + d) - objF us i) * szU us j - (bytF us (i + d) - bytF us i)) + (szU us j - (us.getD (i + d) (0,0)).1) * (us.getD (i + d) (0,0)).2 = a + ((objF us (i + (d + 1)) - objF us i) * szU us j - (bytF us (i + (d + 1)) - bytF us i)) := by
      rw [e1, e2]
      generalize szU us j = s
      generalize (us.getD (i + d) (0,0)).2 = t
      generalize (us.getD (i + d) (0,0)).1 = x
      have e5 : (s - x) * t = t * s - t * x := by rw [Int.sub_mul, Int.mul_comm s t, Int.mul_comm x t]
      have e6 : (objF us (i + d) + t - objF us i) * s = (objF us (i + d) - objF us i) * s + t * s := by rw [← Int.add_mul]; congr 1; omega
      rw [e5, e6]; omega
    rw [e4]
    rfl
theorem wst_chain {us : List (Int × Int)} (h : okU us) : ∀ (r : List Nat) (pre : List Int) (i : Nat) (a : Int), chain us.length i r → (∀ q, q < pre.length → ∀ k, i ≤ k → k < us.length → pre.getD q 0 < szU us k) →
    wstL (pre ++ r.map (szU us)) a (us.drop i) = some (a + runW us i r)
  | [], pre, i, a, hc, _ => by
    simp only [chain] at hc
    subst hc
    simp [wstL, runW]
  | j :: r, pre, i, a, hc, hp => by
    obtain ⟨c1, c2, c3⟩ := hc
    have hcl : ∀ k, i ≤ k → k ≤ j → cls (pre ++ (j :: r).map (szU us)) (szU us k) = pre.length := fun k k1 k2 => by
      rw [List.map_cons]; exact cls_map h pre j k r k2 c2 (fun q hq => hp q hq k k1 (by omega))
    have e := wst_run h (pre ++ (j :: r).map (szU us)) i j c2 (fun k k1 k2 => by
      rw [hcl k k1 k2]
      refine ⟨by simp, ?_⟩
      rw [List.map_cons]; exact getD_append_right _ _ _) a (j + 1 - i) (by omega)
    rw [show i + (j + 1 - i) = j + 1 by omega] at e
    rw [e]
    have e2 : pre ++ (j :: r).map (szU us) = (pre ++ [szU us j]) ++ r.map (szU us) := by simp
    rw [e2, wst_chain h r (pre ++ [szU us j]) (j + 1) _ c3 (fun q hq k k1 k2 => ?_)]
    · simp only [runW, costF, szU]
      congr 1
      omega
    · simp only [List.length_append, List.length_cons, List.length_nil] at hq
      by_cases e : q < pre.length
      · have := hp q e k (by omega) k2
        rw [List.getD_eq_getElem?_getD, List.getElem?_append_left e, ← List.getD_eq_getElem?_getD]; exact this
      · have : q = pre.length := by omega
        subst this
        have := h.asc (i := j) (j := k) (by omega) k2
        simpa [szU] using this
/-- an entry that is greater than all classes -/
theorem wst_none (xs : List Int) : ∀ (us : List (Int × Int)) (a : Int), (∃ u ∈ us, cls xs u.1 = xs.length) → wstL xs a us = none
  | [], _, h => by obtain ⟨u, hu, _⟩ := h; cases hu
  | v :: r, a, h => by
    unfold wstL
    split
    · rfl
    · rename_i hv
      refine wst_none xs r _ ?_
      obtain ⟨u, hu, hc⟩ := h
      rcases List.mem_cons.1 hu with e | e
      · subst e; exact absurd hc hv
      · exact ⟨u, e, hc⟩
/-- ascending places from i on -/
def incr (n : Nat) : Nat → List Nat → Prop
  | _, [] => True
  | i, j :: r => i ≤ j ∧ j < n ∧ incr n (j + 1) r
theorem incr_snoc {n : Nat} : ∀ {js : List Nat} {i m : Nat}, incr n i js → (∀ j ∈ js, j < m) → i ≤ m → m < n → incr n i (js ++ [m])
  | [], i, m, _, _, hi, hm => ⟨hi, hm, trivial⟩
  | j :: r, i, m, h, hl, hi, hm => ⟨h.1, h.2.1, incr_snoc h.2.2 (fun x hx => hl x (by simp [hx])) (by have := hl j (by simp); omega) hm⟩
theorem incr_chain {n : Nat} : ∀ {js : List Nat} {i : Nat}, incr n i js → i ≤ n → chain n i js ∨ (∀ j ∈ js, j + 1 < n) ∧ i < n
  | [], i, _, hi => by
    by_cases e : i = n
    · exact .inl e
    · exact .inr ⟨by simp, by omega⟩
  | j :: r, i, h, hi => by
    rcases incr_chain h.2.2 (by have := h.2.1; omega) with c | ⟨c1, c2⟩
    · exact .inl ⟨h.1, h.2.1, c⟩
    · refine .inr ⟨fun x hx => ?_, by have := h.1; have := h.2.1; omega⟩
      rcases List.mem_cons.1 hx with e | e
      · subst e; omega
      · exact c1 x e
theorem cls_full (s : Int) : ∀ (xs : List Int), (∀ x ∈ xs, x < s) → cls xs s = xs.length
  | [], _ => rfl
  | x :: r, h => by
    rw [cls, if_pos (h x (by simp)), cls_full s r (fun y hy => h y (by simp [hy]))]; rfl
theorem wst_incr {us : List (Int × Int)} (h : okU us) (js : List Nat) (hi : incr us.length 0 js) (hn : 1 ≤ us.length) :
    (chain us.length 0 js ∧ wstL (js.map (szU us)) 0 us = some (runW us 0 js)) ∨ wstL (js.map (szU us)) 0 us = none := by
  rcases incr_chain hi (by omega) with c | ⟨c, _⟩
  · left
    have := wst_chain h js [] 0 0 c (by simp)
    simp only [List.nil_append, List.drop_zero, Int.zero_add] at this
    exact ⟨c, this⟩
  · right
    refine wst_none _ us 0 ⟨us.getD (us.length - 1) (0,0), ?_, ?_⟩
    · rw [List.getD_eq_getElem?_getD, List.getElem?_eq_getElem (by omega)]; simp
    · refine cls_full _ _ (fun x hx => ?_)
      obtain ⟨j, hj, rfl⟩ := List.mem_map.1 hx
      have := c j hj
      exact h.asc (by omega) (by omega)
/-- a table is preferred to another one with the same waste -/
def befB (a b : List Int) : Bool := if a.length ≠ b.length then decide (a.length < b.length) else lexB a b
/-- what one set of sizes does to the best table so far -/
def leafF (us : List (Int × Int)) (l : List Int) (st : List Int × Int) : List Int × Int :=
  match wstL l 0 us with
  | none => st
  | some n => if st.1.length = 0 ∨ n < st.2 ∨ (n = st.2 ∧ befB l st.1 = true) then (l, n) else st
/-- all sets of requested sizes are tried -/
def chooseF (us : List (Int × Int)) (k : Nat) : Nat → List Int → List Int × Int → List Int × Int
  | 0, l, st => if k < l.length then st else leafF us l st
  | d + 1, l, st => if k < l.length then st else chooseF us k d l (chooseF us k d (l ++ [szU us (us.length - (d + 1))]) st)
section
variable {us : List (Int × Int)} {R : List Int} {w : Int} {k : Nat}
/-- the best table so far is not better than R -/
def notBetter (R : List Int) (w : Int) (st : List Int × Int) : Prop := st = (R, w) ∨ st.1.length = 0 ∨ w < st.2 ∨ (w = st.2 ∧ befB R st.1 = true)
theorem lexB_irrefl : ∀ a : List Int, lexB a a = false
  | [] => rfl
  | x :: a => by simp [lexB, lexB_irrefl a]
theorem lexB_asymm : ∀ a b : List Int, lexB a b = true → lexB b a = false
  | [], _, h => by simp [lexB] at h
  | _ :: _, [], h => by simp [lexB] at h
  | x :: a, y :: b, h => by
    unfold lexB at h ⊢
    by_cases e : x = y
    · rw [if_pos e] at h; rw [if_pos e.symm]; exact lexB_asymm a b h
    · rw [if_neg e] at h; rw [if_neg (fun h => e h.symm)]; simp at h ⊢; omega
theorem befB_asymm (a b : List Int) (h : befB a b = true) : befB b a = false := by
  unfold befB at h ⊢
  by_cases e : a.length = b.length
  · rw [if_neg (by simpa using e)] at h; rw [if_neg (by simpa using e.symm)]; exact lexB_asymm a b h
  · rw [if_pos (by simpa using e)] at h; rw [if_pos (by simpa using fun h => e h.symm)]; simp at h ⊢; omega
theorem befB_irrefl (a : List Int) : befB a a = false := by unfold befB; simp [lexB_irrefl]
variable (hR : R ≠ []) (hmin : ∀ js, incr us.length 0 js → js.length ≤ k → ∀ n, wstL (js.map (szU us)) 0 us = some n → (js.map (szU us)) = R ∧ n = w ∨ w < n ∨ (w = n ∧ befB R (js.map (szU us)) = true))
include hmin
theorem leaf_keeps {js : List Nat} (hi : incr us.length 0 js) (hlk : js.length ≤ k) {st : List Int × Int} (hs : notBetter R w st) : notBetter R w (leafF us (js.map (szU us)) st) := by
  unfold leafF
  split
  · exact hs
  · rename_i n hn
    split
    · rcases hmin js hi hlk n hn with ⟨e1, e2⟩ | e | e
      · exact .inl (by rw [e1, e2])
      · exact .inr (.inr (.inl e))
      · exact .inr (.inr (.inr e))
    · exact hs
include hR
theorem leaf_stays {js : List Nat} (hi : incr us.length 0 js) (hlk : js.length ≤ k) : leafF us (js.map (szU us)) (R, w) = (R, w) := by
  unfold leafF
  split
  · rfl
  · rename_i n hn
    rcases hmin js hi hlk n hn with ⟨e1, e2⟩ | e | ⟨e1, e2⟩
    · rw [e1, e2]; split <;> rfl
    · rw [if_neg]
      rintro (h | h | ⟨h, _⟩)
      · exact hR (List.eq_nil_of_length_eq_zero h)
      · simp only at h; omega
      · simp only at h; omega
    · rw [if_neg]
      rintro (h | h | ⟨_, h⟩)
      · exact hR (List.eq_nil_of_length_eq_zero h)
      · simp only at h; omega
      · simp only at h; rw [befB_asymm _ _ e2] at h; cases h
omit hR in
theorem choose_keeps : ∀ (d : Nat) (js : List Nat) (st : List Int × Int), d ≤ us.length → incr us.length 0 js → (∀ j ∈ js, j < us.length - d) → notBetter R w st → notBetter R w (chooseF us k d (js.map (szU us)) st)
  | 0, js, st, _, hi, _, hs => by
    unfold chooseF
    split
    · exact hs
    · rename_i hk; exact leaf_keeps hmin hi (by simpa using hk) hs
  | d + 1, js, st, hd, hi, hl, hs => by
    unfold chooseF
    split
    · exact hs
    · refine choose_keeps d js _ (by omega) hi (fun j hj => by have := hl j hj; omega) ?_
      have e : js.map (szU us) ++ [szU us (us.length - (d + 1))] = (js ++ [us.length - (d + 1)]).map (szU us) := by simp
      rw [e]
      refine choose_keeps d _ st (by omega) (incr_snoc hi hl (by omega) (by omega)) (fun j hj => ?_) hs
      rcases List.mem_append.1 hj with h | h
      · have := hl j h; omega
      · simp at h; omega
theorem choose_stays : ∀ (d : Nat) (js : List Nat), d ≤ us.length → incr us.length 0 js → (∀ j ∈ js, j < us.length - d) → chooseF us k d (js.map (szU us)) (R, w) = (R, w)
  | 0, js, _, hi, _ => by
    unfold chooseF
    split
    · rfl
    · rename_i hk; exact leaf_stays hR hmin hi (by simpa using hk)
  | d + 1, js, hd, hi, hl => by
    unfold chooseF
    split
    · rfl
    · have e : js.map (szU us) ++ [szU us (us.length - (d + 1))] = (js ++ [us.length - (d + 1)]).map (szU us) := by simp
      rw [e, choose_stays d _ (by omega) (incr_snoc hi hl (by omega) (by omega)) (fun j hj => by
        rcases List.mem_append.1 hj with h | h
        · have := hl j h; omega
        · simp at h; omega)]
      exact choose_stays d js (by omega) hi (fun j hj => by have := hl j hj; omega)
/-- the set that makes R is come to -/
theorem choose_finds (hw : wstL R 0 us = some w) (hRk : R.length ≤ k) : ∀ (d : Nat) (js rest : List Nat) (st : List Int × Int), d ≤ us.length → incr us.length 0 js → (∀ j ∈ js, j < us.length - d) → incr us.length (us.length - d) rest → (js ++ rest).map (szU us) = R → notBetter R w st →
    chooseF us k d (js.map (szU us)) st = (R, w)
  | 0, js, rest, st, _, hi, hl, hr, he, hs => by
    have hnil : rest = [] := by
      cases rest with
      | nil => rfl
      | cons j r => have := hr.1; have := hr.2.1; omega
    subst hnil
    rw [List.append_nil] at he
    unfold chooseF
    rw [if_neg (by rw [he]; omega), he]
    unfold leafF
    rw [hw]
    show (if st.1.length = 0 ∨ w < st.2 ∨ (w = st.2 ∧ befB R st.1 = true) then (R, w) else st) = (R, w)
    rcases hs with h | h | h | h
    · rw [h]; split <;> rfl
    · rw [if_pos (.inl h)]
    · rw [if_pos (.inr (.inl h))]
    · rw [if_pos (.inr (.inr h))]
  | d + 1, js, rest, st, hd, hi, hl, hr, he, hs => by
    have hlen : (js.map (szU us)).length ≤ k := by
      have := congrArg List.length he
      simp at this ⊢; omega
    have e : js.map (szU us) ++ [szU us (us.length - (d + 1))] = (js ++ [us.length - (d + 1)]).map (szU us) := by simp
    have hi2 := incr_snoc hi hl (Nat.zero_le _) (show us.length - (d + 1) < us.length by omega)
    have hl2 : ∀ j ∈ js ++ [us.length - (d + 1)], j < us.length - d := fun j hj => by
      rcases List.mem_append.1 hj with h | h
      · have := hl j h; omega
      · simp at h; omega
    have hl3 : ∀ j ∈ js, j < us.length - d := fun j hj => by have := hl j hj; omega
    unfold chooseF
    rw [if_neg (by omega), e]
    cases rest with
    | nil =>
      refine choose_finds hw hRk d js [] _ (by omega) hi hl3 trivial he ?_
      exact choose_keeps hmin d _ st (by omega) hi2 hl2 hs
    | cons j r =>
      obtain ⟨r1, r2, r3⟩ := hr
      by_cases ej : j = us.length - (d + 1)
      · subst ej
        rw [choose_finds hw hRk d (js ++ [us.length - (d + 1)]) r st (by omega) hi2 hl2 (by rwa [show us.length - (d + 1) + 1 = us.length - d by omega] at r3) (by rw [← he]; simp) hs]
        exact choose_stays hR hmin d js (by omega) hi hl3
      · refine choose_finds hw hRk d js (j :: r) _ (by omega) hi hl3 ⟨by omega, r2, r3⟩ he ?_
        exact choose_keeps hmin d _ st (by omega) hi2 hl2 hs
end
theorem chain_incr {n : Nat} : ∀ {js : List Nat} {i : Nat}, chain n i js → incr n i js
  | [], _, _ => trivial
  | _ :: _, _, h => ⟨h.1, h.2.1, chain_incr h.2.2⟩
/-- no table out of requested sizes is better than that of the way back -/
theorem best_min {us : List (Int × Int)} (h : okU us) (k K : Nat) (hn : 1 ≤ us.length) (hk : 1 ≤ k) (hK : K = min k us.length) (js : List Nat) (hc : chain us.length 0 js) (hl : js.length ≤ k) :
    js.map (szU us) = recon us (mSel us K K) 0 ∧ runW us 0 js = rowF us K 0 ∨ rowF us K 0 < runW us 0 js ∨ (rowF us K 0 = runW us 0 js ∧ befB (recon us (mSel us K K) 0) (js.map (szU us)) = true) := by
  have hlen := chain_le hc
  have hq1 : 1 ≤ js.length := by
    cases js with
    | nil => simp [chain] at hc; omega
    | cons j r => simp
  have a1 := row_le_run h js 0 hc
  have a2 := row_mono' h js.length hq1 (K - js.length) (by omega)
  rw [show js.length + (K - js.length) = K by omega] at a2
  have hM := mSel_le us K K
  have hMr := mSel_row us K K rfl (by omega)
  have hR := reconI_spec (us := us) (mSel us K K) 0 (by omega) (by rw [hMr]; exact a2.1)
  by_cases e : rowF us K 0 < runW us 0 js
  · exact .inr (.inl e)
  · have e1 : runW us 0 js = rowF us K 0 := by omega
    have e2 : rowF us js.length 0 = rowF us K 0 := by omega
    have hmm := mSel_min h K js.length hq1 (by omega) e2 K (by omega) (Nat.le_refl _)
    have hRl : (recon us (mSel us K K) 0).length = mSel us K K := by rw [recon_map, List.length_map]; exact hR.2.1
    by_cases e3 : mSel us K K = js.length
    · rcases reconI_first h (mSel us K K) 0 (by rw [hMr]; exact a2.1) (by omega) js hc e3.symm (by rw [hMr]; exact e1) with x | x
      · left; rw [recon_map, ← x]; exact ⟨rfl, e1⟩
      · right; right
        refine ⟨e1.symm, ?_⟩
        unfold befB
        rw [if_neg (by rw [hRl, List.length_map]; simpa using e3), recon_map]
        exact x
    · right; right
      refine ⟨e1.symm, ?_⟩
      unfold befB
      rw [if_pos (by rw [hRl, List.length_map]; simpa using e3), hRl, List.length_map]
      simp; omega
/-- what the reference of Best finds -/
theorem choose_law {us : List (Int × Int)} (h : okU us) (k K : Nat) (hn : 1 ≤ us.length) (hk : 1 ≤ k) (hK : K = min k us.length) : chooseF us k us.length [] ([], 0) = (recon us (mSel us K K) 0, rowF us K 0) := by
  have hM := mSel_le us K K
  have hMr := mSel_row us K K rfl (by omega)
  have h0 := row_nonneg h K 0 (by omega) (by omega)
  obtain ⟨r1, r2, r3⟩ := reconI_spec (us := us) (mSel us K K) 0 (by omega) (by rw [hMr]; exact h0)
  have hRl : (recon us (mSel us K K) 0).length = mSel us K K := by rw [recon_map, List.length_map]; exact r2
  have hR : recon us (mSel us K K) 0 ≠ [] := fun e => by rw [e] at hRl; simp at hRl; omega
  have hw : wstL (recon us (mSel us K K) 0) 0 us = some (rowF us K 0) := by
    rw [recon_map]
    have := wst_chain h (reconI us (mSel us K K) 0) [] 0 0 r1 (by simp)
    simp only [List.nil_append, List.drop_zero, Int.zero_add] at this
    rw [this, r3, hMr]
  have hlk : ∀ js, incr us.length 0 js → js.length ≤ k → ∀ n, wstL (js.map (szU us)) 0 us = some n → (js.map (szU us)) = recon us (mSel us K K) 0 ∧ n = rowF us K 0 ∨ rowF us K 0 < n ∨ (rowF us K 0 = n ∧ befB (recon us (mSel us K K) 0) (js.map (szU us)) = true) := fun js hi hl n hn' => by
    rcases wst_incr h js hi hn with ⟨c1, c2⟩ | c
    · rw [c2] at hn'
      injection hn' with hn'
      rw [← hn']
      exact best_min h k K hn hk hK js c1 hl
    · rw [c] at hn'; cases hn'
  have := choose_finds hR hlk hw (by rw [hRl]; omega) us.length [] (reconI us (mSel us K K) 0) ([], 0) (Nat.le_refl _) trivial (by simp) (by rw [Nat.sub_self]; exact chain_incr r1) (by rw [List.nil_append, recon_map]) (.inr (.inl rfl))
  simpa using this
end Go.Pol
