/- What the best plan is, and what its moves do; no program in sight. -/
import Derived.Test.YtifdgabfnnkghaaVSpecF
namespace Go.Pol
/-- a candidate that can be emptied -/
def goodB (pg : Nat) (bs : List B3) (o k : Nat) : Prop := staysM bs (o : Int) (movedB bs (placeB o k)) = false ∧ (emptyB pg bs (placeB o k) (movedB bs (placeB o k))).2 = true
def costK (bs : List B3) (o k : Nat) : Int := costM bs (movedB bs (placeB o k))
theorem lessP_le {c : Int} {ms : List (Int × Int)} {st : PlanSt} (h : lessP c ms st = true) : c ≤ st.2.1 := by
  unfold lessP at h
  rw [decide_eq_true_eq] at h
  simp only [orN] at h
  by_cases h0 : cmpN c st.2.1 = 0
  · have := cmpN_zero.1 h0; omega
  · rw [if_neg h0] at h
    have := cmpN_lt.1 h; omega
theorem le_lessP {c : Int} {ms : List (Int × Int)} {st : PlanSt} (h : lessP c ms st = false) : st.2.1 ≤ c := by
  unfold lessP at h
  rw [decide_eq_false_iff_not] at h
  simp only [orN] at h
  by_cases h0 : c < st.2.1
  · have h1 := cmpN_lt.2 h0
    rw [if_neg (by omega)] at h
    exact absurd h1 h
  · omega
def planT (pg : Nat) (bs : List B3) (o k : Nat) : PlanSt := (List.range k).foldl (stepP pg bs o) ([], 0, false)
theorem planT_succ (pg : Nat) (bs : List B3) (o k : Nat) : planT pg bs o (k + 1) = stepP pg bs o (planT pg bs o k) k := by
  unfold planT
  rw [List.range_succ, List.foldl_append]; rfl
theorem planB_T (pg : Nat) (bs : List B3) (o : Nat) : planB pg bs o = planT pg bs o (pg / 2 ^ o) := rfl
theorem planT_spec (pg : Nat) (bs : List B3) (o : Nat) : ∀ K,
    ((planT pg bs o K).2.2 = false → planT pg bs o K = ([], 0, false) ∧ ∀ k, k < K → ¬ goodB pg bs o k) ∧
    ((planT pg bs o K).2.2 = true → ∃ k, k < K ∧ goodB pg bs o k ∧ (planT pg bs o K).1 = (emptyB pg bs (placeB o k) (movedB bs (placeB o k))).1 ∧ (planT pg bs o K).2.1 = costK bs o k ∧ ∀ j, j < K → goodB pg bs o j → (planT pg bs o K).2.1 ≤ costK bs o j)
  | 0 => ⟨fun _ => ⟨rfl, fun k hk => by omega⟩, fun h => by cases h⟩
  | K + 1 => by
    have ih := planT_spec pg bs o K
    rw [planT_succ]
    generalize planT pg bs o K = st at *
    obtain ⟨best, least, is⟩ := st
    have keep : (¬ goodB pg bs o K ∨ (is = true ∧ least ≤ costK bs o K)) →
        ((is = false → ((best, least, is) : PlanSt) = ([], 0, false) ∧ ∀ k, k < K + 1 → ¬ goodB pg bs o k) ∧
        (is = true → ∃ k, k < K + 1 ∧ goodB pg bs o k ∧ best = (emptyB pg bs (placeB o k) (movedB bs (placeB o k))).1 ∧ least = costK bs o k ∧ ∀ j, j < K + 1 → goodB pg bs o j → least ≤ costK bs o j)) := by
      intro hK
      refine ⟨fun h => ?_, fun h => ?_⟩
      · obtain ⟨h1, h2⟩ := ih.1 h
        refine ⟨h1, fun k hk => ?_⟩
        by_cases e : k = K
        · subst e
          rcases hK with hK | hK
          · exact hK
          · rw [h] at hK; cases hK.1
        · exact h2 k (by omega)
      · obtain ⟨k, h1, h2, h3, h4, h5⟩ := ih.2 h
        refine ⟨k, by omega, h2, h3, h4, fun j hj hg => ?_⟩
        by_cases e : j = K
        · subst e
          rcases hK with hK | hK
          · exact absurd hg hK
          · exact hK.2
        · exact h5 j (by omega) hg
    unfold stepP
    by_cases hs : skipP bs o (movedB bs (placeB o K)) (best, least, is) = true
    · rw [if_pos hs]
      refine keep ?_
      unfold skipP at hs
      cases hst : staysM bs (o : Int) (movedB bs (placeB o K)) with
      | true => exact .inl (fun hg => by have := hg.1; rw [hst] at this; cases this)
      | false =>
        rw [hst] at hs
        cases his : is with
        | false => rw [his] at hs; cases hs
        | true =>
          rw [his] at hs
          simp only [Bool.false_or, Bool.true_and, Bool.or_eq_true, Bool.and_eq_true, decide_eq_true_eq] at hs
          refine .inr ⟨rfl, ?_⟩
          unfold costK
          omega
    · rw [if_neg hs]
      have hst : staysM bs (o : Int) (movedB bs (placeB o K)) = false := by
        cases hst : staysM bs (o : Int) (movedB bs (placeB o K)) with
        | false => rfl
        | true => exact absurd (by unfold skipP; rw [hst]; rfl) hs
      cases hE : (emptyB pg bs (placeB o K) (movedB bs (placeB o K))).2 with
      | false =>
        rw [Bool.false_and, if_neg (by simp)]
        exact keep (.inl (fun hg => by have := hg.2; rw [hE] at this; cases this))
      | true =>
        rw [Bool.true_and]
        have hg : goodB pg bs o K := ⟨hst, hE⟩
        cases his : is with
        | false =>
          simp only [Bool.not_false, Bool.true_or, if_true]
          refine ⟨fun h => (by cases h), fun _ => ⟨K, by omega, hg, rfl, rfl, fun j hj hgj => ?_⟩⟩
          by_cases e : j = K
          · subst e; exact Int.le_refl _
          · exact absurd hgj ((ih.1 his).2 j (by omega))
        | true =>
          simp only [Bool.not_true, Bool.false_or]
          cases hl : lessP (costM bs (movedB bs (placeB o K))) (emptyB pg bs (placeB o K) (movedB bs (placeB o K))).1 (best, least, true) with
          | false =>
            rw [if_neg (by simp)]
            have := keep (.inr ⟨his, le_lessP hl⟩)
            rw [his] at this
            exact this
          | true =>
            rw [if_pos rfl]
            have hle := lessP_le hl
            refine ⟨fun h => (by cases h), fun _ => ⟨K, by omega, hg, rfl, rfl, fun j hj hgj => ?_⟩⟩
            by_cases e : j = K
            · subst e; exact Int.le_refl _
            · obtain ⟨k, h1, h2, h3, h4, h5⟩ := ih.2 his
              have := h5 j (by omega) hgj
              simp only at this hle ⊢
              omega
/-! the blocks while moves are made -/
theorem getD_set (cs : List B3) (i j : Nat) (x : B3) (hi : i < cs.length) : (cs.set i x).getD j b0 = if i = j then x else cs.getD j b0 := by
  simp only [List.getD_eq_getElem?_getD, List.getElem?_set]
  by_cases e : i = j
  · subst e; simp [hi]
  · simp [e]
theorem memD {cs : List B3} {k : Nat} (h : k < cs.length) : cs.getD k b0 ∈ cs := by
  rw [List.getD_eq_getElem?_getD, List.getElem?_eq_getElem h]; simp
theorem memI {cs : List B3} {c : B3} (h : c ∈ cs) : ∃ k, k < cs.length ∧ cs.getD k b0 = c := by
  obtain ⟨k, hk, rfl⟩ := List.mem_iff_getElem.1 h
  exact ⟨k, hk, by rw [List.getD_eq_getElem?_getD, List.getElem?_eq_getElem hk]; rfl⟩
theorem possB_zero {pages : Int} {cs : List B3} {mv : Int × Int} (h : possB pages cs mv = 0) : (0 ≤ mv.1 ∧ mv.1 < cs.length) ∧ (cs.getD mv.1.toNat b0).2.2 = false ∧ insB pages mv.2 (cs.getD mv.1.toNat b0).2.1 = true ∧ ∀ c ∈ cs, overB c (mv.2, (cs.getD mv.1.toNat b0).2.1, false) = false := by
  unfold possB at h
  by_cases h1 : mv.1 < 0 ∨ (cs.length : Int) ≤ mv.1
  · rw [if_pos h1] at h; omega
  · rw [if_neg h1] at h
    by_cases h2 : (cs.getD mv.1.toNat b0).2.2 = true
    · rw [if_pos h2] at h; omega
    · rw [if_neg h2] at h
      by_cases h3 : insB pages mv.2 (cs.getD mv.1.toNat b0).2.1 = false
      · rw [if_pos h3] at h; omega
      · rw [if_neg h3] at h
        by_cases h4 : cs.any (fun c => overB c (mv.2, (cs.getD mv.1.toNat b0).2.1, false)) = true
        · rw [if_pos h4] at h; omega
        · refine ⟨by omega, by simpa using h2, by simpa using h3, fun c hc => ?_⟩
          cases ho : overB c (mv.2, (cs.getD mv.1.toNat b0).2.1, false) with
          | false => rfl
          | true => exact absurd (List.any_eq_true.2 ⟨c, hc, ho⟩) h4
theorem possB_of {pages : Int} {cs : List B3} {mv : Int × Int} (h1 : 0 ≤ mv.1 ∧ mv.1 < cs.length) (h2 : (cs.getD mv.1.toNat b0).2.2 = false) (h3 : insB pages mv.2 (cs.getD mv.1.toNat b0).2.1 = true) (h4 : ∀ c ∈ cs, overB c (mv.2, (cs.getD mv.1.toNat b0).2.1, false) = false) : possB pages cs mv = 0 := by
  unfold possB
  rw [if_neg (by omega), if_neg (by rw [h2]; simp), if_neg (by rw [h3]; simp), if_neg]
  intro h
  obtain ⟨c, hc, ho⟩ := List.any_eq_true.1 h
  rw [h4 c hc] at ho; cases ho
theorem overB_last (a b c : B3) (h1 : b.1 = c.1) (h2 : b.2.1 = c.2.1) : overB a b = overB a c := by unfold overB; rw [h1, h2]
theorem apart_sym {pages : Int} {cs : List B3} (ok : okB pages cs) {i j : Nat} (hi : i < cs.length) (hj : j < cs.length) (hne : i ≠ j) : overB (cs.getD i b0) (cs.getD j b0) = false := by
  rcases Nat.lt_or_gt_of_ne hne with h | h
  · rw [overB_comm]; exact ok.apart j i hj h
  · exact ok.apart i j hi h
/-- blocks stay in order where a move is possible -/
theorem okB_mov {pages : Int} {cs : List B3} {mv : Int × Int} (ok : okB pages cs) (h : possB pages cs mv = 0) : okB pages (movB cs mv) := by
  obtain ⟨⟨h0, h1⟩, _, h3, h4⟩ := possB_zero h
  have hi : mv.1.toNat < cs.length := by omega
  unfold movB
  have hov : ∀ j, j < cs.length → overB (cs.getD j b0) (mv.2, (cs.getD mv.1.toNat b0).2) = false := fun j hj => by
    exact (overB_last _ (mv.2, (cs.getD mv.1.toNat b0).2) (mv.2, (cs.getD mv.1.toNat b0).2.1, false) rfl rfl).trans (h4 _ (memD hj))
  refine ⟨ok.space, by rw [List.length_set]; exact ok.len, fun b hb => ?_, fun i k hi' hk => ?_⟩
  · rcases List.mem_or_eq_of_mem_set hb with hb | hb
    · exact ok.ins b hb
    · subst hb; exact h3
  · rw [List.length_set] at hi'
    rw [getD_set _ _ _ _ hi, getD_set _ _ _ _ hi]
    by_cases e1 : mv.1.toNat = i
    · rw [if_pos e1]
      by_cases e2 : mv.1.toNat = k
      · omega
      · rw [if_neg e2, overB_comm]; exact hov k (by omega)
    · rw [if_neg e1]
      by_cases e2 : mv.1.toNat = k
      · rw [if_pos e2]; exact hov i hi'
      · rw [if_neg e2]; exact ok.apart i k hi' hk
/-- pages of a block -/
def inB (b : B3) (k : Nat) : Prop := b.1 ≤ (k : Int) ∧ (k : Int) < b.1 + pw b.2.1
/-- has a block a page in common with n pages from p on? -/
def hitB (b : B3) (p n : Nat) : Prop := b.1 < ((p + n : Nat) : Int) ∧ (p : Int) < b.1 + pw b.2.1
theorem hitB_place (b : B3) (o k : Nat) : hitB b (k * 2 ^ o) (2 ^ o) ↔ overB b (placeB o k) = true := by
  rw [overB_iff]
  unfold hitB
  simp only [pw_nat, Int.natCast_add]
theorem hit_page {b : B3} {p n : Nat} (hb : 0 ≤ b.1) (hn : 1 ≤ n) (h : hitB b p n) : ∃ k : Nat, inB b k ∧ p ≤ k ∧ k < p + n := by
  have h1 := h.1
  have h2 := h.2
  have hp := pw_pos b.2.1
  unfold inB
  by_cases hc : b.1 ≤ (p : Int)
  · exact ⟨p, ⟨hc, h2⟩, Nat.le_refl _, by omega⟩
  · exact ⟨b.1.toNat, ⟨by omega, by omega⟩, by omega, by omega⟩
theorem page_hit {b : B3} {p n k : Nat} (hk : inB b k) (h1 : p ≤ k) (h2 : k < p + n) : hitB b p n := by
  unfold hitB
  have := hk.1
  have := hk.2
  constructor <;> omega
theorem over_page {a b : B3} (ha : 0 ≤ a.1) (hb : 0 ≤ b.1) (h : overB a b = true) : ∃ k : Nat, inB a k ∧ inB b k := by
  have h' := overB_iff.1 h
  have h1 := pw_pos a.2.1
  have h2 := pw_pos b.2.1
  unfold inB
  by_cases hc : a.1 ≤ b.1
  · exact ⟨b.1.toNat, ⟨by omega, by omega⟩, by omega, by omega⟩
  · exact ⟨a.1.toNat, ⟨by omega, by omega⟩, by omega, by omega⟩
theorem page_over {a b : B3} {k : Nat} (h1 : inB a k) (h2 : inB b k) : overB a b = true := by
  have := h1.1
  have := h1.2
  have := h2.1
  have := h2.2
  exact overB_iff.2 ⟨by omega, by omega⟩
theorem ord_int {pages : Int} {bs : List B3} (ok : okB pages bs) {i : Nat} (hi : i < bs.length) : (bs.getD i b0).2.1 = ((ordB bs i : Nat) : Int) ∧ ordB bs i ≤ 10 := by
  have h := (insB_iff.1 (ok.ins _ (memD hi))).1
  unfold ordB
  omega
/-- moves to free places are possible, one after the other; behind them no block is in the candidate -/
theorem after_steps {pg : Nat} {bs : List B3} {p n : Nat} (ok0 : okB (pg : Int) bs) (hn : 1 ≤ n) : ∀ (ms : List (Int × Int)) (l : List Nat) (m : Nat → Bool) (cs : List B3),
    stepsB pg bs m ms → ms.map (·.1) = l.map (fun i : Nat => (i : Int)) → okB (pg : Int) cs → cs.length = bs.length → (∀ i, i < bs.length → (cs.getD i b0).2 = (bs.getD i b0).2) →
    (∀ b ∈ cs, ∀ k, inB b k → m k = true) → (∀ i ∈ l, i < bs.length ∧ (bs.getD i b0).2.2 = false) → (∀ k, p ≤ k → k < p + n → m k = true) →
    (∀ i, i < bs.length → hitB (cs.getD i b0) p n → i ∈ l) →
    ∃ cs', afterL (pg : Int) cs ms = (cs', 0) ∧ okB (pg : Int) cs' ∧ cs'.length = bs.length ∧ ∀ i, i < bs.length → ¬ hitB (cs'.getD i b0) p n
  | [], l, m, cs, _, hl, ok, hlen, _, _, _, _, hc => by
    obtain rfl : l = [] := by cases l with | nil => rfl | cons _ _ => cases hl
    exact ⟨cs, rfl, ok, hlen, fun i hi hh => by simpa using hc i hi hh⟩
  | mv :: r, l, m, cs, hst, hl, ok, hlen, hsame, hm, hL, hcand, hc => by
    obtain ⟨i, a, rfl, hf, hst'⟩ := hst
    obtain ⟨l', rfl⟩ : ∃ l', l = i :: l' := by
      cases l with
      | nil => cases hl
      | cons x l' =>
        simp only [List.map_cons, List.cons.injEq] at hl
        exact ⟨l', by rw [show x = i by omega]⟩
    obtain ⟨hi, hpin⟩ := hL i (by simp)
    have hic : i < cs.length := by omega
    have hsi := hsame i hi
    obtain ⟨ho, ho10⟩ := ord_int ok0 hi
    have hf' := frB_iff.1 hf
    obtain ⟨sz, hsz⟩ : ∃ sz, 2 ^ ordB bs i = sz := ⟨_, rfl⟩
    have hpe := place_end a (ordB bs i)
    rw [hsz] at hf' hpe
    obtain ⟨t, ht⟩ : ∃ t, a * sz = t := ⟨_, rfl⟩
    rw [ht] at hf' hpe
    have hto : ((a * 2 ^ ordB bs i : Nat) : Int) = (t : Int) := by rw [hsz, ht]
    have hpw : pw (cs.getD i b0).2.1 = (sz : Int) := by rw [hsi, ho, pw_nat, hsz]
    have hins : insB (pg : Int) (t : Int) (cs.getD i b0).2.1 = true := by
      refine insB_iff.2 ⟨by rw [hsi, ho]; omega, by omega, ?_, by rw [hpw]; omega⟩
      rw [hpw, ← ht, ← Int.natCast_emod, Nat.mul_mod_left]; rfl
    have hno : ∀ c ∈ cs, overB c ((t : Int), (cs.getD i b0).2.1, false) = false := fun c hcm => by
      cases hov : overB c ((t : Int), (cs.getD i b0).2.1, false) with
      | false => rfl
      | true =>
        obtain ⟨k, hk1, hk2⟩ := over_page (insB_iff.1 (ok.ins c hcm)).2.1 (by simp only; omega) hov
        have h1 := hm c hcm k hk1
        have h3 := hk2.1
        have h4 := hk2.2
        simp only [hpw] at h3 h4
        rw [hf'.2 k (by omega) (by omega)] at h1
        cases h1
    have hposs : possB (pg : Int) cs ((i : Int), (t : Int)) = 0 := possB_of (by simp only; omega) (by simp only [Int.toNat_natCast]; rw [hsi]; exact hpin) (by simpa using hins) (by simpa using hno)
    have hmov : movB cs ((i : Int), (t : Int)) = cs.set i ((t : Int), (cs.getD i b0).2) := by simp [movB]
    have ok' := okB_mov ok hposs
    rw [hto]
    rw [afterL, if_pos hposs, hmov]
    rw [hmov] at ok'
    simp only [List.map_cons, List.cons.injEq, true_and] at hl
    rw [hsz, ht] at hst'
    refine after_steps ok0 hn r l' (markB m t (ordB bs i)) _ hst' hl ok' (by rw [List.length_set]; exact hlen) (fun j hj => ?_) (fun b hb k hk => ?_) (fun j hj => hL j (List.mem_cons_of_mem _ hj)) (fun k h1 h2 => markB_iff.2 (.inl (hcand k h1 h2))) (fun j hj hh => ?_)
    · rw [getD_set _ _ _ _ hic]
      split
      · rename_i e; subst e; exact hsi
      · exact hsame j hj
    · rcases List.mem_or_eq_of_mem_set hb with hb | hb
      · exact markB_iff.2 (.inl (hm b hb k hk))
      · subst hb
        refine markB_iff.2 (.inr ?_)
        have h3 := hk.1
        have h4 := hk.2
        simp only [hpw] at h3 h4
        rw [hsz]
        omega
    · rw [getD_set _ _ _ _ hic] at hh
      by_cases e : i = j
      · rw [if_pos e] at hh
        exfalso
        obtain ⟨k, hk, hk1, hk2⟩ := hit_page (by simp only; omega) hn hh
        have h3 := hk.1
        have h4 := hk.2
        simp only [hpw] at h3 h4
        have := hf'.2 k (by omega) (by omega)
        rw [hcand k hk1 hk2] at this
        cases this
      · rw [if_neg e] at hh
        rcases List.mem_cons.1 (hc j hj hh) with h | h
        · exact absurd h.symm e
        · exact h
theorem markL_iff : ∀ (bs : List B3) (m : Nat → Bool) (k : Nat), markL m bs k = true ↔ m k = true ∨ ∃ b ∈ bs, b.1.toNat ≤ k ∧ k < b.1.toNat + 2 ^ b.2.1.toNat
  | [], m, k => by simp [markL]
  | b :: r, m, k => by
    have ih := markL_iff r (markB m b.1.toNat b.2.1.toNat) k
    have e : markL m (b :: r) = markL (markB m b.1.toNat b.2.1.toNat) r := by simp [markL]
    rw [e, ih, markB_iff]
    simp only [List.mem_cons, exists_eq_or_imp, or_assoc]
theorem inB_nat {pages : Int} {b : B3} {k : Nat} (h : insB pages b.1 b.2.1 = true) : inB b k ↔ b.1.toNat ≤ k ∧ k < b.1.toNat + 2 ^ b.2.1.toNat := by
  have h' := insB_iff.1 h
  have e : pw b.2.1 = ((2 ^ b.2.1.toNat : Nat) : Int) := by rw [← pw_nat, Int.toNat_of_nonneg h'.1.1]
  unfold inB
  rw [e]
  omega
/-- what is marked ahead: the candidate and the blocks -/
def markC (bs : List B3) (o k : Nat) : Nat → Bool := markL (markB (fun _ => false) (k * 2 ^ o) o) bs
theorem emptyB_place (pg : Nat) (bs : List B3) (o k : Nat) (l : List Nat) : emptyB pg bs (placeB o k) l = if holdsB (frB pg (markC bs o k)) (l.map (ordB bs)) = true then (greedy pg bs (markC bs o k) l, true) else ([], false) := by
  unfold emptyB markC
  simp only [Int.toNat_natCast]
theorem markC_iff {pages : Int} {bs : List B3} (ok : okB pages bs) (o k q : Nat) : markC bs o k q = true ↔ (k * 2 ^ o ≤ q ∧ q < k * 2 ^ o + 2 ^ o) ∨ ∃ b ∈ bs, inB b q := by
  unfold markC
  rw [markL_iff, markB_iff]
  simp only [Bool.false_eq_true, false_or]
  refine or_congr_right ⟨fun ⟨b, hb, h⟩ => ⟨b, hb, (inB_nat (ok.ins b hb)).2 h⟩, fun ⟨b, hb, h⟩ => ⟨b, hb, (inB_nat (ok.ins b hb)).1 h⟩⟩
theorem moved_iff {bs : List B3} {c : B3} {i : Nat} : i ∈ movedB bs c ↔ i < bs.length ∧ overB (bs.getD i b0) c = true := by
  unfold movedB
  rw [List.mem_filter, List.mem_range]
theorem stays_false {bs : List B3} {o : Int} {l : List Nat} (h : staysM bs o l = false) : ∀ i ∈ l, (bs.getD i b0).2.2 = false ∧ (bs.getD i b0).2.1 ≤ o := by
  intro i hi
  unfold staysM at h
  have := List.any_eq_false.1 h i hi
  simp only [Bool.or_eq_true, decide_eq_true_eq, not_or] at this
  exact ⟨by simpa using this.1, by omega⟩
theorem ordB_le {pages : Int} {bs : List B3} (ok : okB pages bs) (i : Nat) : ordB bs i ≤ 10 := by
  by_cases hi : i < bs.length
  · exact (ord_int ok hi).2
  · unfold ordB
    rw [List.getD_eq_getElem?_getD, List.getElem?_eq_none (by omega)]
    simp
/-- a candidate that can be emptied: its moves, and what they do -/
theorem good_moves {pg : Nat} {bs : List B3} {o k : Nat} (ok : okB (pg : Int) bs) (hpg : pg ≤ 1024) (hg : goodB pg bs o k) :
    (emptyB pg bs (placeB o k) (movedB bs (placeB o k))).1.map (·.1) = (movedB bs (placeB o k)).map (fun i : Nat => (i : Int)) ∧
    ∃ cs', afterL (pg : Int) bs (emptyB pg bs (placeB o k) (movedB bs (placeB o k))).1 = (cs', 0) ∧ okB (pg : Int) cs' ∧ cs'.length = bs.length ∧ ∀ i, i < bs.length → ¬ hitB (cs'.getD i b0) (k * 2 ^ o) (2 ^ o) := by
  obtain ⟨hst, hE⟩ := hg
  rw [emptyB_place] at hE ⊢
  by_cases hh : holdsB (frB pg (markC bs o k)) ((movedB bs (placeB o k)).map (ordB bs)) = true
  · rw [if_pos hh]
    obtain ⟨h1, h2⟩ := greedy_steps hpg (ordB_le ok) _ _ hh
    refine ⟨h2, after_steps ok (Nat.two_pow_pos o) _ _ _ bs h1 h2 ok rfl (fun _ _ => rfl) (fun b hb q hq => (markC_iff ok o k q).2 (.inr ⟨b, hb, hq⟩)) (fun i hi => ⟨(moved_iff.1 hi).1, (stays_false hst i hi).1⟩) (fun q h3 h4 => (markC_iff ok o k q).2 (.inl ⟨h3, h4⟩)) (fun i hi hit => moved_iff.2 ⟨hi, (hitB_place _ o k).1 hit⟩)⟩
  · rw [if_neg hh] at hE
    cases hE
theorem costL_sum (bs : List B3) : ∀ (ms : List (Int × Int)) (l : List Nat) (z : Int), ms.map (·.1) = l.map (fun i : Nat => (i : Int)) → (∀ i ∈ l, i < bs.length ∧ isOrd (bs.getD i b0).2.1 = true) → costL bs z ms = (z + costM bs l, 0)
  | [], l, z, h, _ => by
    obtain rfl : l = [] := by cases l with | nil => rfl | cons _ _ => cases h
    simp [costL, costM]
  | mv :: r, l, z, h, hl => by
    obtain ⟨i, l', rfl, hi, h'⟩ : ∃ i l', l = i :: l' ∧ mv.1 = (i : Int) ∧ r.map (·.1) = l'.map (fun i : Nat => (i : Int)) := by
      cases l with
      | nil => cases h
      | cons x l' =>
        simp only [List.map_cons, List.cons.injEq] at h
        exact ⟨x, l', rfl, h.1, h.2⟩
    obtain ⟨h1, h2⟩ := hl i (by simp)
    rw [costL, if_neg (by omega), hi, Int.toNat_natCast, if_neg (by rw [h2]; simp), costL_sum bs r l' _ h' (fun j hj => hl j (List.mem_cons_of_mem _ hj))]
    simp only [costM, List.map_cons, List.sum_cons, Int.add_assoc]
theorem moved_len (bs : List B3) (c : B3) : (movedB bs c).length ≤ bs.length := by
  unfold movedB
  exact Nat.le_trans (List.length_filter_le _ _) (by simp)
theorem good_cost {pg : Nat} {bs : List B3} {o k : Nat} (ok : okB (pg : Int) bs) (hpg : pg ≤ 1024) (hg : goodB pg bs o k) :
    (emptyB pg bs (placeB o k) (movedB bs (placeB o k))).1.length ≤ 64 ∧ costB bs (emptyB pg bs (placeB o k) (movedB bs (placeB o k))).1 = (costK bs o k, 0) := by
  obtain ⟨h, _⟩ := good_moves ok hpg hg
  have hl := moved_len bs (placeB o k)
  have hlen := congrArg List.length h
  rw [List.length_map, List.length_map] at hlen
  have h64 := ok.len
  refine ⟨by omega, ?_⟩
  unfold costB
  rw [if_neg (by omega), costL_sum bs _ _ 0 h (fun i hi => ⟨(moved_iff.1 hi).1, isOrd_iff.2 (insB_iff.1 (ok.ins _ (memD (moved_iff.1 hi).1))).1⟩), Int.zero_add]
  rfl
end Go.Pol
