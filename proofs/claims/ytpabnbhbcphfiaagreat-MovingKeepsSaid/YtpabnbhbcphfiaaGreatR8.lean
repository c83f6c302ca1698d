/- Merged texts. Plain laws of moves over a system: the committed pages of each block, and their bytes, stay with it, whatever is refused. Plain laws of moves over a system: how long the answers are. -/
import Derived.Test.YtpabnbhbcphfiaaGreatR7
namespace Go.Pol
open Go Go.RowKit

theorem mem_snocS (i : Int) (x : Sp) : ∀ l : List Sp, mem i (l ++ [x]) = (mem i l || (decide (x.1 ≤ i) && decide (i < x.1 + x.2)))
  | [] => by rw [List.nil_append, mem_cons, mem_nil, Bool.or_false, Bool.false_or]
  | y :: r => by rw [List.cons_append, mem_cons, mem_cons, mem_snocS i x r, Bool.or_assoc]
/-- the runs say which pages are committed -/
theorem runsM_mem (V : Vm) (p i : Int) : ∀ n, mem i (runsM V p n).1 = true ↔ (0 ≤ i ∧ i < (n : Int)) ∧ kindF V (p + i) = 2
  | 0 => by
    constructor
    · intro h; cases h
    · rintro ⟨h, _⟩; omega
  | n + 1 => by
    have ih := runsM_mem V p i n
    have hi := runsM_inv V p n
    rw [runsM_succ]
    by_cases hk : kindF V (p + (n : Int)) = 2
    · rw [if_neg (by simpa using hk)]
      by_cases hs : (runsM V p n).2 = true
      · rw [if_pos hs]
        obtain ⟨l, x, e, hx⟩ := hi.2.2 hs
        have hb := hi.2.1 x (by rw [e]; simp)
        simp only
        rw [e, bumpS_snoc, mem_snocS]
        rw [e, mem_snocS] at ih
        simp only [Bool.or_eq_true, Bool.and_eq_true, decide_eq_true_eq] at ih ⊢
        constructor
        · rintro (h | ⟨h1, h2⟩)
          · have := ih.1 (.inl h)
            exact ⟨by omega, this.2⟩
          · by_cases he : i = (n : Int)
            · rw [he]; exact ⟨by omega, hk⟩
            · have := ih.1 (.inr ⟨h1, by omega⟩)
              exact ⟨by omega, this.2⟩
        · rintro ⟨h1, h2⟩
          by_cases he : i = (n : Int)
          · exact .inr ⟨by omega, by omega⟩
          · rcases ih.2 ⟨by omega, h2⟩ with h | ⟨h, h'⟩
            · exact .inl h
            · exact .inr ⟨h, by omega⟩
      · rw [if_neg hs]
        simp only
        rw [mem_snocS, Bool.or_eq_true, ih]
        simp only [Bool.and_eq_true, decide_eq_true_eq]
        constructor
        · rintro (⟨h1, h2⟩ | ⟨h1, h2⟩)
          · exact ⟨by omega, h2⟩
          · have : i = (n : Int) := by omega
            rw [this]; exact ⟨by omega, hk⟩
        · rintro ⟨h1, h2⟩
          by_cases he : i = (n : Int)
          · exact .inr ⟨by omega, by omega⟩
          · exact .inl ⟨by omega, h2⟩
    · rw [if_pos hk]
      simp only
      rw [ih]
      constructor
      · rintro ⟨h1, h2⟩; exact ⟨by omega, h2⟩
      · rintro ⟨h1, h2⟩
        refine ⟨⟨h1.1, ?_⟩, h2⟩
        by_cases he : i = (n : Int)
        · rw [he] at h2; exact absurd h2 hk
        · omega
theorem bec_out (V : Vm) (a n : Int) (call : Nat) (fr tk : Int) (y : Nat) (h : ¬ (a ≤ y ∧ (y : Int) < a + n)) : (bec V a n call fr tk).2.pg y = V.pg y := by
  rcases makeF_cases V a n call (fun g => g.kind == fr && !g.huge) (fun _ => newPg tk) with ⟨_, h2⟩ | ⟨_, _, _, _, _, h4⟩
  · unfold bec; rw [h2]
  · unfold bec; rw [h4, if_neg h]
/-- runs committed: which pages are now -/
theorem cmF_pg (q : Int) : ∀ (l : List Sp) (V : Vm) (y : Nat), (cmF q l V).2.2.pg y = if mem ((y : Int) - q) (l.take (cmF q l V).1) = true then newPg 2 else V.pg y
  | [], V, y => by simp [cmF, mem_nil]
  | x :: r, V, y => by
    unfold cmF
    rcases makeF_cases V (q + x.1) x.2 2 (fun g => g.kind == 1 && !g.huge) (fun _ => newPg 2) with ⟨h1, h2⟩ | ⟨h1, h0, _, h2, h3, h4⟩
    · have h1' : ¬ (bec V (q + x.1) x.2 2 1 2).1 = 0 := h1
      rw [if_neg h1']
      have e : mem ((y : Int) - q) (List.take 0 (x :: r)) = false := rfl
      show (bec V (q + x.1) x.2 2 1 2).2.pg y = if mem ((y : Int) - q) (List.take 0 (x :: r)) = true then newPg 2 else V.pg y
      rw [if_neg (by rw [e]; decide)]
      unfold bec; rw [h2]
    · have h1' : (bec V (q + x.1) x.2 2 1 2).1 = 0 := h1
      have h4' : ∀ y : Nat, (bec V (q + x.1) x.2 2 1 2).2.pg y = if q + x.1 ≤ y ∧ (y : Int) < q + x.1 + x.2 then newPg 2 else V.pg y := h4
      rw [if_pos h1']
      simp only
      rw [cmF_pg q r _ y, h4', List.take_succ_cons, mem_cons]
      by_cases c1 : mem ((y : Int) - q) (r.take (cmF q r (bec V (q + x.1) x.2 2 1 2).2).1) = true
      · rw [if_pos c1, if_pos (by rw [c1, Bool.or_true])]
      · rw [if_neg c1]
        rw [Bool.not_eq_true] at c1
        rw [c1, Bool.or_false]
        by_cases c2 : q + x.1 ≤ y ∧ (y : Int) < q + x.1 + x.2
        · rw [if_pos c2, if_pos (by simp; omega)]
        · rw [if_neg c2, if_neg (by simp; omega)]
theorem cmF_all (q : Int) : ∀ (l : List Sp) (V : Vm), (cmF q l V).2.1 = 0 → (cmF q l V).1 = l.length
  | [], _, _ => rfl
  | x :: r, V, h => by
    unfold cmF at h ⊢
    by_cases h1 : (bec V (q + x.1) x.2 2 1 2).1 = 0
    · rw [if_pos h1] at h ⊢
      simp only at h ⊢
      rw [cmF_all q r _ h, List.length_cons]
    · rw [if_neg h1] at h; exact absurd h h1
theorem memT : ∀ {l : List Sp} {n : Nat} {p : Int}, mem p (l.take n) = true → mem p l = true
  | [], n, p, h => by simpa using h
  | x :: r, 0, p, h => by cases h
  | x :: r, n + 1, p, h => by
    rw [List.take_succ_cons] at h
    rcases mem_cons'.1 h with h | h
    · exact mem_cons'.2 (.inl h)
    · exact mem_cons'.2 (.inr (memT h))
/-- a place left: nothing else changes -/
theorem errs_out (p : Int) (y : Nat) : ∀ (l : List Sp) (s : List Int × Vm), mem ((y : Int) - p) l = false → (l.foldl (errsS p) s).2.pg y = s.2.pg y
  | [], _, _ => rfl
  | x :: r, s, h => by
    rw [mem_cons, Bool.or_eq_false_iff] at h
    rw [List.foldl_cons, errs_out p y r _ h.2]
    refine bec_out _ _ _ _ _ _ _ (fun hc => ?_)
    have := h.1
    simp only [Bool.and_eq_false_iff, decide_eq_false_iff_not] at this
    omega
theorem leave_out (V : Vm) (p n : Int) (l : List Sp) (y : Nat) (h : ¬ (p ≤ y ∧ (y : Int) < p + n)) (hl : mem ((y : Int) - p) l = false) : (leaveF V p n l).2.pg y = V.pg y := by
  show (bec (errsF V p l).2 p n 1 1 0).2.pg y = _
  rw [bec_out _ _ _ _ _ _ _ h]
  exact errs_out p y l ([], V) hl
theorem mem_rev (i : Int) (l : List Sp) : mem i l.reverse = mem i l := by
  induction l with
  | nil => rfl
  | cons x r ih => rw [List.reverse_cons, mem_snocS, ih, mem_cons, Bool.or_comm]
/-- bytes copied -/
theorem copyF_spec (V : Vm) (P Q n : Int) (hP : 0 ≤ P ∧ P + n ≤ 1024) (hQ : 0 ≤ Q ∧ Q + n ≤ 1024) (hd : P + n ≤ Q ∨ Q + n ≤ P)
    (h1 : ∀ y : Nat, P ≤ y → (y : Int) < P + n → (V.pg y).kind = 2) (h2 : ∀ y : Nat, Q ≤ y → (y : Int) < Q + n → (V.pg y).kind = 2) : ∀ m : Nat, (m : Int) ≤ n * 64 →
    ∀ y : Nat, ((copyF V (P * 64) (Q * 64) m).pg y).kind = (V.pg y).kind ∧ ((copyF V (P * 64) (Q * 64) m).pg y).huge = (V.pg y).huge ∧
      ∀ j : Nat, j < 64 → ((copyF V (P * 64) (Q * 64) m).pg y).byt j = if Q * 64 ≤ (y : Int) * 64 + j ∧ (y : Int) * 64 + j < Q * 64 + m then (V.pg ((y : Int) + P - Q).toNat).byt j else (V.pg y).byt j
  | 0, _, y => ⟨rfl, rfl, fun j hj => by rw [if_neg (by omega)]; rfl⟩
  | m + 1, hm, y => by
    have ih := copyF_spec V P Q n hP hQ hd h1 h2 m (by omega)
    rw [copyF]
    generalize copyF V (P * 64) (Q * 64) m = W at *
    obtain ⟨a, ha, b, hb, hb64⟩ : ∃ a : Nat, a = m / 64 ∧ ∃ b : Nat, b = m % 64 ∧ b < 64 := ⟨m / 64, rfl, m % 64, rfl, by omega⟩
    have hmab : (m : Int) = 64 * (a : Int) + b := by omega
    obtain ⟨pm, hpm⟩ : ∃ pm : Nat, (pm : Int) = P + a := ⟨(P + a).toNat, by omega⟩
    obtain ⟨qm, hqm⟩ : ∃ qm : Nat, (qm : Int) = Q + a := ⟨(Q + a).toNat, by omega⟩
    have e1 : (P * 64 + (m : Int)) / 64 = (pm : Int) := by omega
    have e2 : (P * 64 + (m : Int)) % 64 = (b : Int) := by omega
    have e3 : (Q * 64 + (m : Int)) / 64 = (qm : Int) := by omega
    have e4 : (Q * 64 + (m : Int)) % 64 = (b : Int) := by omega
    have hw1 : whF W (P * 64 + m) = 0 := by
      unfold whF
      rw [if_neg (by omega), e1, Int.toNat_natCast, (ih pm).1, h1 pm (by omega) (by omega)]
      simp
    have hw2 : whF W (Q * 64 + m) = 0 := by
      unfold whF
      rw [if_neg (by omega), e3, Int.toNat_natCast, (ih qm).1, h2 qm (by omega) (by omega)]
      simp
    have hr : readF W (P * 64 + m) = (V.pg pm).byt b := by
      unfold readF
      rw [if_pos hw1, e1, e2, Int.toNat_natCast, Int.toNat_natCast, (ih pm).2.2 b hb64, if_neg (by omega)]
    have hwr : writeF W (Q * 64 + m) (readF W (P * 64 + m)) = W.setP qm ((W.pg qm).byteP b ((V.pg pm).byt b)) := by
      unfold writeF
      rw [if_pos hw2, e3, e4, Int.toNat_natCast, Int.toNat_natCast, hr]
    rw [hwr]
    obtain ⟨i1, i2, i3⟩ := ih y
    by_cases e : y = qm
    · subst e
      have ep : (W.setP y ((W.pg y).byteP b ((V.pg pm).byt b))).pg y = (W.pg y).byteP b ((V.pg pm).byt b) := by
        show (if _ then _ else _) = _
        rw [if_pos rfl]
      rw [ep]
      refine ⟨i1, i2, fun j hj => ?_⟩
      show (if j = b then (V.pg pm).byt b else (W.pg y).byt j) = _
      by_cases ej : j = b
      · subst ej
        rw [if_pos rfl, if_pos (by omega), show ((y : Int) + P - Q).toNat = pm by omega]
      · rw [if_neg ej, i3 j hj]
        by_cases hc : Q * 64 ≤ (y : Int) * 64 + j ∧ (y : Int) * 64 + j < Q * 64 + m
        · rw [if_pos hc, if_pos (by omega)]
        · rw [if_neg hc, if_neg (by omega)]
    · have ep : (W.setP qm ((W.pg qm).byteP b ((V.pg pm).byt b))).pg y = W.pg y := by
        show (if _ then _ else _) = _
        rw [if_neg e]
      rw [ep]
      refine ⟨i1, i2, fun j hj => ?_⟩
      rw [i3 j hj]
      by_cases hc : Q * 64 ≤ (y : Int) * 64 + j ∧ (y : Int) * 64 + j < Q * 64 + m
      · rw [if_pos hc, if_pos (by omega)]
      · rw [if_neg hc, if_neg (by omega)]
/-- the bytes of runs copied -/
theorem copyL_spec (V : Vm) (p q n : Int) (hp : 0 ≤ p ∧ p + n ≤ 1024) (hq : 0 ≤ q ∧ q + n ≤ 1024) (hd : p + n ≤ q ∨ q + n ≤ p) : ∀ (l : List Sp), (∀ x ∈ l, 0 ≤ x.1 ∧ 1 ≤ x.2 ∧ x.1 + x.2 ≤ n) →
    (∀ i : Int, mem i l = true → (V.pg (p + i).toNat).kind = 2 ∧ (V.pg (q + i).toNat).kind = 2) → ∀ (W : Vm) (D : List Sp), (∀ y : Nat, (W.pg y).kind = (V.pg y).kind ∧ (W.pg y).huge = (V.pg y).huge ∧
      ∀ j : Nat, j < 64 → (W.pg y).byt j = if q ≤ y ∧ (y : Int) < q + n ∧ mem ((y : Int) - q) D = true then (V.pg ((y : Int) + p - q).toNat).byt j else (V.pg y).byt j) →
    ∀ y : Nat, ((l.foldl (copyS p q) W).pg y).kind = (V.pg y).kind ∧ ((l.foldl (copyS p q) W).pg y).huge = (V.pg y).huge ∧
      ∀ j : Nat, j < 64 → ((l.foldl (copyS p q) W).pg y).byt j = if q ≤ y ∧ (y : Int) < q + n ∧ (mem ((y : Int) - q) D || mem ((y : Int) - q) l) = true then (V.pg ((y : Int) + p - q).toNat).byt j else (V.pg y).byt j
  | [], _, _, W, D, hW, y => by
    obtain ⟨a, b, c⟩ := hW y
    refine ⟨a, b, fun j hj => ?_⟩
    rw [mem_nil, Bool.or_false]; exact c j hj
  | x :: r, hx, hk, W, D, hW, y => by
    obtain ⟨x1, x2, x3⟩ := hx x (by simp)
    have hsp := copyF_spec W (p + x.1) (q + x.1) x.2 (by omega) (by omega) (by omega)
      (fun z h1 h2 => by
        rw [(hW z).1]
        have := (hk ((z : Int) - p) (by rw [mem_cons, Bool.or_eq_true]; exact .inl (by simp; omega))).1
        rwa [show (p + ((z : Int) - p)).toNat = z by omega] at this)
      (fun z h1 h2 => by
        rw [(hW z).1]
        have := (hk ((z : Int) - q) (by rw [mem_cons, Bool.or_eq_true]; exact .inl (by simp; omega))).2
        rwa [show (q + ((z : Int) - q)).toNat = z by omega] at this)
      (x.2 * 64).toNat (by omega)
    have hst : ∀ z : Nat, ((copyS p q W x).pg z).kind = (V.pg z).kind ∧ ((copyS p q W x).pg z).huge = (V.pg z).huge ∧
        ∀ j : Nat, j < 64 → ((copyS p q W x).pg z).byt j = if q ≤ z ∧ (z : Int) < q + n ∧ mem ((z : Int) - q) (D ++ [x]) = true then (V.pg ((z : Int) + p - q).toNat).byt j else (V.pg z).byt j := fun z => by
      obtain ⟨a, b, c⟩ := hsp z
      obtain ⟨a', b', c'⟩ := hW z
      refine ⟨a.trans a', b.trans b', fun j hj => ?_⟩
      unfold copyS
      rw [c j hj, mem_snocS]
      by_cases hc : q + x.1 ≤ (z : Int) ∧ (z : Int) < q + x.1 + x.2
      · rw [if_pos (by omega), if_pos ⟨by omega, by omega, by rw [Bool.or_eq_true]; exact .inr (by simp; omega)⟩]
        have hz : ((z : Int) + (p + x.1) - (q + x.1)).toNat = ((z : Int) + p - q).toNat := by omega
        rw [hz, (hW _).2.2 j hj, if_neg (by omega)]
      · rw [if_neg (by omega), c' j hj]
        have hx0 : (decide (x.1 ≤ (z : Int) - q) && decide ((z : Int) - q < x.1 + x.2)) = false := by simp; omega
        rw [hx0, Bool.or_false]
    have := copyL_spec V p q n hp hq hd r (fun z hz => hx z (by simp [hz])) (fun i hi => hk i (by rw [mem_cons, Bool.or_eq_true]; exact .inr hi)) (copyS p q W x) (D ++ [x]) hst y
    rw [List.foldl_cons]
    obtain ⟨a, b, c⟩ := this
    refine ⟨a, b, fun j hj => ?_⟩
    rw [c j hj, mem_snocS, mem_cons, Bool.or_assoc]
/-- is what a page has what another one had? -/
def CE (V U : Vm) (p q : Int) : Prop := (kindF V p = 2 ↔ kindF U q = 2) ∧ (kindF V p = 2 → ∀ j : Nat, j < 64 → (V.pg p.toNat).byt j = (U.pg q.toNat).byt j)
theorem CE.trans {V U W : Vm} {p q r : Int} (h : CE V U p q) (k : CE U W q r) : CE V W p r := ⟨h.1.trans k.1, fun hp j hj => (h.2 hp j hj).trans (k.2 (h.1.1 hp) j hj)⟩
theorem CE.of_pg {V U W : Vm} {p q : Int} (h : CE V U p q) (e : W.pg q.toNat = U.pg q.toNat) : CE V W p q := by
  have ek : kindF W q = kindF U q := by unfold kindF; rw [e]
  exact ⟨by rw [ek]; exact h.1, fun hp j hj => by rw [e]; exact h.2 hp j hj⟩
theorem CE.refl (V : Vm) (p : Int) : CE V V p p := ⟨Iff.rfl, fun _ _ _ => rfl⟩
/-- a move touches the old place and the new one alone; the old one only if the block is in the new one then -/
theorem moveF_out (V : Vm) (p q : Int) (n : Nat) (y : Nat) (h1 : (moveF V p q n).2.1 = true → ¬ (p ≤ y ∧ (y : Int) < p + n)) (h2 : ¬ (q ≤ y ∧ (y : Int) < q + n))
    (hp : 0 ≤ p ∧ p + n ≤ 1024) (hq : 0 ≤ q ∧ q + n ≤ 1024) (hd : p + n ≤ q ∨ q + n ≤ p) : (moveF V p q n).2.2.2.pg y = V.pg y := by
  unfold moveF at h1 ⊢
  have hb := bec_out V q n 0 0 1 y h2
  by_cases c1 : (bec V q n 0 0 1).1 ≠ 0
  · rw [if_pos c1]; exact hb
  rw [if_neg c1] at h1 ⊢
  simp only [Int.toNat_natCast] at h1 ⊢
  generalize (bec V q n 0 0 1).2 = V1 at *
  have hr := fun i => runsM_mem V1 p i n
  have hinv := (runsM_inv V1 p n).2.1
  generalize (runsM V1 p n).1 = l at *
  have hmq : mem ((y : Int) - q) l = false := by
    cases hm : mem ((y : Int) - q) l with
    | false => rfl
    | true => have := ((hr _).1 hm).1; omega
  have hc := cmF_pg q l V1 y
  rw [if_neg (by
    intro hm
    rw [memT hm] at hmq; cases hmq)] at hc
  by_cases c2 : (cmF q l V1).2.1 ≠ 0
  · rw [if_pos c2]
    simp only
    rw [leave_out _ _ _ _ y h2 (by
      rw [mem_rev]
      cases hm : mem ((y : Int) - q) (l.take (cmF q l V1).1) with
      | false => rfl
      | true => rw [memT hm] at hmq; cases hmq), hc, hb]
  · rw [if_neg c2] at h1 ⊢
    have hnp := h1 rfl
    simp only
    have hmp : mem ((y : Int) - p) l = false := by
      cases hm : mem ((y : Int) - p) l with
      | false => rfl
      | true => have := ((hr _).1 hm).1; omega
    rw [leave_out _ _ _ _ y hnp hmp]
    have hpg : ∀ (l : List Sp) (W : Vm), mem ((y : Int) - q) l = false → (∀ x ∈ l, 0 ≤ x.1 ∧ 1 ≤ x.2 ∧ x.1 + x.2 ≤ (n : Int)) → (l.foldl (copyS p q) W).pg y = W.pg y := fun l => by
      induction l with
      | nil => exact fun W _ _ => rfl
      | cons x r ih =>
        intro W hm hx
        rw [mem_cons, Bool.or_eq_false_iff] at hm
        rw [List.foldl_cons, ih _ hm.2 (fun z hz => hx z (by simp [hz]))]
        have hm1 := hm.1
        simp only [Bool.and_eq_false_iff, decide_eq_false_iff_not] at hm1
        obtain ⟨a1, a2, a3⟩ := hx x (by simp)
        have : ∀ m : Nat, (m : Int) ≤ x.2 * 64 → (copyF W ((p + x.1) * 64) ((q + x.1) * 64) m).pg y = W.pg y := fun m => by
          induction m with
          | zero => exact fun _ => rfl
          | succ m ihm =>
            intro hle
            rw [copyF]
            have e := ihm (by omega)
            generalize copyF W ((p + x.1) * 64) ((q + x.1) * 64) m = T at *
            unfold writeF
            split
            · show (if _ then _ else _) = _
              rw [if_neg (by omega)]; exact e
            · exact e
        exact this _ (by omega)
    rw [hpg l _ hmq (fun x hx => by have := hinv x hx; omega), hc, hb]
/-- a block in the new place has there what it had -/
theorem moveF_new (V : Vm) (p q : Int) (n : Nat) (h1 : (moveF V p q n).2.1 = true) (hp : 0 ≤ p ∧ p + n ≤ 1024) (hq : 0 ≤ q ∧ q + n ≤ 1024) (hd : p + n ≤ q ∨ q + n ≤ p) (k : Nat) (hk : k < n) :
    CE V (moveF V p q n).2.2.2 (p + k) (q + k) ∧ badB (moveF V p q n).2.2.2 (q + k) = false := by
  unfold moveF at h1 ⊢
  by_cases c1 : (bec V q n 0 0 1).1 ≠ 0
  · rw [if_pos c1] at h1; cases h1
  rw [if_neg c1] at h1 ⊢
  simp only [Int.toNat_natCast] at h1 ⊢
  have hb : ∀ y : Nat, (bec V q n 0 0 1).2.pg y = if q ≤ y ∧ (y : Int) < q + n then newPg 1 else V.pg y := fun y => by
    rcases makeF_cases V q n 0 (fun g => g.kind == 0 && !g.huge) (fun _ => newPg 1) with ⟨a, _⟩ | ⟨_, _, _, _, _, h4⟩
    · exact absurd (fun e => a e) c1
    · exact h4 y
  generalize (bec V q n 0 0 1).2 = V1 at *
  have hr := fun i => runsM_mem V1 p i n
  have hinv := (runsM_inv V1 p n).2.1
  generalize (runsM V1 p n).1 = l at *
  by_cases c2 : (cmF q l V1).2.1 ≠ 0
  · rw [if_pos c2] at h1; cases h1
  rw [if_neg c2] at h1 ⊢
  simp only
  have c2' : (cmF q l V1).2.1 = 0 := by
    by_cases e : (cmF q l V1).2.1 = 0
    · exact e
    · exact absurd e c2
  have hcm : ∀ y : Nat, (cmF q l V1).2.2.pg y = if mem ((y : Int) - q) l = true then newPg 2 else V1.pg y := fun y => by
    rw [cmF_pg q l V1 y, cmF_all q l V1 c2', List.take_length]
  generalize (cmF q l V1).2.2 = V2 at *
  obtain ⟨pk, hpk⟩ : ∃ pk : Nat, (pk : Int) = p + k := ⟨(p + k).toNat, by omega⟩
  obtain ⟨qk, hqk⟩ : ∃ qk : Nat, (qk : Int) = q + k := ⟨(q + k).toNat, by omega⟩
  have kV1 : ∀ i : Int, 0 ≤ i → i < n → kindF V1 (p + i) = kindF V (p + i) := fun i h0 hn => by
    unfold kindF
    rw [if_pos (by omega), if_pos (by omega), hb, if_neg (by omega)]
  have hmk : ∀ i : Int, mem i l = true ↔ (0 ≤ i ∧ i < (n : Int)) ∧ kindF V (p + i) = 2 := fun i => by
    rw [hr i]
    constructor
    · rintro ⟨a, b⟩; exact ⟨a, by rw [← kV1 i a.1 a.2]; exact b⟩
    · rintro ⟨a, b⟩; exact ⟨a, by rw [kV1 i a.1 a.2]; exact b⟩
  have k2p : ∀ y : Nat, p ≤ y → (y : Int) < p + n → V2.pg y = V.pg y := fun y a b => by
    rw [hcm, if_neg (fun hm => by have := ((hmk _).1 hm).1; omega), hb, if_neg (by omega)]
  have hcp := copyL_spec V2 p q n hp hq hd l (fun x hx => by have := hinv x hx; omega) (fun i hi => by
    obtain ⟨a, b⟩ := (hmk i).1 hi
    have b2 := b
    unfold kindF at b2
    rw [if_pos (by omega)] at b2
    refine ⟨by rw [k2p _ (by omega) (by omega)]; exact b2, ?_⟩
    rw [hcm, if_pos (by rw [show (((q + i).toNat : Nat) : Int) - q = i by omega]; exact hi)]
    rfl) V2 [] (fun y => ⟨rfl, rfl, fun j hj => by rw [if_neg (by rw [mem_nil]; simp)]⟩)
  generalize l.foldl (copyS p q) V2 = V3 at *
  have hlv : (leaveF V3 p n l).2.pg qk = V3.pg qk := leave_out _ _ _ _ qk (by omega) (by
    cases hm : mem ((qk : Int) - p) l with
    | false => rfl
    | true => have := ((hmk _).1 hm).1; omega)
  generalize (leaveF V3 p n l).2 = V4 at *
  obtain ⟨d1, d2, d3⟩ := hcp qk
  have e2 : V2.pg qk = if mem (k : Int) l = true then newPg 2 else newPg 1 := by
    rw [hcm, show (qk : Int) - q = (k : Int) by omega, hb, show (if q ≤ (qk : Int) ∧ (qk : Int) < q + n then newPg 1 else V.pg qk) = newPg 1 from if_pos (by omega)]
  have hkq : kindF V4 (q + k) = (V3.pg qk).kind := by
    unfold kindF
    rw [if_pos (by omega), ← hqk, Int.toNat_natCast, hlv]
  have hhq : hugeF V4 (q + k) = (V3.pg qk).huge := by
    unfold hugeF
    rw [if_pos (by omega), ← hqk, Int.toNat_natCast, hlv]
  rw [d1, e2] at hkq
  rw [d2, e2] at hhq
  by_cases hm : mem (k : Int) l = true
  · rw [if_pos hm] at hkq hhq
    have hV := ((hmk _).1 hm).2
    refine ⟨⟨⟨fun _ => hkq, fun _ => hV⟩, fun _ j hj => ?_⟩, ?_⟩
    · rw [← hqk, Int.toNat_natCast, hlv, d3 j hj, if_pos ⟨by omega, by omega, by rw [mem_nil, Bool.false_or, show (qk : Int) - q = (k : Int) by omega]; exact hm⟩]
      rw [show ((qk : Int) + p - q).toNat = (p + (k : Int)).toNat by omega, k2p _ (by omega) (by omega)]
    · unfold badB
      rw [hkq, hhq]; rfl
  · rw [if_neg hm] at hkq hhq
    have hV : ¬ kindF V (p + k) = 2 := fun hc => hm ((hmk _).2 ⟨by omega, hc⟩)
    refine ⟨⟨⟨fun h => absurd h hV, fun h => by rw [hkq] at h; cases h⟩, fun h => absurd h hV⟩, ?_⟩
    unfold badB
    rw [hkq, hhq]; rfl
/-- blocks in their places, with what they had at the beginning -/
structure KeepI (V U : Vm) (pages : Int) (bs cs : List B3) : Prop where
  ok : okB pages cs
  len : cs.length = bs.length
  same : ∀ i, i < bs.length → (cs.getD i b0).2 = (bs.getD i b0).2 ∧ ((bs.getD i b0).2.2 = true → (cs.getD i b0).1 = (bs.getD i b0).1)
  ce : ∀ i, i < bs.length → ∀ k : Nat, (k : Int) < pw (bs.getD i b0).2.1 → CE V U ((bs.getD i b0).1 + k) ((cs.getD i b0).1 + k)
/-- no page of a block is free, a guard or of a huge group -/
def NB (U : Vm) (cs : List B3) (i : Nat) : Prop := ∀ k : Nat, (k : Int) < pw (cs.getD i b0).2.1 → badB U ((cs.getD i b0).1 + k) = false
theorem ok_in {pages : Int} {cs : List B3} (ok : okB pages cs) {i : Nat} (hi : i < cs.length) : 0 ≤ (cs.getD i b0).1 ∧ (cs.getD i b0).1 + pw (cs.getD i b0).2.1 ≤ 1024 := by
  have h := (insB_iff.1 (ok.ins _ (memD hi))).2
  have := spaceB_bound ok.space
  omega
/-- one move -/
theorem keep_move {V U : Vm} {pages : Int} {bs cs : List B3} {m : Int × Int} (h : KeepI V U pages bs cs) (hps : possB pages cs m = 0) :
    KeepI V (moveM U cs m).2.2.2 pages bs (movBs cs m.1.toNat m.2 (moveM U cs m)) ∧
    ((moveM U cs m).2.1 = true → ∀ i, i < cs.length → (i = m.1.toNat ∨ NB U cs i) → NB (moveM U cs m).2.2.2 (movBs cs m.1.toNat m.2 (moveM U cs m)) i) := by
  obtain ⟨⟨m0, m1⟩, hpin, hins, hov⟩ := possB_zero hps
  obtain ⟨k, hk⟩ : ∃ k, m.1.toNat = k := ⟨_, rfl⟩
  rw [hk] at hpin hins hov ⊢
  have hkl : k < cs.length := by omega
  have hin := ok_in h.ok hkl
  have hov2 : ∀ j, j < cs.length → overB (cs.getD j b0) (m.2, (cs.getD k b0).2.1, false) = false := fun j hj => hov _ (memD hj)
  have hpp := pw_pos (cs.getD k b0).2.1
  obtain ⟨n, hn⟩ : ∃ n : Nat, pw (cs.getD k b0).2.1 = (n : Int) := Int.eq_ofNat_of_zero_le (by omega)
  have hq : 0 ≤ m.2 ∧ m.2 + n ≤ 1024 := by
    have h1 := (insB_iff.1 hins).2
    have := spaceB_bound h.ok.space
    omega
  have hM : moveM U cs m = moveF U (cs.getD k b0).1 m.2 n := by unfold moveM; rw [hk, hn]
  have hd : (cs.getD k b0).1 + n ≤ m.2 ∨ m.2 + n ≤ (cs.getD k b0).1 := by
    have := hov2 k hkl
    unfold overB at this
    simp only [Bool.and_eq_false_iff, decide_eq_false_iff_not] at this
    omega
  have hp : 0 ≤ (cs.getD k b0).1 ∧ (cs.getD k b0).1 + n ≤ 1024 := by omega
  have hout := fun y => moveF_out U (cs.getD k b0).1 m.2 n y
  have hnew := fun ht => moveF_new U (cs.getD k b0).1 m.2 n ht hp hq hd
  rw [hM]
  generalize moveF U (cs.getD k b0).1 m.2 n = r at *
  -- pages of the other blocks
  have hoth : ∀ i, i < cs.length → i ≠ k → ∀ x : Nat, (x : Int) < pw (cs.getD i b0).2.1 → r.2.2.2.pg ((cs.getD i b0).1 + x).toNat = U.pg ((cs.getD i b0).1 + x).toNat := fun i hi hne x hx => by
    have hii := ok_in h.ok hi
    have h1 := apart_sym h.ok hi hkl hne
    have h2 := hov2 i hi
    unfold overB at h1 h2
    simp only [Bool.and_eq_false_iff, decide_eq_false_iff_not] at h1 h2
    exact hout _ (fun _ => by omega) (by omega) hp hq hd
  cases ht : r.2.1 with
  | false =>
    have hmb : movBs cs k m.2 r = cs := by unfold movBs; rw [ht, if_neg (by decide)]
    rw [hmb]
    refine ⟨⟨h.ok, h.len, h.same, fun i hi x hx => ?_⟩, fun hc => by cases hc⟩
    have hsame := h.same i hi
    refine (h.ce i hi x hx).of_pg ?_
    have hx' : (x : Int) < pw (cs.getD i b0).2.1 := by rw [hsame.1]; exact hx
    by_cases hne : i = k
    · subst hne
      exact hout _ (fun hc => by rw [ht] at hc; cases hc) (by omega) hp hq hd
    · exact hoth i (by rw [h.len]; exact hi) hne x hx'
  | true =>
    have hmb : movBs cs k m.2 r = movB cs m := by unfold movBs movB; rw [ht, if_pos rfl, hk]
    have hg : ∀ i, (movB cs m).getD i b0 = if k = i then (m.2, (cs.getD k b0).2) else cs.getD i b0 := fun i => by
      unfold movB; rw [hk]; exact getD_set cs k i _ hkl
    rw [hmb]
    refine ⟨⟨okB_mov h.ok hps, by unfold movB; rw [List.length_set]; exact h.len, fun i hi => ?_, fun i hi x hx => ?_⟩, fun _ i hi hc => ?_⟩
    · rw [hg i]
      by_cases e : k = i
      · subst e
        rw [if_pos rfl]
        refine ⟨(h.same k hi).1, fun hpn => ?_⟩
        rw [← (h.same k hi).1, hpin] at hpn; cases hpn
      · rw [if_neg e]; exact h.same i hi
    · have hsame := h.same i hi
      have hx' : (x : Int) < pw (cs.getD i b0).2.1 := by rw [hsame.1]; exact hx
      rw [hg i]
      by_cases e : k = i
      · subst e
        rw [if_pos rfl]
        exact (h.ce k hi x hx).trans (hnew ht x (by omega)).1
      · rw [if_neg e]
        exact (h.ce i hi x hx).of_pg (hoth i (by rw [h.len]; exact hi) (fun e' => e e'.symm) x hx')
    · intro x hx
      rw [hg i] at hx ⊢
      by_cases e : k = i
      · subst e
        rw [if_pos rfl] at hx ⊢
        exact (hnew ht x (by simp only at hx; omega)).2
      · rw [if_neg e] at hx ⊢
        have hb := (hc.resolve_left (fun e' => e e'.symm)) x hx
        have hpe := hoth i hi (fun e' => e e'.symm) x hx
        unfold badB kindF hugeF at hb ⊢
        rw [hpe]; exact hb
/-- all moves -/
theorem doL_keeps {V : Vm} {pages : Int} {bs : List B3} : ∀ (ms : List (Int × Int)) (U : Vm) (cs : List B3) (st : List Sp), KeepI V U pages bs cs → (afterL pages cs ms).2 = 0 → (∀ m ∈ ms, NB U cs m.1.toNat) →
    KeepI V (doL U cs st ms).2.2.2 pages bs (doL U cs st ms).1
  | [], U, cs, st, h, _, _ => h
  | m :: r, U, cs, st, h, ha, hnb => by
    obtain ⟨hps, ha2⟩ := after_cons ha
    obtain ⟨k1, k2⟩ := keep_move h hps
    rw [doL_cons]
    by_cases he : (moveM U cs m).1 ≠ 0
    · rw [if_pos he]; exact k1
    · rw [if_neg he]
      have he' : (moveM U cs m).1 = 0 := by
        by_cases e : (moveM U cs m).1 = 0
        · exact e
        · exact absurd e he
      have hmv := moveM_ok he'
      have ht : (moveM U cs m).2.1 = true := moveF_ok he'
      refine doL_keeps r _ _ _ k1 (by rw [hmv]; exact ha2) (fun x hx => ?_)
      have hxl := after_all r _ ha2 x hx
      have hxl2 : x.1.toNat < cs.length := by unfold movB at hxl; rw [List.length_set] at hxl; omega
      exact k2 ht _ hxl2 (.inr (hnb x (by simp [hx])))
theorem okB_chk {pages : Int} {bs : List B3} (h : okB pages bs) : chkB pages bs = 0 := by
  unfold chkB
  rw [if_neg (by rw [h.space]; decide), if_neg (by have := h.len; omega), if_neg, if_neg]
  · intro hc
    obtain ⟨i, k, h1, h2, h3⟩ := clash_iff.1 hc
    rw [h.apart i k h1 h2] at h3; cases h3
  · intro hc
    obtain ⟨b, hb, hn⟩ := List.any_eq_true.1 hc
    rw [h.ins b hb] at hn; cases hn
/-- what MovingKeeps asks for, of blocks without an error -/
theorem keeps_do {V : Vm} {pages : Int} {bs : List B3} {ms : List (Int × Int)} (hc : chkB pages bs = 0) :
    ((doF V pages bs ms).2.2.1 ≠ 0 ∧ (doF V pages bs ms).1 = [] ∧ (doF V pages bs ms).2.1 = [] ∧ (doF V pages bs ms).2.2.2 = V) ∨
    (KeepI V (doF V pages bs ms).2.2.2 pages bs (doF V pages bs ms).1 ∧ chkB pages (doF V pages bs ms).1 = 0 ∧ ((doF V pages bs ms).1 = [] → (doF V pages bs ms).2.2.1 = 0)) := by
  unfold doF
  by_cases h1 : (afterB pages bs ms).2 ≠ 0
  · rw [if_pos h1]; exact .inl ⟨h1, rfl, rfl, rfl⟩
  rw [if_neg h1]
  by_cases h2 : downB V bs ms = true
  · rw [if_pos h2]; exact .inl ⟨(by decide : (9 : Int) ≠ 0), rfl, rfl, rfl⟩
  rw [if_neg h2]
  have h1' : (afterB pages bs ms).2 = 0 := by
    by_cases e : (afterB pages bs ms).2 = 0
    · exact e
    · exact absurd e h1
  obtain ⟨_, _, ha⟩ := after_of h1'
  have hk := doL_keeps (V := V) (pages := pages) (bs := bs) ms V bs [] ⟨chkB_ok hc, rfl, fun i _ => ⟨rfl, fun _ => rfl⟩, fun i _ k _ => CE.refl _ _⟩ ha (fun m hm k hk => by
    rw [Bool.not_eq_true] at h2
    unfold downB at h2
    have := List.any_eq_false.1 h2 m hm
    rw [Bool.not_eq_true] at this
    unfold badM at this
    have := List.any_eq_false.1 this k (List.mem_range.2 (by omega))
    simpa using this)
  refine .inr ⟨hk, okB_chk hk.ok, fun he => ?_⟩
  have hl := hk.len
  rw [he] at hl
  have hbs : bs = [] := List.eq_nil_of_length_eq_zero hl.symm
  subst hbs
  cases ms with
  | nil => rfl
  | cons m r =>
    obtain ⟨hps, _⟩ := after_cons ha
    have := (poss_ins hps).1
    simp at this
    omega
end Go.Pol
namespace Go.Pol
open Go Go.RowKit
theorem doL_len : ∀ (ms : List (Int × Int)) (V : Vm) (bs : List B3) (st : List Sp), (doL V bs st ms).1.length = bs.length ∧ (doL V bs st ms).2.1.length ≤ st.length + ms.length := by
  have hb : ∀ (bs : List B3) (k : Nat) (q : Int) (r : Int × Bool × Bool × Vm), (movBs bs k q r).length = bs.length := fun bs k q r => by
    unfold movBs
    split
    · rw [List.length_set]
    · rfl
  have hs : ∀ (st : List Sp) (p q n : Int) (r : Int × Bool × Bool × Vm), (movSt st p q n r).length ≤ st.length + 1 := fun st p q n r => by
    unfold movSt
    split
    · rw [List.length_append]; exact Nat.le_refl _
    · omega
  intro ms
  induction ms with
  | nil => exact fun V bs st => ⟨rfl, Nat.le_refl _⟩
  | cons m r ih =>
    intro V bs st
    rw [doL_cons, List.length_cons]
    split
    · exact ⟨hb _ _ _ _, by have := hs st (bs.getD m.1.toNat b0).1 m.2 (pw (bs.getD m.1.toNat b0).2.1) (moveM V bs m); simp only; omega⟩
    · obtain ⟨a, b⟩ := ih (moveM V bs m).2.2.2 (movBs bs m.1.toNat m.2 (moveM V bs m)) (movSt st (bs.getD m.1.toNat b0).1 m.2 (pw (bs.getD m.1.toNat b0).2.1) (moveM V bs m))
      rw [hb] at a
      exact ⟨a, by have := hs st (bs.getD m.1.toNat b0).1 m.2 (pw (bs.getD m.1.toNat b0).2.1) (moveM V bs m); omega⟩
theorem doF_len (V : Vm) (pages : Int) (bs : List B3) (ms : List (Int × Int)) : (doF V pages bs ms).1.length ≤ bs.length ∧ (doF V pages bs ms).2.1.length ≤ ms.length := by
  unfold doF
  split
  · simp
  · split
    · simp
    · have := doL_len ms V bs []
      simp only [List.length_nil, Nat.zero_add] at this
      exact ⟨by omega, this.2⟩
end Go.Pol
