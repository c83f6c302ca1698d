/- The laws of the best plan: no given moves cost less; lower orders cost no more; no program in sight. -/
import Derived.Test.YtifdgabfnnkghaaVSpecH
namespace Go.Pol
theorem ins_at {pages : Int} {cs : List B3} (ok : okB pages cs) {i : Nat} (hi : i < cs.length) : (0 ≤ (cs.getD i b0).1 ∧ (cs.getD i b0).1 % pw (cs.getD i b0).2.1 = 0) ∧ (cs.getD i b0).1 ≤ pages - pw (cs.getD i b0).2.1 := by
  have h := insB_iff.1 (ok.ins _ (memD hi))
  exact ⟨⟨h.2.1, h.2.2.1⟩, h.2.2.2⟩
/-- no given moves that empty a candidate cost less than the plan's -/
theorem fewest_law {pg o k : Nat} {bs cs' : List B3} {mvs : List (Int × Int)} (hc : chkB (pg : Int) bs = 0) (hpg : pg ≤ 1024) (hk : k < pg / 2 ^ o)
    (ha : afterL (pg : Int) bs mvs = (cs', 0)) (hfree : ∀ i, i < bs.length → ¬ hitB (cs'.getD i b0) (k * 2 ^ o) (2 ^ o))
    (hin : ∀ mv ∈ mvs, hitB (bs.getD mv.1.toNat b0) (k * 2 ^ o) (2 ^ o)) :
    (planB pg bs o).2.2 = true ∧ (planB pg bs o).2.1 ≤ sumW bs mvs := by
  have ok := chkB_ok hc
  obtain ⟨ok', hlen, hsame, hor, hmv⟩ := after_trace mvs bs cs' ok ha
  have hT := Nat.two_pow_pos o
  -- every block in the candidate is moved
  have hmoved : ∀ i ∈ movedB bs (placeB o k), ∃ mv ∈ mvs, mv.1 = (i : Int) := fun i hi => by
    obtain ⟨h1, h2⟩ := moved_iff.1 hi
    have hh := (hitB_place _ o k).2 h2
    rcases hor i h1 with e | ⟨mv, hm, e, _⟩
    · exact absurd (by rw [e]; exact hh) (hfree i h1)
    · exact ⟨mv, hm, e⟩
  have hcost := costM_sumW bs (movedB bs (placeB o k)) mvs (moved_sorted _ _) hmoved
  by_cases hbig : ∃ mv ∈ mvs, o ≤ ordB bs mv.1.toNat
  · -- a block at least as large: the first move's place was free ahead
    obtain ⟨mvb, hmb, hob⟩ := hbig
    obtain ⟨m0, r, rfl⟩ : ∃ m0 r, mvs = m0 :: r := by
      cases mvs with
      | nil => cases hmb
      | cons m0 r => exact ⟨m0, r, rfl⟩
    -- only one block is in the candidate
    have hone : o ≤ ordB bs m0.1.toNat := by
      by_cases he : m0.1.toNat = mvb.1.toNat
      · rw [he]; exact hob
      · exfalso
        have hi0 := (hmv m0 (by simp)).1
        have hib := (hmv mvb hmb).1
        have ob := ord_int ok (i := mvb.1.toNat) (by omega)
        have o0 := ord_int ok (i := m0.1.toNat) (by omega)
        have ib := ins_at ok (i := mvb.1.toNat) (by omega)
        have i0 := ins_at ok (i := m0.1.toNat) (by omega)
        have h1 := aligned_in ib.1.1 ob.1 hob ib.1.2 (hin mvb hmb)
        obtain ⟨q, hq, hq1, hq2⟩ := hit_page i0.1.1 hT (hin m0 (by simp))
        have hov := page_over hq (b := bs.getD mvb.1.toNat b0) (show inB _ q from ⟨by omega, by omega⟩)
        rw [apart_sym ok (by omega) (by omega) he] at hov
        cases hov
    rw [afterL] at ha
    by_cases hp : possB (pg : Int) bs m0 = 0
    · obtain ⟨⟨g0, g1⟩, _, g3, g4⟩ := possB_zero hp
      have hi0 : m0.1.toNat < bs.length := by omega
      have o0 := ord_int ok hi0
      have hI := insB_iff.1 g3
      rw [o0.1, pw_nat] at hI
      -- the first place of this order in the target
      obtain ⟨x, hx⟩ := Int.eq_ofNat_of_zero_le hI.2.1
      rw [hx] at hI
      have hmod : x % 2 ^ ordB bs m0.1.toNat = 0 := by exact_mod_cast hI.2.2.1
      obtain ⟨y, hy⟩ := Nat.dvd_of_mod_eq_zero hmod
      have he : 2 ^ ordB bs m0.1.toNat = 2 ^ (ordB bs m0.1.toNat - o) * 2 ^ o := by rw [← Nat.pow_add]; congr 1; omega
      have hx2 : x = (2 ^ (ordB bs m0.1.toNat - o) * y) * 2 ^ o := by
        rw [hy, he, Nat.mul_assoc, Nat.mul_comm (2 ^ o) y, ← Nat.mul_assoc]
      have hS := Nat.two_pow_pos (ordB bs m0.1.toNat - o)
      have hle : 2 ^ o ≤ 2 ^ ordB bs m0.1.toNat := Nat.pow_le_pow_right (by decide) hone
      obtain ⟨j, hj⟩ : ∃ j, 2 ^ (ordB bs m0.1.toNat - o) * y = j := ⟨_, rfl⟩
      rw [hj] at hx2
      have hjlt : j < pg / 2 ^ o := by
        rw [Nat.lt_iff_add_one_le, Nat.le_div_iff_mul_le hT, Nat.add_mul, Nat.one_mul, ← hx2]
        have := hI.2.2.2
        omega
      have hfr : ∀ i, i < bs.length → ¬ hitB (bs.getD i b0) (j * 2 ^ o) (2 ^ o) := fun i hi hh => by
        obtain ⟨q, hq, hq1, hq2⟩ := hit_page (ins_at ok hi).1.1 hT hh
        have hov := page_over hq (b := (m0.2, (bs.getD m0.1.toNat b0).2.1, false)) ⟨by simp only; omega, by simp only [o0.1, pw_nat]; omega⟩
        rw [g4 _ (memD hi)] at hov
        cases hov
      obtain ⟨hgj, hcj⟩ := good_free (pg := pg) hfr
      obtain ⟨r1, r2⟩ := is_of_good hjlt hgj
      exact ⟨r1, by rw [hcj] at r2; have := sumW_nonneg bs (m0 :: r); omega⟩
    · rw [if_neg hp] at ha
      injection ha with _ h
      exact absurd h hp
  · -- all are smaller: where they end, they can be placed
    have hsm : ∀ i ∈ movedB bs (placeB o k), ordB bs i < o := fun i hi => by
      obtain ⟨mv, hm, e⟩ := hmoved i hi
      have : ¬ o ≤ ordB bs mv.1.toNat := fun h => hbig ⟨mv, hm, h⟩
      rw [e, Int.toNat_natCast] at this
      omega
    have hst : staysM bs (o : Int) (movedB bs (placeB o k)) = false := by
      unfold staysM
      rw [List.any_eq_false]
      intro i hi
      obtain ⟨h1, _⟩ := moved_iff.1 hi
      obtain ⟨mv, hm, e⟩ := hmoved i hi
      have hp := (hmv mv hm).2
      rw [e, Int.toNat_natCast] at hp
      have ho := (ord_int ok h1).1
      have := hsm i hi
      rw [hp, ho]
      simp only [Bool.false_or, decide_eq_true_eq]
      omega
    -- final places
    let pl : Nat → Nat := fun i => (cs'.getD i b0).1.toNat / 2 ^ ordB bs i
    have hpl : ∀ i, i < bs.length → (cs'.getD i b0).1 = ((pl i * 2 ^ ordB bs i : Nat) : Int) ∧ pw (cs'.getD i b0).2.1 = ((2 ^ ordB bs i : Nat) : Int) := fun i hi => by
      have hI := ins_at ok' (i := i) (by omega)
      have ho := (ord_int ok hi).1
      have e2 : (cs'.getD i b0).2.1 = ((ordB bs i : Nat) : Int) := by rw [hsame i hi]; exact ho
      rw [e2, pw_nat] at hI
      obtain ⟨x, hx⟩ := Int.eq_ofNat_of_zero_le hI.1.1
      have hmod : x % 2 ^ ordB bs i = 0 := by have := hI.1.2; rw [hx] at this; exact_mod_cast this
      refine ⟨?_, by rw [e2, pw_nat]⟩
      show (cs'.getD i b0).1 = (((cs'.getD i b0).1.toNat / 2 ^ ordB bs i * 2 ^ ordB bs i : Nat) : Int)
      rw [hx, Int.toNat_natCast, Nat.div_mul_cancel (Nat.dvd_of_mod_eq_zero hmod)]
    have hinB : ∀ i, i < bs.length → ∀ q : Nat, pl i * 2 ^ ordB bs i ≤ q → q < pl i * 2 ^ ordB bs i + 2 ^ ordB bs i → inB (cs'.getD i b0) q := fun i hi q h1 h2 => by
      obtain ⟨e1, e2⟩ := hpl i hi
      unfold inB
      rw [e1, e2]
      omega
    have hpack : packB pg (markC bs o k) ((movedB bs (placeB o k)).map (ordB bs)) := by
      refine pack_of_places (ordB bs) pl _ _ (moved_sorted _ _) (fun i hi => ?_) (fun i hi j hj hne q h1 h2 hc2 => ?_)
      · obtain ⟨hil, hio⟩ := moved_iff.1 hi
        have hI := ins_at ok' (i := i) (by omega)
        obtain ⟨e1, e2⟩ := hpl i hil
        refine frB_iff.2 ⟨?_, fun q h1 h2 => ?_⟩
        · rw [place_end]
          have := hI.2
          rw [e1, e2] at this
          omega
        · rw [place_end] at h2
          have hq := hinB i hil q h1 h2
          cases hm : markC bs o k q with
          | false => rfl
          | true =>
            exfalso
            rcases (markC_iff ok o k q).1 hm with hcq | ⟨b, hb, hbq⟩
            · exact hfree i hil (page_hit hq hcq.1 hcq.2)
            · obtain ⟨j, hj, rfl⟩ := memI hb
              by_cases hji : j ∈ movedB bs (placeB o k)
              · obtain ⟨_, hjo⟩ := moved_iff.1 hji
                have hjI := ins_at ok hj
                have hjo2 := ord_int ok hj
                have hw := aligned_within hjI.1.1 hjo2.1 (by have := hsm j hji; omega) hjI.1.2 ((hitB_place _ o k).2 hjo)
                have hb1 := hbq.1
                have hb2 := hbq.2
                exact hfree i hil (page_hit hq (by omega) (by omega))
              · have hne : i ≠ j := fun e => hji (e ▸ hi)
                have hst' : cs'.getD j b0 = bs.getD j b0 := by
                  rcases hor j hj with e | ⟨mv, hmm, e, _⟩
                  · exact e
                  · exfalso
                    have := hin mv hmm
                    rw [e, Int.toNat_natCast] at this
                    exact hji (moved_iff.2 ⟨hj, (hitB_place _ o k).1 this⟩)
                rw [← hst'] at hbq
                have hov := page_over hq hbq
                rw [apart_sym ok' (by omega) (by omega) hne] at hov
                cases hov
      · obtain ⟨hil, _⟩ := moved_iff.1 hi
        obtain ⟨hjl, _⟩ := moved_iff.1 hj
        have hov := page_over (hinB i hil q h1 h2) (hinB j hjl q hc2.1 hc2.2)
        rw [apart_sym ok' (by omega) (by omega) hne] at hov
        cases hov
    have hg : goodB pg bs o k := ⟨hst, by rw [emptyB_place, if_pos (holds_of_pack hpg hpack)]⟩
    obtain ⟨r1, r2⟩ := is_of_good hk hg
    exact ⟨r1, by unfold costK at r2; omega⟩
theorem needB_filter (ord : Nat → Nat) (p : Nat → Bool) (t : Nat) : ∀ l : List Nat, needB ((l.filter p).map ord) t ≤ needB (l.map ord) t
  | [] => by simp [needB]
  | i :: r => by
    have ih := needB_filter ord p t r
    cases h : p i with
    | true => simp only [List.filter_cons, h, if_true, List.map_cons, needB_cons]; omega
    | false => simp only [List.filter_cons, h, Bool.false_eq_true, if_false, List.map_cons, needB_cons]; omega
theorem costM_filter (bs : List B3) (p : Nat → Bool) : ∀ l : List Nat, costM bs (l.filter p) ≤ costM bs l
  | [] => by simp [costM]
  | i :: r => by
    have ih := costM_filter bs p r
    have hp := pw_pos (bs.getD i b0).2.1
    cases h : p i with
    | true => simp only [List.filter_cons, h, if_true, costM, List.map_cons, List.sum_cons] at ih ⊢; omega
    | false => simp only [List.filter_cons, h, Bool.false_eq_true, if_false, costM, List.map_cons, List.sum_cons] at ih ⊢; omega
/-- where there is a plan, there is one for the next lower order that costs no more -/
theorem lower_law {pg o : Nat} {bs : List B3} (hc : chkB (pg : Int) bs = 0) (h : (planB pg bs (o + 1)).2.2 = true) :
    (planB pg bs o).2.2 = true ∧ (planB pg bs o).2.1 ≤ (planB pg bs (o + 1)).2.1 := by
  have ok := chkB_ok hc
  obtain ⟨k, hk, hg, _, hcost⟩ := good_of_is h
  rw [hcost]
  have hT := Nat.two_pow_pos o
  have e2 : 2 ^ (o + 1) = 2 ^ o + 2 ^ o := by rw [Nat.pow_succ]; omega
  have hkk : k * 2 ^ (o + 1) = (2 * k) * 2 ^ o := by rw [Nat.pow_succ, Nat.mul_comm (2 ^ o) 2, ← Nat.mul_assoc, Nat.mul_comm k 2]
  have hk2 : 2 * k < pg / 2 ^ o := by
    rw [Nat.lt_iff_add_one_le, Nat.le_div_iff_mul_le (Nat.two_pow_pos _)] at hk ⊢
    rw [Nat.add_mul, Nat.one_mul] at hk ⊢
    rw [← hkk]
    omega
  -- blocks of the half are among those of the whole
  have hsub : ∀ i, i ∈ movedB bs (placeB o (2 * k)) → i ∈ movedB bs (placeB (o + 1) k) := fun i hi => by
    obtain ⟨h1, h2⟩ := moved_iff.1 hi
    have hh := (hitB_place _ o (2 * k)).2 h2
    refine moved_iff.2 ⟨h1, (hitB_place _ (o + 1) k).1 ?_⟩
    unfold hitB at hh ⊢
    rw [hkk]
    omega
  have hnn := (costM_nonneg bs (movedB bs (placeB (o + 1) k))).1
  by_cases hbig : ∃ i ∈ movedB bs (placeB (o + 1) k), o + 1 ≤ ordB bs i
  · -- its new place is free ahead
    obtain ⟨i, hi, hio⟩ := hbig
    have hE := hg.2
    rw [emptyB_place] at hE
    have hh : holdsB (frB pg (markC bs (o + 1) k)) ((movedB bs (placeB (o + 1) k)).map (ordB bs)) = true := by
      by_cases hh : holdsB (frB pg (markC bs (o + 1) k)) ((movedB bs (placeB (o + 1) k)).map (ordB bs)) = true
      · exact hh
      · rw [if_neg hh] at hE; cases hE
    have hil := (moved_iff.1 hi).1
    have ho10 := (ord_int ok hil).2
    have hneed := holdsB_iff.1 hh o (by omega)
    have hperm := List.perm_cons_erase (List.mem_map_of_mem (f := ordB bs) hi)
    rw [needB_perm hperm, needB_cons, if_pos (by omega)] at hneed
    have hp2 := Nat.two_pow_pos (ordB bs i - o)
    obtain ⟨j, _, hj⟩ := cntB_pos (f := frB pg (markC bs (o + 1) k) o) 1024 (by omega)
    have hj' := frB_iff.1 hj
    have hfr : ∀ x, x < bs.length → ¬ hitB (bs.getD x b0) (j * 2 ^ o) (2 ^ o) := fun x hx hxh => by
      obtain ⟨q, hq, hq1, hq2⟩ := hit_page (ins_at ok hx).1.1 hT hxh
      have := hj'.2 q hq1 (by rw [place_end]; exact hq2)
      rw [(markC_iff ok (o + 1) k q).2 (.inr ⟨_, memD hx, hq⟩)] at this
      cases this
    obtain ⟨hgj, hcj⟩ := good_free (pg := pg) hfr
    obtain ⟨r1, r2⟩ := is_of_good (frB_lt_div hj) hgj
    exact ⟨r1, by rw [hcj] at r2; unfold costK; omega⟩
  · have hsm : ∀ i ∈ movedB bs (placeB (o + 1) k), ordB bs i ≤ o := fun i hi => by
      have : ¬ o + 1 ≤ ordB bs i := fun hh => hbig ⟨i, hi, hh⟩
      omega
    have hfil : movedB bs (placeB o (2 * k)) = (movedB bs (placeB (o + 1) k)).filter fun i => overB (bs.getD i b0) (placeB o (2 * k)) := by
      unfold movedB
      rw [List.filter_filter]
      refine List.filter_congr (fun i hi => ?_)
      cases hov : overB (bs.getD i b0) (placeB o (2 * k)) with
      | false => rfl
      | true =>
        have := hsub i (moved_iff.2 ⟨List.mem_range.1 hi, hov⟩)
        rw [(moved_iff.1 this).2]; rfl
    have hst : staysM bs (o : Int) (movedB bs (placeB o (2 * k))) = false := by
      unfold staysM
      rw [List.any_eq_false]
      intro i hi
      have hi2 := hsub i hi
      have h1 := (stays_false hg.1 i hi2).1
      have ho := (ord_int ok (moved_iff.1 hi).1).1
      have := hsm i hi2
      rw [h1, ho]
      simp only [Bool.false_or, decide_eq_true_eq]
      omega
    have hE := hg.2
    rw [emptyB_place] at hE
    have hh : holdsB (frB pg (markC bs (o + 1) k)) ((movedB bs (placeB (o + 1) k)).map (ordB bs)) = true := by
      by_cases hh : holdsB (frB pg (markC bs (o + 1) k)) ((movedB bs (placeB (o + 1) k)).map (ordB bs)) = true
      · exact hh
      · rw [if_neg hh] at hE; cases hE
    have hanti : ∀ q, markC bs o (2 * k) q = true → markC bs (o + 1) k q = true := fun q hq => by
      rcases (markC_iff ok o (2 * k) q).1 hq with h1 | h1
      · exact (markC_iff ok (o + 1) k q).2 (.inl ⟨by omega, by omega⟩)
      · exact (markC_iff ok (o + 1) k q).2 (.inr h1)
    have hh2 : holdsB (frB pg (markC bs o (2 * k))) ((movedB bs (placeB o (2 * k))).map (ordB bs)) = true := holdsB_iff.2 (fun t ht => by
      have h1 := holdsB_iff.1 hh t ht
      have h2 := cntB_mono (f := frB pg (markC bs (o + 1) k) t) (g := frB pg (markC bs o (2 * k)) t) 1024 (fun i _ hi => frB_anti hanti hi)
      rw [hfil]
      have h3 := needB_filter (ordB bs) (fun i => overB (bs.getD i b0) (placeB o (2 * k))) t (movedB bs (placeB (o + 1) k))
      omega)
    obtain ⟨r1, r2⟩ := is_of_good hk2 (⟨hst, by rw [emptyB_place, if_pos hh2]⟩ : goodB pg bs o (2 * k))
    refine ⟨r1, Int.le_trans r2 ?_⟩
    unfold costK
    rw [hfil]
    exact costM_filter _ _ _
theorem lower_le {pg : Nat} {bs : List B3} (hc : chkB (pg : Int) bs = 0) (o : Nat) : ∀ d, (planB pg bs (o + d)).2.2 = true → (planB pg bs o).2.2 = true
  | 0, h => h
  | d + 1, h => lower_le hc o d (lower_law hc h).1
/-- the greatest order with a plan -/
theorem largeL_spec (pg : Nat) (bs : List B3) : ∀ n, (largeL pg bs n = (0, 0, 4) ∧ ∀ o, o < n → (planB pg bs o).2.2 = false) ∨ ∃ o, o < n ∧ (planB pg bs o).2.2 = true ∧ largeL pg bs n = ((o : Int), (planB pg bs o).2.1, 0) ∧ ∀ o', o < o' → o' < n → (planB pg bs o').2.2 = false
  | 0 => .inl ⟨rfl, fun o ho => by omega⟩
  | n + 1 => by
    rw [largeL]
    by_cases h : (planB pg bs n).2.2 = true
    · rw [if_pos h]
      exact .inr ⟨n, by omega, h, rfl, fun o' h1 h2 => by omega⟩
    · rw [if_neg h]
      have hf : (planB pg bs n).2.2 = false := by simpa using h
      rcases largeL_spec pg bs n with ⟨h1, h2⟩ | ⟨o, h1, h2, h3, h4⟩
      · refine .inl ⟨h1, fun o ho => ?_⟩
        by_cases e : o = n
        · rw [e]; exact hf
        · exact h2 o (by omega)
      · refine .inr ⟨o, by omega, h2, h3, fun o' h5 h6 => ?_⟩
        by_cases e : o' = n
        · rw [e]; exact hf
        · exact h4 o' h5 (by omega)
end Go.Pol
