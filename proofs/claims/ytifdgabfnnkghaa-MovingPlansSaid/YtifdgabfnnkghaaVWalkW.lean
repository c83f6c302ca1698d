/- Walk: the law MovingLower. -/
import Derived.Test.YtifdgabfnnkghaaVWalkU
namespace Go.Pol
/-- is there a plan of an order in a space of 2^P pages? -/
def fndB (pg P : Nat) (bs : List B3) (o : Nat) : Bool := decide (o ≤ P) && (planB pg bs o).2.2
/-- its moves and its error -/
def plansB (pg P : Nat) (bs : List B3) (o : Nat) : List (Int × Int) × Int := if fndB pg P bs o = true then ((planB pg bs o).1, 0) else ([], if o ≤ P then 4 else 2)
theorem plansB_eq {pg P : Nat} {bs : List B3} (hpg : pg = 2 ^ P) (hc : chkB (pg : Int) bs = 0) {o : Nat} (ho : o ≤ 10) : PlanF (pg : Int) bs (o : Int) = plansB pg P bs o := by
  unfold plansB fndB
  by_cases h : o ≤ P
  · rw [PlanF_ok hc ho (by rw [hpg]; exact (Nat.pow_le_pow_iff_right (by decide)).2 h), decide_eq_true h, Bool.true_and, if_pos h]
  · rw [decide_eq_false h, Bool.false_and, if_neg h]
    unfold PlanF
    rw [if_pos hc, if_neg (fun hh => h (by
      have h2 := hh.2
      rw [pw_nat, hpg] at h2
      exact (Nat.pow_le_pow_iff_right (a := 2) (by decide)).1 (by exact_mod_cast h2)))]
    rfl
def costP (pg P : Nat) (bs : List B3) (o : Nat) : Int := if fndB pg P bs o = true then (planB pg bs o).2.1 else 0
theorem costP_eq {pg P : Nat} {bs : List B3} (hc : chkB (pg : Int) bs = 0) (hpg : pg ≤ 1024) (o : Nat) : costB bs (plansB pg P bs o).1 = (costP pg P bs o, 0) ∧ (plansB pg P bs o).1.length ≤ 64 := by
  unfold plansB costP
  by_cases h : fndB pg P bs o = true
  · rw [if_pos h, if_pos h]
    have his : (planB pg bs o).2.2 = true := by unfold fndB at h; rw [Bool.and_eq_true] at h; exact h.2
    obtain ⟨k, _, hg, h1, h2⟩ := good_of_is his
    obtain ⟨h3, h4⟩ := good_cost (chkB_ok hc) hpg hg
    simp only
    rw [h1, h2]
    exact ⟨h4, h3⟩
  · rw [if_neg h, if_neg h]
    exact ⟨by simp [costB, costL], by simp⟩
theorem fnd_down {pg P : Nat} {bs : List B3} (hc : chkB (pg : Int) bs = 0) {o : Nat} (h : fndB pg P bs (o + 1) = true) : fndB pg P bs o = true ∧ costP pg P bs o ≤ costP pg P bs (o + 1) := by
  have h' := h
  unfold fndB at h
  rw [Bool.and_eq_true, decide_eq_true_eq] at h
  obtain ⟨h1, h2⟩ := lower_law hc h.2
  have h3 : fndB pg P bs o = true := by unfold fndB; rw [h1, decide_eq_true (by omega)]; rfl
  refine ⟨h3, ?_⟩
  unfold costP
  rw [if_pos h3, if_pos h']
  exact h2
theorem large_fnd {pg P : Nat} {bs : List B3} (hpg : pg = 2 ^ P) (hc : chkB (pg : Int) bs = 0) : (LargeF (pg : Int) bs = (0, 0, 4) ∧ ∀ o, fndB pg P bs o = false) ∨ ∃ b, b ≤ P ∧ fndB pg P bs b = true ∧ LargeF (pg : Int) bs = ((b : Int), costP pg P bs b, 0) ∧ ∀ o, fndB pg P bs o = true → o ≤ b := by
  have e : LargeF (pg : Int) bs = largeL pg bs (P + 1) := by unfold LargeF; rw [if_pos hc, Int.toNat_natCast, hpg, Nat.log2_two_pow]
  rw [e]
  rcases largeL_spec pg bs (P + 1) with ⟨h1, h2⟩ | ⟨o, h1, h2, h3, h4⟩
  · refine .inl ⟨h1, fun o => ?_⟩
    unfold fndB
    by_cases h : o ≤ P
    · rw [h2 o (by omega), Bool.and_false]
    · rw [decide_eq_false h, Bool.false_and]
  · have hf : fndB pg P bs o = true := by unfold fndB; rw [h2, decide_eq_true (by omega)]; rfl
    refine .inr ⟨o, by omega, hf, ?_, fun o' ho' => ?_⟩
    · unfold costP; rw [if_pos hf]; exact h3
    · by_cases hle : o' ≤ o
      · exact hle
      · unfold fndB at ho'
        rw [Bool.and_eq_true, decide_eq_true_eq] at ho'
        rw [h4 o' (by omega) (by omega)] at ho'
        cases ho'.2
end Go.Pol
namespace Go.Proofs.Ytifdgabfnnkghaa
open Go Go.Proofs Go.RowKit Go.Pol Go.Shelf Go.Deep

theorem lowerBad_any (pages : Int) (A : Option Addr) (n cap : Nat) (bs : List B3) (w : World) (hn : bs.length = n) (hm : n ≤ maxLen) (hr : RT w w.heap.size A bs) (hc : chkB pages bs ≠ 0) :
    Calls Try.prog 7 #[.int .i64 pages, .slice A n cap] w fun e w' => e = .returned (.bool true) ∧ Below w.heap.size w w' := by
  have HC := Lib.hid (refCheck_any pages A n cap bs w hn hm hr)
  generalize chkB pages bs = ck at *
  have hc' : (ck != 0) = true := by simpa using hc
  clear hc hn
  by_cases h64 : 64 < n
  · have h1 : decide ((64 : Int) < (n : Int)) = true := by simp; omega
    clear h64
    go_enter Try.func7, Try.ntmps7
    go_wp2_with (go_at_call 9; refine (awake24_any _).mono ?_; rintro e w1 ⟨rfl, hb1⟩)
    go_ret
    exact ⟨rfl, hb1⟩
  · have h1 : decide ((64 : Int) < (n : Int)) = false := by simp; omega
    clear h64
    go_enter Try.func7, Try.ntmps7
    go_wp2_with (first
      | (go_at_call 15; refine HC.out.mono ?_; rintro e w0 ⟨rfl, hb0⟩)
      | (go_at_call 9; refine (awake24_any _).mono ?_; rintro e w1 ⟨rfl, hb1⟩))
    go_ret
    exact ⟨rfl, hb0.trans (hb1.mono hb0.size)⟩
set_option maxRecDepth 100000 in
set_option maxHeartbeats 3200000 in
theorem lowerOk_any (pg P : Nat) (A : Option Addr) (n cap : Nat) (bs : List B3) (w : World) (hn : bs.length = n) (hm : n ≤ 64) (hr : RT w w.heap.size A bs) (hP10 : P ≤ 10) (hpg : pg = 2 ^ P) (hc : chkB (pg : Int) bs = 0) :
    Calls Try.prog 7 #[.int .i64 pg, .slice A n cap] w fun e w' => e = .returned (.bool true) ∧ Below w.heap.size w w' := by
  have hpg1024 : pg ≤ 1024 := by rw [hpg]; exact Nat.pow_le_pow_right (by decide) hP10
  have hml : n ≤ maxLen := by unfold maxLen; omega
  have HC := Lib.hid (refCheck_any (pg : Int) A n cap bs w hn hml hr)
  rw [hc] at HC
  have HL := Lib.hid (fun W (h : RT W W.heap.size A bs) => Largest_any (pg : Int) A n cap bs W hn hml h)
  have HP := Lib.hid (fun (o : Nat) (ho : o ≤ 10) W (h : RT W W.heap.size A bs) => show Calls Try.prog 17 #[.int .i64 pg, .slice A n cap, .int .i64 o] W (PlanR (plansB pg P bs o) W) from by rw [← plansB_eq hpg hc ho]; exact Plan_any (pg : Int) A n cap bs (o : Int) W hn hml h)
  have HK := Lib.hid (fun (o : Nat) M mcap W (h : RT W W.heap.size A bs) (h' : RU W W.heap.size M (plansB pg P bs o).1) => show Calls Try.prog 13 #[.slice A n cap, .slice M (plansB pg P bs o).1.length mcap] W (CostR (costP pg P bs o, 0) W) from by
    have h1 := costP_eq (P := P) hc hpg1024 o
    rw [← h1.1]; exact refCost_any A M n cap _ mcap bs _ W hn hml h rfl (by unfold maxLen; omega) h')
  have hdown := Lib.hid (fun o (h : fndB pg P bs (o + 1) = true) => fnd_down hc h)
  have her := Lib.hid (fun o => show (plansB pg P bs o).2 = if fndB pg P bs o = true then 0 else if o ≤ P then 4 else 2 from by unfold plansB; split <;> rfl)
  have hlarge := Lib.hid (large_fnd hpg hc)
  have hcb := Lib.hid (fun o => show 0 ≤ costP pg P bs o from by
    have h1 := (costP_eq (P := P) hc hpg1024 o).1
    unfold costP
    split
    · rename_i h
      unfold fndB at h; rw [Bool.and_eq_true] at h
      obtain ⟨k, _, _, _, h2⟩ := good_of_is h.2
      rw [h2]; exact (costM_nonneg bs _).1
    · omega)
  generalize plansB pg P bs = pl at *
  generalize costP pg P bs = cst at *
  generalize fndB pg P bs = fnd at *
  have h1 : decide ((64 : Int) < (n : Int)) = false := by simp; omega
  obtain ⟨L, hL⟩ : ∃ L, LargeF (pg : Int) bs = L := ⟨_, rfl⟩
  rw [hL] at HL hlarge
  obtain ⟨best, cost, er⟩ := L
  unfold LargeR at HL
  simp only at HL
  clear hn hc hL hpg
  go_enter Try.func7, Try.ntmps7
  go_wp2_with (first
    | (go_at_call 15; refine HC.out.mono ?_; rintro e w0 ⟨rfl, hb0⟩; have r0 := hr.on hb0)
    | (go_at_call 19; refine (HL.out _ r0).mono ?_; rintro e w1 ⟨rfl, hb1⟩; have r1 := r0.on hb1; have B1 := hb0.trans (hb1.mono hb0.size)))
  clear HC HL hb0 hb1 r0
  go_loopw [8, 9, 10] (fun la fo i wr => ∃ (o : Nat) (last : Int) (found : Bool), o ≤ 11 ∧ i = .int .i64 o ∧ la = .int .i64 last ∧ fo = .bool found ∧ Hid (∀ j, j + 1 = o → fnd j = true → found = true ∧ last = cst j) ∧ Hid (found = true → ∃ j, fnd j = true) ∧ Hid ((∃ j, j < o ∧ fnd j = true) → found = true) ∧ Below w1.heap.size w1 wr) (fun _ _ i _ => 11 - (intOf i).toNat)
  case atStart => exact ⟨0, 0, false, by omega, rfl, rfl, rfl, Lib.hid (fun j hj => by omega), Lib.hid (fun h => by cases h), Lib.hid (fun ⟨j, hj, _⟩ => by omega), Below.refl _ _⟩
  case round =>
    obtain ⟨o, last, found, ho, rfl, rfl, rfl, hI1, hI2, hI3, hB⟩ := hrel
    by_cases hlt : o ≤ 10
    · have hlt' : decide ((o : Int) ≤ 10) = true := by simp; omega
      have rk := (r1.below hB).more hB.size
      have HPo := Lib.hid (HP.out o hlt wr rk)
      have HKo := Lib.hid (fun M mcap W h h' => HK.out o M mcap W h h')
      have hero := Lib.hid (her.out o)
      obtain ⟨R, hR⟩ : ∃ R, pl o = R := ⟨_, rfl⟩
      rw [hR] at HPo HKo hero
      obtain ⟨ms, eo⟩ := R
      unfold PlanR at HPo
      unfold CostR at HKo
      simp only at HPo HKo hero
      have hco := hcb.out o
      obtain ⟨co, hcoE⟩ : ∃ c, cst o = c := ⟨_, rfl⟩
      rw [hcoE] at HKo hco
      have hcoE' := Lib.hid hcoE
      clear hR hcoE
      cases hf : fnd o with
      | false =>
        have heo : eo = 4 ∨ eo = 2 := by
          have := hero.out
          rw [hf, if_neg (by simp)] at this
          rw [this]
          split
          · exact .inl rfl
          · exact .inr rfl
        have heo' : (eo != 0) = true := by rcases heo with h | h <;> rw [h] <;> rfl
        have hN1 : Hid (∀ j, j + 1 = o + 1 → fnd j = true → found = true ∧ last = cst j) := Lib.hid (fun j hj hjf => by
          obtain rfl : j = o := by omega
          rw [hf] at hjf; cases hjf)
        have hN3 : Hid ((∃ j, j < o + 1 ∧ fnd j = true) → found = true) := Lib.hid (fun ⟨j, hj, hjf⟩ => by
          by_cases e : j = o
          · rw [e, hf] at hjf; cases hjf
          · exact hI3.out ⟨j, by omega, hjf⟩)
        clear hero heo hI1 hI3
        rcases hlarge.out with ⟨hl, hall⟩ | ⟨b, hb, hbf, hl, hmax⟩
        · injection hl with e1 e2
          injection e2 with e2 e3
          subst e1; subst e2; subst e3
          go_wp2_with (first
            | (go_at_call 17; refine HPo.out.mono ?_; rintro e w2 ⟨O, oc, rfl, hO, hb2⟩; have r2 := rk.on hb2)
            | (go_at_call 13; refine (HKo.out _ _ _ r2 hO).mono ?_; rintro e w3 ⟨rfl, hb3⟩))
          have B3 := hB.trans ((hb2.trans (hb3.mono hb2.size)).mono hB.size)
          go_roundw
          case rel => exact ⟨o + 1, last, found, by omega, by go_num, rfl, rfl, hN1, hI2, hN3, B3⟩
          case measure => simp [intOf]; omega
        · injection hl with e1 e2
          injection e2 with e2 e3
          subst e1; subst e3
          have hob : b < o := by
            by_cases h : b < o
            · exact h
            · exfalso
              -- a plan of b gives one of o
              have : ∀ d, fnd (o + d) = true → fnd o = true := fun d => by
                induction d with
                | zero => exact id
                | succ d ih => exact fun h => ih (hdown.out _ h).1
              have := this (b - o) (by rw [show o + (b - o) = b by omega]; exact hbf)
              rw [hf] at this; cases this
          have hcmp : decide ((o : Int) ≤ (b : Int)) = false := by simp; omega
          have hcmp2 : decide (o ≤ b) = false := by simp; omega
          clear e2
          go_wp2_with (first
            | (go_at_call 17; refine HPo.out.mono ?_; rintro e w2 ⟨O, oc, rfl, hO, hb2⟩; have r2 := rk.on hb2)
            | (go_at_call 13; refine (HKo.out _ _ _ r2 hO).mono ?_; rintro e w3 ⟨rfl, hb3⟩))
          have B3 := hB.trans ((hb2.trans (hb3.mono hb2.size)).mono hB.size)
          go_roundw
          case rel => exact ⟨o + 1, last, found, by omega, by go_num, rfl, rfl, hN1, hI2, hN3, B3⟩
          case measure => simp [intOf]; omega
      | true =>
        have heo : eo = 0 := by have := hero.out; rw [hf, if_pos rfl] at this; exact this
        subst heo
        rcases hlarge.out with ⟨hl, hall⟩ | ⟨b, hb, hbf, hl, hmax⟩
        · rw [hall o] at hf; cases hf
        injection hl with e1 e2
        injection e2 with e2 e3
        subst e1; subst e3
        have hob := hmax o hf
        have hcmp : decide ((b : Int) < (o : Int)) = false := by simp; omega
        have hcmp2 : decide (b < o) = false := by simp; omega
        have hfT := Lib.hid hf
        have hprev : Hid (0 < o → found = true ∧ last ≤ co) := Lib.hid (fun h0 => by
          obtain ⟨j, rfl⟩ : ∃ j, o = j + 1 := ⟨o - 1, by omega⟩
          obtain ⟨h2, h3⟩ := hdown.out j hf
          obtain ⟨h4, h5⟩ := hI1.out j rfl h2
          exact ⟨h4, by rw [h5, ← hcoE'.out]; exact h3⟩)
        have hcost : Hid (b = o → cost = co) := Lib.hid (fun h => by rw [e2, h]; exact hcoE'.out)
        clear e2 hero hI1 hI2 hI3
        by_cases hbo : b = o
        · have hbo' : ((b : Int) == (o : Int)) = true := by simp [hbo]
          have hcc := hcost.out hbo
          have hcc' : (cost != co) = false := by simp [hcc]
          clear hbo hcc hcost
          by_cases h0 : 0 < o
          · obtain ⟨hfo, hla⟩ := hprev.out h0
            subst hfo
            have h0' : decide ((0 : Int) < (o : Int)) = true := by simp; omega
            have h0d : decide (0 < o) = true := by simp; omega
            have hla' : decide (co < last) = false := by simp; omega
            clear hprev h0 hla
            go_wp2_with (first
              | (go_at_call 17; refine HPo.out.mono ?_; rintro e w2 ⟨O, oc, rfl, hO, hb2⟩; have r2 := rk.on hb2)
              | (go_at_call 13; refine (HKo.out _ _ _ r2 hO).mono ?_; rintro e w3 ⟨rfl, hb3⟩))
            have B3 := hB.trans ((hb2.trans (hb3.mono hb2.size)).mono hB.size)
            go_roundw
            case rel => exact ⟨o + 1, co, true, by omega, by go_num, rfl, rfl, Lib.hid (fun j hj _ => ⟨rfl, (show j = o from Nat.succ.inj hj) ▸ hcoE'.out.symm⟩), Lib.hid (fun _ => ⟨o, hfT.out⟩), Lib.hid (fun _ => rfl), B3⟩
            case measure => simp [intOf]; omega
          · have h0' : decide ((0 : Int) < (o : Int)) = false := by simp; omega
            have h0d : decide (0 < o) = false := by simp; omega
            clear hprev h0
            go_wp2_with (first
              | (go_at_call 17; refine HPo.out.mono ?_; rintro e w2 ⟨O, oc, rfl, hO, hb2⟩; have r2 := rk.on hb2)
              | (go_at_call 13; refine (HKo.out _ _ _ r2 hO).mono ?_; rintro e w3 ⟨rfl, hb3⟩))
            have B3 := hB.trans ((hb2.trans (hb3.mono hb2.size)).mono hB.size)
            go_roundw
            case rel => exact ⟨o + 1, co, true, by omega, by go_num, rfl, rfl, Lib.hid (fun j hj _ => ⟨rfl, (show j = o from Nat.succ.inj hj) ▸ hcoE'.out.symm⟩), Lib.hid (fun _ => ⟨o, hfT.out⟩), Lib.hid (fun _ => rfl), B3⟩
            case measure => simp [intOf]; omega
        · have hbo' : ((b : Int) == (o : Int)) = false := by simp; omega
          clear hbo hcost
          by_cases h0 : 0 < o
          · obtain ⟨hfo, hla⟩ := hprev.out h0
            subst hfo
            have h0' : decide ((0 : Int) < (o : Int)) = true := by simp; omega
            have h0d : decide (0 < o) = true := by simp; omega
            have hla' : decide (co < last) = false := by simp; omega
            clear hprev h0 hla
            go_wp2_with (first
              | (go_at_call 17; refine HPo.out.mono ?_; rintro e w2 ⟨O, oc, rfl, hO, hb2⟩; have r2 := rk.on hb2)
              | (go_at_call 13; refine (HKo.out _ _ _ r2 hO).mono ?_; rintro e w3 ⟨rfl, hb3⟩))
            have B3 := hB.trans ((hb2.trans (hb3.mono hb2.size)).mono hB.size)
            go_roundw
            case rel => exact ⟨o + 1, co, true, by omega, by go_num, rfl, rfl, Lib.hid (fun j hj _ => ⟨rfl, (show j = o from Nat.succ.inj hj) ▸ hcoE'.out.symm⟩), Lib.hid (fun _ => ⟨o, hfT.out⟩), Lib.hid (fun _ => rfl), B3⟩
            case measure => simp [intOf]; omega
          · have h0' : decide ((0 : Int) < (o : Int)) = false := by simp; omega
            have h0d : decide (0 < o) = false := by simp; omega
            clear hprev h0
            go_wp2_with (first
              | (go_at_call 17; refine HPo.out.mono ?_; rintro e w2 ⟨O, oc, rfl, hO, hb2⟩; have r2 := rk.on hb2)
              | (go_at_call 13; refine (HKo.out _ _ _ r2 hO).mono ?_; rintro e w3 ⟨rfl, hb3⟩))
            have B3 := hB.trans ((hb2.trans (hb3.mono hb2.size)).mono hB.size)
            go_roundw
            case rel => exact ⟨o + 1, co, true, by omega, by go_num, rfl, rfl, Lib.hid (fun j hj _ => ⟨rfl, (show j = o from Nat.succ.inj hj) ▸ hcoE'.out.symm⟩), Lib.hid (fun _ => ⟨o, hfT.out⟩), Lib.hid (fun _ => rfl), B3⟩
            case measure => simp [intOf]; omega
    · obtain rfl : o = 11 := by omega
      have hlt' : decide (((11 : Nat) : Int) ≤ 10) = false := by decide
      have hfe : (found == (er == 0)) = true := by
        rcases hlarge.out with ⟨hl, hall⟩ | ⟨b, hb, hbf, hl, hmax⟩
        · injection hl with e1 e2
          injection e2 with e2 e3
          rw [e3]
          cases hfo : found with
          | false => rfl
          | true =>
            obtain ⟨j, hj⟩ := hI2.out hfo
            rw [hall j] at hj; cases hj
        · injection hl with e1 e2
          injection e2 with e2 e3
          rw [e3, hI3.out ⟨b, by omega, hbf⟩]; rfl
      clear hI1 hI2 hI3
      go_wp2_with (go_at_call 9; refine (awake24_any _).mono ?_; rintro e w6 ⟨rfl, hb6⟩)
      go_ret
      have B5 := B1.trans (hB.mono B1.size)
      exact ⟨rfl, B5.trans (hb6.mono B5.size)⟩
theorem lowerLaw_any (pages : Int) (A : Option Addr) (n cap : Nat) (bs : List B3) (w : World) (hn : bs.length = n) (hm : n ≤ maxLen) (hr : RT w w.heap.size A bs) :
    Calls Try.prog 7 #[.int .i64 pages, .slice A n cap] w fun e w' => e = .returned (.bool true) ∧ Below w.heap.size w w' := by
  by_cases hc : chkB pages bs = 0
  · have ok := chkB_ok hc
    obtain ⟨P, hP, hpg⟩ := spaceB_pow ok.space
    subst hpg
    exact lowerOk_any (2 ^ P) P A n cap bs w hn (by rw [← hn]; exact ok.len) hr hP rfl hc
  · exact lowerBad_any pages A n cap bs w hn hm hr hc
end Go.Proofs.Ytifdgabfnnkghaa
