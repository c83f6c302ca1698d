/- Walk: the law MovingMakes. -/
import Derived.Test.YtifdgabfnnkghaaVWalkU
namespace Go.Proofs.Ytifdgabfnnkghaa
open Go Go.Proofs Go.RowKit Go.Pol Go.Shelf Go.Deep

theorem chk_long {pages : Int} {bs : List B3} (h : chkB pages bs = 0) : bs.length ≤ 64 := (chkB_ok h).len
/-- the laws' first answer: blocks that are wrong -/
theorem makesBad_any (pages : Int) (A : Option Addr) (n cap : Nat) (bs : List B3) (o : Int) (w : World) (hn : bs.length = n) (hm : n ≤ maxLen) (hr : RT w w.heap.size A bs) (hc : chkB pages bs ≠ 0) :
    Calls Try.prog 5 #[.int .i64 pages, .slice A n cap, .int .i64 o] w fun e w' => e = .returned (.bool true) ∧ Below w.heap.size w w' := by
  have HC := Lib.hid (refCheck_any pages A n cap bs w hn hm hr)
  generalize chkB pages bs = ck at *
  have hc' : (ck != 0) = true := by simpa using hc
  clear hc hn
  by_cases h64 : 64 < n
  · have h1 : decide ((64 : Int) < (n : Int)) = true := by simp; omega
    clear h64
    go_enter Try.func5, Try.ntmps5
    go_wp2_with (go_at_call 9; refine (awake24_any _).mono ?_; rintro e w1 ⟨rfl, hb1⟩)
    go_ret
    exact ⟨rfl, hb1⟩
  · have h1 : decide ((64 : Int) < (n : Int)) = false := by simp; omega
    clear h64
    go_enter Try.func5, Try.ntmps5
    go_wp2_with (first
      | (go_at_call 15; refine HC.out.mono ?_; rintro e w0 ⟨rfl, hb0⟩)
      | (go_at_call 9; refine (awake24_any _).mono ?_; rintro e w1 ⟨rfl, hb1⟩))
    go_ret
    exact ⟨rfl, hb0.trans (hb1.mono hb0.size)⟩
theorem makesErr_any (pages : Int) (A : Option Addr) (n cap : Nat) (bs : List B3) (o : Int) (er : Int) (w : World) (hn : bs.length = n) (hm : n ≤ 64) (hr : RT w w.heap.size A bs) (hc : chkB pages bs = 0) (hP : PlanF pages bs o = ([], er)) (he : (er = 2 ∧ (o < 0 ∨ 10 < o ∨ pages < pw o)) ∨ (er = 4 ∧ 0 ≤ o ∧ o ≤ 10 ∧ pw o ≤ pages)) :
    Calls Try.prog 5 #[.int .i64 pages, .slice A n cap, .int .i64 o] w fun e w' => e = .returned (.bool true) ∧ Below w.heap.size w w' := by
  have hml : n ≤ maxLen := by unfold maxLen; omega
  have HC := Lib.hid (refCheck_any pages A n cap bs w hn hml hr)
  rw [hc] at HC
  have HP := Lib.hid (fun W (h : RT W W.heap.size A bs) => Plan_any pages A n cap bs o W hn hml h)
  rw [hP] at HP
  unfold PlanR at HP
  simp only [List.length_nil] at HP
  have h1 : decide ((64 : Int) < (n : Int)) = false := by simp; omega
  clear hn hc hP
  rcases he with ⟨rfl, he⟩ | ⟨rfl, h0, h10, hle⟩
  · by_cases q1 : o < 0
    · have q1' : decide (o < 0) = true := by simpa using q1
      clear he q1
      go_enter Try.func5, Try.ntmps5
      go_wp2_with (first
        | (go_at_call 15; refine HC.out.mono ?_; rintro e w0 ⟨rfl, hb0⟩)
        | (go_at_call 17; refine (HP.out _ (hr.on hb0)).mono ?_; rintro e w1 ⟨O, oc, rfl, hO, hb1⟩)
        | fail
        | (go_at_call 9; refine (awake24_any _).mono ?_; rintro e w2 ⟨rfl, hb2⟩))
      go_ret
      have B1 := hb0.trans (hb1.mono hb0.size)
      exact ⟨rfl, B1.trans (hb2.mono B1.size)⟩
    · have q1' : decide (o < 0) = false := by simpa using q1
      by_cases q2 : 10 < o
      · have q2' : decide (10 < o) = true := by simpa using q2
        clear he q1 q2
        go_enter Try.func5, Try.ntmps5
        go_wp2_with (first
          | (go_at_call 15; refine HC.out.mono ?_; rintro e w0 ⟨rfl, hb0⟩)
          | (go_at_call 17; refine (HP.out _ (hr.on hb0)).mono ?_; rintro e w1 ⟨O, oc, rfl, hO, hb1⟩)
          | fail
          | (go_at_call 9; refine (awake24_any _).mono ?_; rintro e w2 ⟨rfl, hb2⟩))
        go_ret
        have B1 := hb0.trans (hb1.mono hb0.size)
        exact ⟨rfl, B1.trans (hb2.mono B1.size)⟩
      · have q2' : decide (10 < o) = false := by simpa using q2
        have hlt : pages < pw o := by omega
        have q3' : decide (pages < pw o) = true := by simpa using hlt
        have HS := Lib.hid (fun W => refSize_any o W ⟨by omega, by omega⟩)
        have hmin : min o 10 = o := by omega
        have hp1 := pw_pos o
        have hp2 := pw_le (show o ≤ 10 by omega)
        generalize pw o = s at *
        clear he q1 q2 hlt
        go_enter Try.func5, Try.ntmps5
        go_wp2_with (first
          | (go_at_call 15; refine HC.out.mono ?_; rintro e w0 ⟨rfl, hb0⟩)
          | (go_at_call 17; refine (HP.out _ (hr.on hb0)).mono ?_; rintro e w1 ⟨O, oc, rfl, hO, hb1⟩)
          | (go_at_call 22; refine (HS.out _).mono ?_; rintro e wS ⟨rfl, hwS⟩; replace hwS := hwS.symm; subst hwS)
          | (go_at_call 9; refine (awake24_any _).mono ?_; rintro e w2 ⟨rfl, hb2⟩))
        go_ret
        have B1 := hb0.trans (hb1.mono hb0.size)
        exact ⟨rfl, B1.trans (hb2.mono B1.size)⟩
  · have q1' : decide (o < 0) = false := by simp; omega
    have q2' : decide (10 < o) = false := by simp; omega
    have q3' : decide (pages < pw o) = false := by simp; omega
    have HS := Lib.hid (fun W => refSize_any o W ⟨h0, h10⟩)
    have hmin : min o 10 = o := by omega
    have hp1 := pw_pos o
    have hp2 := pw_le h10
    generalize pw o = s at *
    clear hle
    go_enter Try.func5, Try.ntmps5
    go_wp2_with (first
      | (go_at_call 15; refine HC.out.mono ?_; rintro e w0 ⟨rfl, hb0⟩)
      | (go_at_call 17; refine (HP.out _ (hr.on hb0)).mono ?_; rintro e w1 ⟨O, oc, rfl, hO, hb1⟩)
      | (go_at_call 22; refine (HS.out _).mono ?_; rintro e wS ⟨rfl, hwS⟩; replace hwS := hwS.symm; subst hwS)
      | (go_at_call 9; refine (awake24_any _).mono ?_; rintro e w2 ⟨rfl, hb2⟩))
    go_ret
    have B1 := hb0.trans (hb1.mono hb0.size)
    exact ⟨rfl, B1.trans (hb2.mono B1.size)⟩
set_option maxRecDepth 100000 in
set_option maxHeartbeats 3200000 in
theorem makesOk_any (pg P : Nat) (A : Option Addr) (n cap : Nat) (bs : List B3) (o : Nat) (w : World) (hn : bs.length = n) (hm : n ≤ 64) (hz : A = none → cap = 0) (hr : RT w w.heap.size A bs) (hP10 : P ≤ 10) (hpg : pg = 2 ^ P) (ho : o ≤ P) (hc : chkB (pg : Int) bs = 0) (his : (planB pg bs o).2.2 = true) :
    Calls Try.prog 5 #[.int .i64 pg, .slice A n cap, .int .i64 o] w fun e w' => e = .returned (.bool true) ∧ Below w.heap.size w w' := by
  have hpg1024 : pg ≤ 1024 := by rw [hpg]; exact Nat.pow_le_pow_right (by decide) hP10
  have hml : n ≤ maxLen := by unfold maxLen; omega
  have ok := chkB_ok hc
  have hle : 2 ^ o ≤ pg := by rw [hpg]; exact pow_le_iff.2 ho
  have hPF := PlanF_ok hc (show o ≤ 10 by omega) hle
  rw [if_pos his] at hPF
  obtain ⟨hopn, ⟨cs', haft, hop2⟩, hl64, l, hfst, hsort, hpin⟩ := makes_law hc hpg1024 his
  have HC := Lib.hid (refCheck_any (pg : Int) A n cap bs w hn hml hr)
  rw [hc] at HC
  have HP := Lib.hid (fun W (h : RT W W.heap.size A bs) => Plan_any (pg : Int) A n cap bs (o : Int) W hn hml h)
  rw [hPF] at HP
  have hokp : ∀ b ∈ bs, okPl b := fun b hb => ins_okPl (pages := (pg : Int)) (by omega) (ok.ins b hb)
  have HO := Lib.hid (fun W (h : RT W W.heap.size A bs) => opened_any pg P A n cap bs o W hP10 hpg ho hn (by omega) h hokp)
  generalize (planB pg bs o).1 = ms at *
  obtain ⟨mn, hmn⟩ : ∃ mn, ms.length = mn := ⟨_, rfl⟩
  rw [hmn] at hl64
  have hmnl : mn ≤ maxLen := by unfold maxLen; omega
  have HA := Lib.hid (fun M mcap W (h : RT W W.heap.size A bs) (h' : RU W W.heap.size M ms) => refAfter_any (pg : Int) A M n cap mn mcap bs ms W hn hml hz h hmn hmnl h')
  rw [haft] at HA
  have hcl := afterB_len (pg : Int) bs ms
  rw [haft] at hcl
  simp only at hcl
  have hok2 : ∀ b ∈ cs', okPl b := by
    have h2 : afterL (pg : Int) bs ms = (cs', 0) := by
      unfold afterB at haft
      rw [if_pos hc, if_neg (by omega)] at haft
      exact haft
    have h3 := (after_trace ms bs cs' ok h2).1
    exact fun b hb => ins_okPl (pages := (pg : Int)) (by omega) (h3.ins b hb)
  have HO2 := Lib.hid (fun A2 cap2 W (h : RT W W.heap.size A2 cs') => opened_any pg P A2 cs'.length cap2 cs' o W hP10 hpg ho rfl (by omega) h hok2)
  rw [hop2] at HO2
  unfold PlanR at HP
  unfold AfterR at HA
  simp only [hmn] at HP HA
  have hlen : l.length = mn := by
    have := congrArg List.length hfst
    rw [List.length_map, List.length_map, hmn] at this
    exact this.symm
  have hat : Hid (∀ k, k < mn → (ms.getD k (0,0)).1 = ((l.getD k 0 : Nat) : Int) ∧ l.getD k 0 < n ∧ (bs.getD (l.getD k 0) b0).2.2 = false) := Lib.hid (fun k hk => by
    have h1 : (ms.map (·.1)).getD k 0 = (l.map (fun i : Nat => (i : Int))).getD k 0 := by rw [hfst]
    simp only [List.getD_eq_getElem?_getD, List.getElem?_map] at h1
    rw [List.getElem?_eq_getElem (by omega), List.getElem?_eq_getElem (by omega)] at h1
    have hmem : l.getD k 0 ∈ l := by rw [List.getD_eq_getElem?_getD, List.getElem?_eq_getElem (by omega)]; simp
    have h2 := hpin _ hmem
    refine ⟨?_, by omega, h2.2⟩
    simp only [List.getD_eq_getElem?_getD]
    rw [List.getElem?_eq_getElem (by omega), List.getElem?_eq_getElem (by omega)]
    simpa using h1)
  have hlts : Hid (∀ k, k + 1 < mn → l.getD k 0 < l.getD (k + 1) 0) := Lib.hid (fun k hk => by
    have := (List.pairwise_iff_getElem.1 hsort) k (k + 1) (by omega) (by omega) (by omega)
    simpa [List.getD_eq_getElem?_getD, show k < l.length by omega, show k + 1 < l.length by omega] using this)
  have h1 : decide ((64 : Int) < (n : Int)) = false := by simp; omega
  have q1' : decide ((o : Int) < 0) = false := by simp
  have q2' : decide ((10 : Int) < (o : Int)) = false := by simp; omega
  have hnil : Hid (openL pg bs o = true → mn = 0) := Lib.hid (fun h => by rw [← hmn, hopn h]; rfl)
  have hn' := Lib.hid hn
  have hmn' := Lib.hid hmn
  have ho10 : o ≤ 10 := by omega
  generalize openL pg bs o = op at *
  clear hn hmn hc ok hPF his hopn haft hop2 hfst hsort hpin hokp hok2 hpg hle hcl hlen ho hP10
  go_enter Try.func5, Try.ntmps5
  cases op with
  | true =>
    have hmz := hnil.out rfl
    have hne : (((mn : Int)) != 0) = false := by simp [hmz]
    clear hnil hmz
    go_upto_region 11 with (first
      | (go_at_call 15; refine HC.out.mono ?_; rintro e w0 ⟨rfl, hb0⟩; have r0 := hr.on hb0)
      | (go_at_call 17; refine (HP.out _ r0).mono ?_; rintro e w1 ⟨O, oc, rfl, hO, hb1⟩; have r1 := r0.on hb1; have B1 := hb0.trans (hb1.mono hb0.size))
      | (go_at_call 23; have hno := B1; have hyes := r3; refine (HO2.out _ _ _ r3).mono ?_; rintro e w4 ⟨rfl, hb4⟩; have B4 := B3.trans (hb4.mono B3.size))
      | (go_at_call 23; refine (HO.out _ r1).mono ?_; rintro e w2 ⟨rfl, hb2⟩; have B2 := B1.trans (hb2.mono B1.size); have r2 := r1.on hb2; have hO2 := (hO.below hb2).more hb2.size)
      | (go_at_call 11; refine (HA.out _ _ _ r2 hO2).mono ?_; rintro e w3 ⟨A3, c3, rfl, r3, hb3⟩; have B3 := B2.trans (hb3.mono B2.size)))
    have b14 := hb2.trans ((hb3.trans (hb4.mono hb3.size)).mono hb2.size)
    have r4 := r1.on b14
    have hO4 := (hO.below b14).more b14.size
    clear hb0 hb1 hb2 hb3 hb4 r0 r1 r2 r3 hO hO2 b14 B1 B2 B3 HC HP HO HO2 HA
    go_wp2_with fail
    go_loopw [10] (fun i wr => ∃ k : Nat, k ≤ mn ∧ i = .int .i64 k ∧ Below w4.heap.size w4 wr) (fun i _ => mn - (intOf i).toNat)
    case atStart => exact ⟨0, by omega, rfl, Below.refl _ _⟩
    case round =>
      obtain ⟨k, hk, rfl, hB⟩ := hrel
      by_cases hlt : k < mn
      · have hlt' : decide ((k : Int) < (mn : Int)) = true := by simpa using hlt
        have hlt2 : decide (k < mn) = true := by simpa using hlt
        have hOk := (hO4.below hB).more hB.size
        have rk := (r4.below hB).more hB.size
        obtain ⟨b, o2, rfl, _, c1, _⟩ := RU.at_' hOk (k := k) (by have := hmn'.out; omega)
        obtain ⟨e1, e2, e3⟩ := hat.out k hlt
        rw [e1] at c1
        obtain ⟨b2, o3, rfl, _, _, _, d3⟩ := rk.at_ (k := l.getD k 0) (by have := hn'.out; omega)
        rw [e3] at d3
        obtain ⟨li, hli⟩ : ∃ li, l.getD k 0 = li := ⟨_, rfl⟩
        rw [hli] at c1 d3 e2
        have hli' := Lib.hid hli
        have q1 := fun z : Ext wr => z.cell c1
        have q3 := fun z : Ext wr => z.cell d3
        clear e1 e3 hli
        by_cases hk0 : k = 0
        · have hk1 : decide ((0 : Int) < (k : Int)) = false := by simp; omega
          have hk2 : decide (0 < k) = false := by simp; omega
          clear hk0
          go_upto_region 14 with fail
          refine region_ext (by kernel_rfl) (by kernel_rfl) ?_
          repeat (go_big_quiet_step (fail))
          refine wpQuiet_nil ?_
          rintro w5 ⟨⟨_, hw5⟩, rfl⟩
          go_wp2_with fail
          go_roundw
          case rel => exact ⟨k + 1, by omega, by go_num, hB.trans (hw5.mono hB.size)⟩
          case measure => simp [intOf]; omega
        · obtain ⟨j, rfl⟩ : ∃ j, k = j + 1 := ⟨k - 1, by omega⟩
          have hk1 : decide ((0 : Int) < ((j + 1 : Nat) : Int)) = true := by rw [decide_eq_true_eq]; omega
          obtain ⟨b', o4, e', _, c5, _⟩ := RU.at_' hOk (k := j) (by have := hmn'.out; omega)
          cases e'
          rw [(hat.out j (by omega)).1] at c5
          have hjl := hlts.out j (by omega)
          rw [hli'.out] at hjl
          obtain ⟨lj, hlj⟩ : ∃ lj, l.getD j 0 = lj := ⟨_, rfl⟩
          rw [hlj] at c5 hjl
          clear hlj
          have hcmp : decide ((li : Int) ≤ (lj : Int)) = false := by simp; omega
          have hcmp2 : decide (li ≤ lj) = false := by simp; omega
          have q5 := fun z : Ext wr => z.cell c5
          go_upto_region 14 with fail
          refine region_ext (by kernel_rfl) (by kernel_rfl) ?_
          repeat (go_big_quiet_step (fail))
          refine wpQuiet_nil ?_
          rintro w5 ⟨⟨_, hw5⟩, rfl⟩
          go_wp2_with fail
          go_roundw
          case rel => exact ⟨j + 2, by omega, by go_num, hB.trans (hw5.mono hB.size)⟩
          case measure => simp [intOf]; omega
      · obtain rfl : k = mn := by omega
        have hlt' : decide ((k : Int) < (k : Int)) = false := by simp
        go_wp2_with (go_at_call 9; refine (awake24_any _).mono ?_; rintro e w6 ⟨rfl, hb6⟩)
        go_ret
        have B5 := B4.trans (hB.mono B4.size)
        exact ⟨rfl, B5.trans (hb6.mono B5.size)⟩
  | false =>
    clear hnil
    go_upto_region 11 with (first
      | (go_at_call 15; refine HC.out.mono ?_; rintro e w0 ⟨rfl, hb0⟩; have r0 := hr.on hb0)
      | (go_at_call 17; refine (HP.out _ r0).mono ?_; rintro e w1 ⟨O, oc, rfl, hO, hb1⟩; have r1 := r0.on hb1; have B1 := hb0.trans (hb1.mono hb0.size))
      | (go_at_call 23; have hno := B1; have hyes := r3; refine (HO2.out _ _ _ r3).mono ?_; rintro e w4 ⟨rfl, hb4⟩; have B4 := B3.trans (hb4.mono B3.size))
      | (go_at_call 23; refine (HO.out _ r1).mono ?_; rintro e w2 ⟨rfl, hb2⟩; have B2 := B1.trans (hb2.mono B1.size); have r2 := r1.on hb2; have hO2 := (hO.below hb2).more hb2.size)
      | (go_at_call 11; refine (HA.out _ _ _ r2 hO2).mono ?_; rintro e w3 ⟨A3, c3, rfl, r3, hb3⟩; have B3 := B2.trans (hb3.mono B2.size)))
    have b14 := hb2.trans ((hb3.trans (hb4.mono hb3.size)).mono hb2.size)
    have r4 := r1.on b14
    have hO4 := (hO.below b14).more b14.size
    clear hb0 hb1 hb2 hb3 hb4 r0 r1 r2 r3 hO hO2 b14 B1 B2 B3 HC HP HO HO2 HA
    go_wp2_with fail
    go_loopw [10] (fun i wr => ∃ k : Nat, k ≤ mn ∧ i = .int .i64 k ∧ Below w4.heap.size w4 wr) (fun i _ => mn - (intOf i).toNat)
    case atStart => exact ⟨0, by omega, rfl, Below.refl _ _⟩
    case round =>
      obtain ⟨k, hk, rfl, hB⟩ := hrel
      by_cases hlt : k < mn
      · have hlt' : decide ((k : Int) < (mn : Int)) = true := by simpa using hlt
        have hlt2 : decide (k < mn) = true := by simpa using hlt
        have hOk := (hO4.below hB).more hB.size
        have rk := (r4.below hB).more hB.size
        obtain ⟨b, o2, rfl, _, c1, _⟩ := RU.at_' hOk (k := k) (by have := hmn'.out; omega)
        obtain ⟨e1, e2, e3⟩ := hat.out k hlt
        rw [e1] at c1
        obtain ⟨b2, o3, rfl, _, _, _, d3⟩ := rk.at_ (k := l.getD k 0) (by have := hn'.out; omega)
        rw [e3] at d3
        obtain ⟨li, hli⟩ : ∃ li, l.getD k 0 = li := ⟨_, rfl⟩
        rw [hli] at c1 d3 e2
        have hli' := Lib.hid hli
        have q1 := fun z : Ext wr => z.cell c1
        have q3 := fun z : Ext wr => z.cell d3
        clear e1 e3 hli
        by_cases hk0 : k = 0
        · have hk1 : decide ((0 : Int) < (k : Int)) = false := by simp; omega
          have hk2 : decide (0 < k) = false := by simp; omega
          clear hk0
          go_upto_region 14 with fail
          refine region_ext (by kernel_rfl) (by kernel_rfl) ?_
          repeat (go_big_quiet_step (fail))
          refine wpQuiet_nil ?_
          rintro w5 ⟨⟨_, hw5⟩, rfl⟩
          go_wp2_with fail
          go_roundw
          case rel => exact ⟨k + 1, by omega, by go_num, hB.trans (hw5.mono hB.size)⟩
          case measure => simp [intOf]; omega
        · obtain ⟨j, rfl⟩ : ∃ j, k = j + 1 := ⟨k - 1, by omega⟩
          have hk1 : decide ((0 : Int) < ((j + 1 : Nat) : Int)) = true := by rw [decide_eq_true_eq]; omega
          obtain ⟨b', o4, e', _, c5, _⟩ := RU.at_' hOk (k := j) (by have := hmn'.out; omega)
          cases e'
          rw [(hat.out j (by omega)).1] at c5
          have hjl := hlts.out j (by omega)
          rw [hli'.out] at hjl
          obtain ⟨lj, hlj⟩ : ∃ lj, l.getD j 0 = lj := ⟨_, rfl⟩
          rw [hlj] at c5 hjl
          clear hlj
          have hcmp : decide ((li : Int) ≤ (lj : Int)) = false := by simp; omega
          have hcmp2 : decide (li ≤ lj) = false := by simp; omega
          have q5 := fun z : Ext wr => z.cell c5
          go_upto_region 14 with fail
          refine region_ext (by kernel_rfl) (by kernel_rfl) ?_
          repeat (go_big_quiet_step (fail))
          refine wpQuiet_nil ?_
          rintro w5 ⟨⟨_, hw5⟩, rfl⟩
          go_wp2_with fail
          go_roundw
          case rel => exact ⟨j + 2, by omega, by go_num, hB.trans (hw5.mono hB.size)⟩
          case measure => simp [intOf]; omega
      · obtain rfl : k = mn := by omega
        have hlt' : decide ((k : Int) < (k : Int)) = false := by simp
        go_wp2_with (go_at_call 9; refine (awake24_any _).mono ?_; rintro e w6 ⟨rfl, hb6⟩)
        go_ret
        have B5 := B4.trans (hB.mono B4.size)
        exact ⟨rfl, B5.trans (hb6.mono B5.size)⟩
theorem makesLaw_any (pages : Int) (A : Option Addr) (n cap : Nat) (bs : List B3) (o : Int) (w : World) (hn : bs.length = n) (hm : n ≤ maxLen) (hz : A = none → cap = 0) (hr : RT w w.heap.size A bs) :
    Calls Try.prog 5 #[.int .i64 pages, .slice A n cap, .int .i64 o] w fun e w' => e = .returned (.bool true) ∧ Below w.heap.size w w' := by
  by_cases hc : chkB pages bs = 0
  · have ok := chkB_ok hc
    have h64 : n ≤ 64 := by rw [← hn]; exact ok.len
    obtain ⟨P, hP, hpg⟩ := spaceB_pow ok.space
    by_cases hg : isOrd o = true ∧ pw o ≤ pages
    · obtain ⟨h0, h10⟩ := isOrd_iff.1 hg.1
      obtain ⟨od, rfl⟩ := Int.eq_ofNat_of_zero_le h0
      have hle := hg.2
      rw [pw_nat, hpg] at hle
      have hoP := pow_le_int.1 hle
      subst hpg
      cases his : (planB (2 ^ P) bs od).2.2 with
      | true => exact makesOk_any (2 ^ P) P A n cap bs od w hn h64 hz hr hP rfl hoP hc his
      | false =>
        refine makesErr_any _ A n cap bs _ 4 w hn h64 hr hc ?_ (.inr ⟨rfl, h0, h10, hg.2⟩)
        rw [PlanF_ok hc (by omega) (pow_le_iff.2 hoP), his]; rfl
    · refine makesErr_any pages A n cap bs o 2 w hn h64 hr hc ?_ (.inl ⟨rfl, ?_⟩)
      · unfold PlanF; rw [if_pos hc, if_neg hg]
      · by_cases h1 : o < 0
        · exact .inl h1
        · by_cases h2 : 10 < o
          · exact .inr (.inl h2)
          · refine .inr (.inr ?_)
            by_cases h3 : pages < pw o
            · exact h3
            · exact absurd ⟨isOrd_iff.2 ⟨by omega, by omega⟩, by omega⟩ hg
  · exact makesBad_any pages A n cap bs o w hn hm hr hc
end Go.Proofs.Ytifdgabfnnkghaa
