/- Walks: Plan, Largest (the reference). -/
import Derived.Test.YtifdgabfnnkghaaVWalkZC
import Derived.Test.YtifdgabfnnkghaaVWalkW
namespace Go.Pol
theorem refEmptyB_len (pg : Nat) (bs : List B3) (o k : Nat) : (refEmptyB pg bs o k).1.length ≤ bs.length := by
  unfold refEmptyB
  split
  · simp
  · exact Nat.le_trans (emptyB_len _ _ _ _) (moved_len _ _)
end Go.Pol
namespace Go.Proofs.Ytifdgabfnnkghaa
open Go Go.Proofs Go.RowKit Go.Pol Go.Shelf Go.Deep

set_option maxRecDepth 100000 in
set_option maxHeartbeats 3200000 in
theorem refPlanOk_any (pg P : Nat) (A : Option Addr) (n cap : Nat) (bs : List B3) (o : Nat) (w : World) (hn : bs.length = n) (hr : RT w w.heap.size A bs) (hP : P ≤ 10) (hpg : pg = 2 ^ P) (hoP : o ≤ P) (hc : chkB (pg : Int) bs = 0) :
    Calls Try.prog 18 #[.int .i64 pg, .slice A n cap, .int .i64 o] w (PlanR (if (planB pg bs o).2.2 = true then ((planB pg bs o).1, 0) else ([], 4)) w) := by
  have ok := chkB_ok hc
  have hn64 : n ≤ 64 := by rw [← hn]; exact ok.len
  have hml : n ≤ maxLen := by unfold maxLen; omega
  have hpg1024 : pg ≤ 1024 := by rw [hpg]; exact Nat.pow_le_pow_right (by decide) hP
  have HC := Lib.hid (refCheck_any (pg : Int) A n cap bs w hn hml hr)
  rw [hc] at HC
  have HOr := Lib.hid (fun W => refOrd_any (o : Int) W)
  rw [isOrd_iff.2 ⟨by omega, by omega⟩] at HOr
  have HS := Lib.hid (fun W => refSize_any (o : Int) W ⟨by omega, by omega⟩)
  rw [pw_nat] at HS
  obtain ⟨Q, hQ⟩ : ∃ Q, pg / 2 ^ o = Q := ⟨_, rfl⟩
  have hpq : pg = Q * 2 ^ o := by rw [← hQ]; exact (Nat.div_mul_cancel (by rw [hpg]; exact Nat.pow_dvd_pow 2 hoP)).symm
  have HEm := Lib.hid (fun (k : Nat) (hk : k * 2 ^ o + 2 ^ o ≤ pg) W (hW : RT W W.heap.size A bs) => refEmpty_any pg P A n cap bs o k W hP hpg hoP hk hn hW ok _ rfl)
  have hlen := Lib.hid (fun k => refEmptyB_len pg bs o k)
  have HBt := Lib.hid (fun (U V : Option Addr) (un ucap vn vcap : Nat) (us vs : List (Int × Int)) W (h : RT W W.heap.size A bs) (hu : us.length = un) (hv : vs.length = vn) (hu64 : un ≤ 64) (hv64 : vn ≤ 64) h1 h2 => better_any A U V n cap un ucap vn vcap bs us vs W hn hml h hu hv hu64 hv64 h1 h2)
  have hstep := Lib.hid (fun k => refT_succ pg bs o k)
  have hfinE : Hid (refT pg bs o Q = ((planB pg bs o).1, (planB pg bs o).2.2)) := Lib.hid (by rw [(refT_plan o ok hpg1024 Q).1, planB_T, hQ])
  obtain ⟨sz, hsz⟩ : ∃ sz, 2 ^ o = sz := ⟨_, rfl⟩
  have hsz1 : 1 ≤ sz := by rw [← hsz]; exact Nat.two_pow_pos o
  have hle : sz ≤ pg := by rw [← hsz, hpg]; exact pow_le_iff.2 hoP
  rw [hsz] at HS hpq
  have hbv : ∀ k, bV (placeB o k) = .agg #[.int .i64 ((k * sz : Nat) : Int), .int .i64 (o : Int), .bool false] := fun k => by rw [← hsz]
  have HEm2 := Lib.hid (fun (k x : Nat) (hx : x = k * sz) (hk : x + sz ≤ pg) W (hW : RT W W.heap.size A bs) => show Calls Try.prog 44 #[.int .i64 pg, .slice A n cap, .agg #[.int .i64 (x : Int), .int .i64 (o : Int), .bool false]] W (MovesR (refEmptyB pg bs o k) W) from by
    have := HEm.out k (by rw [hsz, ← hx]; exact hk) W hW
    rw [hbv, ← hx] at this
    exact this)
  have a6' : decide ((pg : Int) < (sz : Int)) = false := by simp; omega
  have a6d : decide (pg < sz) = false := by simp; omega
  obtain ⟨RR, hRR⟩ : ∃ RR, (if (planB pg bs o).2.2 = true then ((planB pg bs o).1, (0 : Int)) else ([], 4)) = RR := ⟨_, rfl⟩
  rw [hRR]
  have hRR' : Hid (RR = if (refT pg bs o Q).2 = true then ((refT pg bs o Q).1, 0) else ([], 4)) := Lib.hid (by rw [hfinE.out]; exact hRR.symm)
  have hpq' := Lib.hid hpq
  have hn' := Lib.hid hn
  obtain ⟨s, hs⟩ : ∃ s, w.heap.size = s := ⟨_, rfl⟩
  have hrS : RT w s A bs := by rw [← hs]; exact hr
  have hs' := Lib.hid hs
  clear hRR hbv HEm hfinE hsz hQ hpq hc ok hn hpg hr
  go_enter Try.func18, Try.ntmps18
  go_wp2_with (first
    | (go_at_call 15; refine HC.out.mono ?_; rintro e w1 ⟨rfl, hb1⟩)
    | (go_at_call 30; refine (HOr.out _).mono ?_; rintro e wS ⟨rfl, hwS⟩; replace hwS := hwS.symm; subst hwS)
    | (go_at_call 22; refine (HS.out _).mono ?_; rintro e wS ⟨rfl, hwS⟩; replace hwS := hwS.symm; subst hwS))
  rw [hs] at hb1
  have hs1 : s ≤ w1.heap.size := by have := hb1.size; omega
  clear hs HC HOr
  go_loopw [9, 10, 11] (fun a b d wr => ∃ (k x : Nat) (best : List (Int × Int)) (fd : Bool) (O : Option Addr) (bl oc : Nat), k ≤ Q ∧ d = .int .i64 x ∧ Hid (x = k * sz) ∧ a = .slice O bl oc ∧ b = .bool fd ∧ RU wr wr.heap.size O best ∧ Hid (best.length = bl) ∧ bl ≤ 64 ∧ Hid (refT pg bs o k = (best, fd)) ∧ Below s w wr ∧ s ≤ wr.heap.size) (fun _ _ d _ => pg + 1 - (intOf d).toNat)
  case atStart => exact ⟨0, 0, [], false, none, 0, 0, by omega, rfl, Lib.hid (by simp), rfl, rfl, RU.nil, Lib.hid rfl, by omega, Lib.hid rfl, hb1, hs1⟩
  case round =>
    obtain ⟨k, x, best, fd, O, bl, oc, hk, rfl, hx, rfl, rfl, hO, hbl, hbl64, hU, hB, hBs⟩ := hrel
    by_cases hlt : k < Q
    · have hxs : x + sz ≤ pg := by
        have := Nat.mul_le_mul_right sz (show k + 1 ≤ Q by omega)
        rw [Nat.succ_mul, ← hx.out, ← hpq'.out] at this
        exact this
      have hlt' : decide ((x : Int) < (pg : Int)) = true := by simp; omega
      have hlt2 : decide (x < pg) = true := by simp; omega
      have hrr := (hrS.below hB).more hBs
      have HX := Lib.hid (HEm2.out k x hx.out hxs wr hrr)
      have hEl := Nat.le_trans (hlen.out k) (show bs.length ≤ 64 by have := hn'.out; omega)
      have hst : Hid (refT pg bs o (k + 1) = refStep pg bs o (best, fd) k) := Lib.hid (by rw [hstep.out, hU.out])
      unfold refStep at hst
      obtain ⟨E, hEE⟩ : ∃ E, refEmptyB pg bs o k = E := ⟨_, rfl⟩
      rw [hEE] at HX hst hEl
      obtain ⟨ms, can⟩ := E
      unfold MovesR at HX
      simp only at HX hst hEl
      obtain ⟨ml, hml2⟩ : ∃ ml, ms.length = ml := ⟨_, rfl⟩
      rw [hml2] at HX hEl
      have hml' := Lib.hid hml2
      clear hEE hU hml2
      cases can with
      | false =>
        have hN : Hid (refT pg bs o (k + 1) = (best, fd)) := Lib.hid (by rw [hst.out]; rfl)
        clear hst
        go_wp2_with (first
          | (go_at_call 44; refine HX.out.mono ?_; rintro e w5 ⟨O2, oc2, rfl, hO2, hb5⟩)
          | (go_at_call 22; refine (HS.out _).mono ?_; rintro e wS ⟨rfl, hwS⟩; replace hwS := hwS.symm; subst hwS))
        have B5 := hB.trans (hb5.mono hBs)
        have hO5 := (hO.below hb5).more hb5.size
        go_roundw
        case rel => exact ⟨k + 1, x + sz, best, fd, O, bl, oc, by omega, by go_num, Lib.hid (by rw [hx.out, Nat.succ_mul]), rfl, rfl, hO5, hbl, hbl64, hN, B5, by have := hb5.size; omega⟩
        case measure => simp [intOf]; omega
      | true =>
        cases fd with
        | false =>
          have hN : Hid (refT pg bs o (k + 1) = (ms, true)) := Lib.hid (by rw [hst.out]; rfl)
          clear hst
          go_wp2_with (first
            | (go_at_call 44; refine HX.out.mono ?_; rintro e w5 ⟨O2, oc2, rfl, hO2, hb5⟩)
            | (go_at_call 22; refine (HS.out _).mono ?_; rintro e wS ⟨rfl, hwS⟩; replace hwS := hwS.symm; subst hwS))
          have B5 := hB.trans (hb5.mono hBs)
          go_roundw
          case rel => exact ⟨k + 1, x + sz, ms, true, O2, ml, oc2, by omega, by go_num, Lib.hid (by rw [hx.out, Nat.succ_mul]), rfl, rfl, hO2, hml', hEl, hN, B5, by have := hb5.size; omega⟩
          case measure => simp [intOf]; omega
        | true =>
          obtain ⟨bt, hbt⟩ : ∃ bt, betterB bs ms best = bt := ⟨_, rfl⟩
          have hbt' := Lib.hid hbt
          rw [hbt] at hst
          clear hbt
          cases bt with
          | false =>
            have hN : Hid (refT pg bs o (k + 1) = (best, true)) := Lib.hid (by rw [hst.out]; rfl)
            clear hst
            go_wp2_with (first
              | (go_at_call 44; refine HX.out.mono ?_; rintro e w5 ⟨O2, oc2, rfl, hO2, hb5⟩; have r5 := hrr.on hb5; have hO5 := (hO.below hb5).more hb5.size; have HB5 := Lib.hid (HBt.out O2 O ml oc2 bl oc ms best w5 r5 hml'.out hbl.out hEl hbl64 hO2 hO5); rw [hbt'.out] at HB5)
              | (go_at_call 45; refine HB5.out.mono ?_; rintro e w6 ⟨rfl, hb6⟩)
              | (go_at_call 22; refine (HS.out _).mono ?_; rintro e wS ⟨rfl, hwS⟩; replace hwS := hwS.symm; subst hwS))
            have B67 := hb5.trans (hb6.mono hb5.size)
            have B7 := hB.trans (B67.mono hBs)
            have hO7 := (hO.below B67).more B67.size
            have hP7 := (hO2.below hb6).more hb6.size
            go_roundw
            case rel => exact ⟨k + 1, x + sz, best, true, O, bl, oc, by omega, by go_num, Lib.hid (by rw [hx.out, Nat.succ_mul]), rfl, rfl, hO7, hbl, hbl64, hN, B7, by have := B67.size; omega⟩
            case measure => simp [intOf]; omega
          | true =>
            have hN : Hid (refT pg bs o (k + 1) = (ms, true)) := Lib.hid (by rw [hst.out]; rfl)
            clear hst
            go_wp2_with (first
              | (go_at_call 44; refine HX.out.mono ?_; rintro e w5 ⟨O2, oc2, rfl, hO2, hb5⟩; have r5 := hrr.on hb5; have hO5 := (hO.below hb5).more hb5.size; have HB5 := Lib.hid (HBt.out O2 O ml oc2 bl oc ms best w5 r5 hml'.out hbl.out hEl hbl64 hO2 hO5); rw [hbt'.out] at HB5)
              | (go_at_call 45; refine HB5.out.mono ?_; rintro e w6 ⟨rfl, hb6⟩)
              | (go_at_call 22; refine (HS.out _).mono ?_; rintro e wS ⟨rfl, hwS⟩; replace hwS := hwS.symm; subst hwS))
            have B67 := hb5.trans (hb6.mono hb5.size)
            have B7 := hB.trans (B67.mono hBs)
            have hO7 := (hO.below B67).more B67.size
            have hP7 := (hO2.below hb6).more hb6.size
            go_roundw
            case rel => exact ⟨k + 1, x + sz, ms, true, O2, ml, oc2, by omega, by go_num, Lib.hid (by rw [hx.out, Nat.succ_mul]), rfl, rfl, hP7, hml', hEl, hN, B7, by have := B67.size; omega⟩
            case measure => simp [intOf]; omega
    · obtain rfl : k = Q := by omega
      have hxp : x = pg := by rw [hx.out, ← hpq'.out]
      have hlt' : decide ((x : Int) < (pg : Int)) = false := by simp; omega
      have hlt2 : decide (x < pg) = false := by simp; omega
      have hRf : Hid (RR = if fd = true then (best, 0) else ([], 4)) := Lib.hid (by rw [hRR'.out, hU.out])
      have hBf : Hid (Below w.heap.size w wr) := Lib.hid (by rw [hs'.out]; exact hB)
      clear hU hxp
      cases fd with
      | true =>
        have hR2 : Hid (RR = (best, 0)) := Lib.hid (by rw [hRf.out]; rfl)
        go_wp2_with fail
        go_ret2
        rw [hR2.out]
        exact ⟨O, oc, by simp only [hbl.out]; rfl, hO, hBf.out⟩
      | false =>
        have hR2 : Hid (RR = ([], 4)) := Lib.hid (by rw [hRf.out]; rfl)
        go_wp2_with fail
        go_ret2
        rw [hR2.out]
        exact planR_err hBf.out
set_option maxRecDepth 100000 in
theorem refPlan_any (pages : Int) (A : Option Addr) (n cap : Nat) (bs : List B3) (o : Int) (w : World) (hn : bs.length = n) (hm : n ≤ maxLen) (hr : RT w w.heap.size A bs) :
    Calls Try.prog 18 #[.int .i64 pages, .slice A n cap, .int .i64 o] w (PlanR (PlanF pages bs o) w) := by
  have HC := Lib.hid (refCheck_any pages A n cap bs w hn hm hr)
  by_cases hc : chkB pages bs = 0
  · rw [hc] at HC
    have HOr := Lib.hid (fun W => refOrd_any o W)
    cases hio : isOrd o with
    | false =>
      rw [hio] at HOr
      have hE : Hid (PlanF pages bs o = ([], 2)) := Lib.hid (by unfold PlanF; rw [if_pos hc, if_neg (fun h => by rw [hio] at h; cases h.1)])
      clear hc hn hio
      generalize PlanF pages bs o = R at *
      go_enter Try.func18, Try.ntmps18
      go_wp2_with (first
        | (go_at_call 15; refine HC.out.mono ?_; rintro e w1 ⟨rfl, hb1⟩)
        | (go_at_call 30; refine (HOr.out _).mono ?_; rintro e wS ⟨rfl, hwS⟩; replace hwS := hwS.symm; subst hwS))
      go_ret2
      rw [hE.out]
      exact planR_err hb1
    | true =>
      obtain ⟨h0, h10⟩ := isOrd_iff.1 hio
      obtain ⟨P, hP, hpg⟩ := spaceB_pow (chkB_ok hc).space
      by_cases hle : pw o ≤ pages
      · obtain ⟨od, rfl⟩ := Int.eq_ofNat_of_zero_le h0
        have hle2 := hle
        rw [pw_nat, hpg] at hle2
        subst hpg
        have hoP := pow_le_int.1 hle2
        rw [PlanF_ok hc (by omega) (pow_le_iff.2 hoP)]
        exact refPlanOk_any (2 ^ P) P A n cap bs od w hn hr hP rfl hoP hc
      · rw [hio] at HOr
        have HS := Lib.hid (fun W => refSize_any o W ⟨h0, h10⟩)
        have hE : Hid (PlanF pages bs o = ([], 2)) := Lib.hid (by unfold PlanF; rw [if_pos hc, if_neg (fun h => hle h.2)])
        have hlt : decide (pages < pw o) = true := by rw [decide_eq_true_eq]; omega
        clear hc hn hio hpg hle
        generalize pw o = sz at *
        generalize PlanF pages bs o = R at *
        go_enter Try.func18, Try.ntmps18
        go_wp2_with (first
          | (go_at_call 15; refine HC.out.mono ?_; rintro e w1 ⟨rfl, hb1⟩)
          | (go_at_call 30; refine (HOr.out _).mono ?_; rintro e wS ⟨rfl, hwS⟩; replace hwS := hwS.symm; subst hwS)
          | (go_at_call 22; refine (HS.out _).mono ?_; rintro e wS ⟨rfl, hwS⟩; replace hwS := hwS.symm; subst hwS))
        go_ret2
        rw [hE.out]
        exact planR_err hb1
  · have hE : Hid (PlanF pages bs o = ([], chkB pages bs)) := Lib.hid (by unfold PlanF; rw [if_neg hc])
    have hc' : (chkB pages bs != 0) = true := by simpa using hc
    have hc2 : (chkB pages bs == 0) = false := by simpa using hc
    clear hc hn
    generalize PlanF pages bs o = R at *
    generalize chkB pages bs = ck at *
    go_enter Try.func18, Try.ntmps18
    go_wp2_with (go_at_call 15; refine HC.out.mono ?_; rintro e w1 ⟨rfl, hb1⟩)
    go_ret2
    rw [hE.out]
    exact planR_err hb1
set_option maxRecDepth 100000 in
set_option maxHeartbeats 1600000 in
theorem refLargest_any (pages : Int) (A : Option Addr) (n cap : Nat) (bs : List B3) (w : World) (hn : bs.length = n) (hm : n ≤ maxLen) (hr : RT w w.heap.size A bs) :
    Calls Try.prog 20 #[.int .i64 pages, .slice A n cap] w (LargeR (LargeF pages bs) w) := by
  have HC := Lib.hid (refCheck_any pages A n cap bs w hn hm hr)
  by_cases hc : chkB pages bs = 0
  · rw [hc] at HC
    obtain ⟨P, hP, hpg⟩ := spaceB_pow (chkB_ok hc).space
    obtain ⟨pg, hpgn⟩ : ∃ pg : Nat, pages = (pg : Int) := ⟨2 ^ P, hpg⟩
    subst hpgn
    have hpg2 : pg = 2 ^ P := by exact_mod_cast hpg
    have hpg1024 : pg ≤ 1024 := by rw [hpg2]; exact Nat.pow_le_pow_right (by decide) hP
    have hE : Hid (LargeF pg bs = largeL pg bs (P + 1)) := Lib.hid (by unfold LargeF; rw [if_pos hc, Int.toNat_natCast, hpg2, Nat.log2_two_pow])
    have HP := Lib.hid (fun (o : Nat) (ho : o ≤ 10) W (h : RT W W.heap.size A bs) => show Calls Try.prog 18 #[.int .i64 pg, .slice A n cap, .int .i64 o] W (PlanR (plansB pg P bs o) W) from by rw [← plansB_eq hpg2 hc ho]; exact refPlan_any (pg : Int) A n cap bs (o : Int) W hn hm h)
    have HK := Lib.hid (fun (o : Nat) M mcap W (h : RT W W.heap.size A bs) (h' : RU W W.heap.size M (plansB pg P bs o).1) => show Calls Try.prog 13 #[.slice A n cap, .slice M (plansB pg P bs o).1.length mcap] W (CostR (costP pg P bs o, 0) W) from by
      have h1 := costP_eq (P := P) hc hpg1024 o
      rw [← h1.1]; exact refCost_any A M n cap _ mcap bs _ W hn hm h rfl (by unfold maxLen; omega) h')
    have her := Lib.hid (fun o => show (plansB pg P bs o).2 = if fndB pg P bs o = true then 0 else if o ≤ P then 4 else 2 from by unfold plansB; split <;> rfl)
    have hnx : Hid (∀ o, largeL pg bs (min (o + 1) (P + 1)) = if fndB pg P bs o = true then ((o : Int), costP pg P bs o, 0) else largeL pg bs (min o (P + 1))) := Lib.hid (fun o => by
      by_cases h : o ≤ P
      · rw [Nat.min_eq_left (by omega), Nat.min_eq_left (by omega), largeL]
        unfold fndB costP fndB
        rw [decide_eq_true h, Bool.true_and]
        split
        · rfl
        · rfl
      · rw [Nat.min_eq_right (by omega), Nat.min_eq_right (by omega)]
        unfold fndB
        rw [decide_eq_false h, Bool.false_and, if_neg (by simp)])
    have hzero : Hid (largeL pg bs (min 0 (P + 1)) = (0, 0, 4)) := Lib.hid (by rw [Nat.zero_min]; rfl)
    have hstart : Hid (LargeF pg bs = largeL pg bs (min 11 (P + 1))) := Lib.hid (by rw [hE.out, Nat.min_eq_right (by omega)])
    generalize plansB pg P bs = pl at *
    generalize costP pg P bs = cst at *
    generalize fndB pg P bs = fnd at *
    generalize LargeF (pg : Int) bs = R at *
    generalize largeL pg bs = lg at *
    have hcst : True := trivial
    clear hE hc hpg hpg2 hn hcst
    go_enter Try.func20, Try.ntmps20
    go_wp2_with (go_at_call 15; refine HC.out.mono ?_; rintro e w1 ⟨rfl, hb1⟩)
    go_loopw [8] (fun i wr => ∃ (j : Nat) (y : Int), j ≤ 11 ∧ i = .int .i64 y ∧ y = (j : Int) - 1 ∧ Hid (R = lg (min j (P + 1))) ∧ Below w.heap.size w wr) (fun i _ => (intOf i + 1).toNat)
    case atStart => exact ⟨11, 10, by omega, rfl, by omega, hstart, hb1⟩
    case round =>
      obtain ⟨j, y, hj, rfl, hy, hR, hB⟩ := hrel
      cases j with
      | zero =>
        have hy' : decide (0 ≤ y) = false := by simp; omega
        have hRR : Hid (R = (0, 0, 4)) := Lib.hid (by rw [hR.out, hzero.out])
        clear hR hy
        go_wp2_with fail
        (try simp only [Exit.inBlock, Exit.then]); refine bodyPost_ret (results_tmp3 rfl _ _ _) rfl ?_
        rw [hRR.out]
        exact ⟨rfl, hB⟩
      | succ j =>
        obtain rfl : y = (j : Int) := by omega
        have hy' : decide ((0 : Int) ≤ (j : Int)) = true := by simp
        have rk := (hr.below hB).more hB.size
        have HPo := Lib.hid (HP.out j (by omega) wr rk)
        have HKo := Lib.hid (fun M mcap W h h' => HK.out j M mcap W h h')
        have hero := Lib.hid (her.out j)
        have hst := Lib.hid (show R = if fnd j = true then ((j : Int), cst j, 0) else lg (min j (P + 1)) from by rw [hR.out, hnx.out])
        obtain ⟨Rp, hRp⟩ : ∃ Rp, pl j = Rp := ⟨_, rfl⟩
        rw [hRp] at HPo HKo hero
        obtain ⟨ms, eo⟩ := Rp
        unfold PlanR at HPo
        unfold CostR at HKo
        simp only at HPo HKo hero
        generalize cst j = co at *
        clear hR hy hRp
        cases hf : fnd j with
        | true =>
          have heo : eo = 0 := by have := hero.out; rw [hf, if_pos rfl] at this; exact this
          subst heo
          have hRR : Hid (R = ((j : Int), co, 0)) := Lib.hid (by rw [hst.out, if_pos hf])
          clear hst hero hf
          go_wp2_with (first
            | (go_at_call 18; refine HPo.out.mono ?_; rintro e w2 ⟨O, oc, rfl, hO, hb2⟩; have r2 := rk.on hb2)
            | (go_at_call 13; refine (HKo.out _ _ _ r2 hO).mono ?_; rintro e w3 ⟨rfl, hb3⟩))
          (try simp only [Exit.inBlock, Exit.then]); refine bodyPost_ret (results_tmp3 rfl _ _ _) rfl ?_
          rw [hRR.out]
          exact ⟨rfl, hB.trans ((hb2.trans (hb3.mono hb2.size)).mono hB.size)⟩
        | false =>
          have heo' : (eo == 0) = false := by
            have := hero.out
            rw [hf, if_neg (by simp)] at this
            rw [this]
            split <;> rfl
          have hRR : Hid (R = lg (min j (P + 1))) := Lib.hid (by rw [hst.out, if_neg (by rw [hf]; simp)])
          clear hst hero hf
          go_wp2_with (go_at_call 18; refine HPo.out.mono ?_; rintro e w2 ⟨O, oc, rfl, hO, hb2⟩)
          go_roundw
          case rel => exact ⟨j, (j : Int) - 1, by omega, rfl, rfl, hRR, hB.trans (hb2.mono hB.size)⟩
          case measure => simp [intOf]
  · have hE : Hid (LargeF pages bs = (0, 0, chkB pages bs)) := Lib.hid (by unfold LargeF; rw [if_neg hc])
    have h1' : (chkB pages bs != 0) = true := by simpa using hc
    clear hc hn
    generalize LargeF pages bs = R at *
    generalize chkB pages bs = ck at *
    go_enter Try.func20, Try.ntmps20
    go_wp2_with (go_at_call 15; refine HC.out.mono ?_; rintro e w1 ⟨rfl, hb1⟩)
    (try simp only [Exit.inBlock, Exit.then]); refine bodyPost_ret (results_tmp3 rfl _ _ _) rfl ?_
    rw [hE.out]
    exact ⟨rfl, hb1⟩
end Go.Proofs.Ytifdgabfnnkghaa
