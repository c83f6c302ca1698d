/- Walks: bits.Len; Plan, Largest (the program). -/
import Derived.Lib.BitFns
import Derived.Lib.Strings
import Derived.Lib.Small
import Derived.Lib.Walk
import Derived.Test.YtifdgabfnnkghaaVWalkQ
namespace Go.Pol
theorem tab_size : Lib.len8tab.size = 256 := by decide +kernel
theorem tab_fin : ∀ i : Fin 256, ((Lib.len8tab[i.val]?).map UInt8.toNat).getD 0 = Lib.bitLen i.val := by decide +kernel
theorem tab_get (i : Nat) (h : i < Lib.len8tab.size) : (Lib.len8tab[i]'h).toNat = Lib.bitLen i := by
  have h2 : i < 256 := by rw [← tab_size]; exact h
  have := tab_fin ⟨i, h2⟩
  simpa [getElem?_pos Lib.len8tab i h] using this
theorem bitLen_pow : ∀ P : Nat, P ≤ 10 → Lib.bitLen (2 ^ P) = P + 1 := by decide +kernel
theorem spaceB_pow {pages : Int} (h : spaceB pages = true) : ∃ P : Nat, P ≤ 10 ∧ pages = ((2 ^ P : Nat) : Int) := by
  obtain ⟨o, h1, h2⟩ := spaceB_iff.1 h
  exact ⟨o, h1, by rw [h2, pw_nat]⟩
theorem pow_le_int {o P : Nat} : (((2 ^ o : Nat) : Int) ≤ ((2 ^ P : Nat) : Int)) ↔ o ≤ P := by
  rw [Int.ofNat_le]; exact Nat.pow_le_pow_iff_right (by decide)
end Go.Pol
namespace Go.Proofs.Ytifdgabfnnkghaa
open Go Go.Proofs Go.RowKit Go.Pol Go.Shelf Go.Deep

set_option maxHeartbeats 4000000 in
set_option maxRecDepth 100000 in
theorem len64_any (x : Int) (w : World) (h0 : 0 ≤ x) (h1 : x ≤ 4000) :
    Calls Try.prog 63 #[.int .u64 x] w fun e w' => e = .returned (.int .i64 (Lib.bitLen x.toNat : Nat)) ∧ w = w' := by
  have q1 : decide (4294967296 ≤ x) = false := by simp; omega
  have q2 : decide (65536 ≤ x) = false := by simp; omega
  obtain ⟨L, hL⟩ : ∃ L : Int, ((Lib.bitLen x.toNat : Nat) : Int) = L := ⟨_, rfl⟩
  rw [hL]
  have hL' := Lib.hid hL
  clear hL
  by_cases hx : 256 ≤ x
  · have q3 : decide (256 ≤ x) = true := by simpa using hx
    have hsz : (x / 256).toNat < Lib.len8tab.size := by rw [tab_size]; omega
    have hb := Lib.bitLen_le8' (x / 256) (by omega) (by omega)
    have hs := Lib.hid (Lib.bitLen_shift8 x.toNat (by omega) (by omega))
    have ht := Lib.hid (show (x / 256).toNat = x.toNat / 256 by omega)
    have hg := Lib.hid (tab_get (x / 256).toNat hsz)
    go_enter Try.func63, Try.ntmps63
    go_wp2
    go_ret
    simp only [Array.getD, List.size_toArray, List.length_cons, List.length_nil]
    refine ⟨?_, by first | trivial | rfl⟩
    simp
    rw [hg.out, ← hL'.out, hs.out, ← ht.out]
    simp only [wrap64]
    omega
  · have q3 : decide (256 ≤ x) = false := by simpa using hx
    have hsz : x.toNat < Lib.len8tab.size := by rw [tab_size]; omega
    have hb := Lib.bitLen_le8' x (by omega) (by omega)
    have hg := Lib.hid (tab_get x.toNat hsz)
    go_enter Try.func63, Try.ntmps63
    go_wp2
    go_ret
    refine ⟨?_, by first | trivial | rfl⟩
    simp
    rw [hg.out, ← hL'.out]
    simp only [wrap64]
    omega

theorem len_any (x : Int) (w : World) (h0 : 0 ≤ x) (h1 : x ≤ 4000) :
    Calls Try.prog 46 #[.int .u64 x] w fun e w' => e = .returned (.int .i64 (Lib.bitLen x.toNat : Nat)) ∧ w = w' := by
  have HL := Lib.hid (fun W => len64_any x W h0 h1)
  generalize (Lib.bitLen x.toNat : Nat) = L at *
  go_enter Try.func46, Try.ntmps46
  go_wp2_with (go_at_call 63; refine (HL.out _).mono ?_; rintro e w' ⟨rfl, rfl⟩)
  go_ret
  exact ⟨rfl, rfl⟩


def PlanR (r : List (Int × Int) × Int) (w : World) (e : Ending) (w' : World) : Prop := ∃ (O : Option Addr) (oc : Nat), e = .returned (.tuple #[.slice O r.1.length oc, .int .i64 r.2]) ∧ RU w' w'.heap.size O r.1 ∧ Below w.heap.size w w'
theorem planR_err {w w' : World} {c : Int} (hb : Below w.heap.size w w') : PlanR ([], c) w (.returned (.tuple #[.slice none 0 0, .int .i64 c])) w' := ⟨none, 0, rfl, RU.nil, hb⟩
set_option maxRecDepth 100000 in
set_option maxHeartbeats 1600000 in
theorem Plan_any (pages : Int) (A : Option Addr) (n cap : Nat) (bs : List B3) (o : Int) (w : World) (hn : bs.length = n) (hm : n ≤ maxLen) (hr : RT w w.heap.size A bs) :
    Calls Try.prog 17 #[.int .i64 pages, .slice A n cap, .int .i64 o] w (PlanR (PlanF pages bs o) w) := by
  have HC := Lib.hid (check_any pages A n cap bs w hn hm hr)
  by_cases h1 : chkB pages bs = 0
  · have ok := chkB_ok h1
    obtain ⟨P, hP, hpg⟩ := spaceB_pow ok.space
    rw [h1] at HC
    have hE : Hid (PlanF pages bs o = if isOrd o = true ∧ pw o ≤ pages then if (planB pages.toNat bs o.toNat).2.2 = true then ((planB pages.toNat bs o.toNat).1, 0) else ([], 4) else ([], 2)) := Lib.hid (by unfold PlanF; rw [if_pos h1])
    have hn' := Lib.hid hn
    by_cases q1 : o < 0
    · have q1' : decide (o < 0) = true := by simpa using q1
      have hE2 : Hid (PlanF pages bs o = ([], 2)) := Lib.hid (by rw [hE.out, if_neg (fun h => by have := isOrd_iff.1 h.1; omega)])
      clear hE ok h1 hn hpg
      generalize PlanF pages bs o = R at *
      go_enter Try.func17, Try.ntmps17
      go_wp2_with fail
      refine HC.out.mono ?_
      rintro e w1 ⟨rfl, hb1⟩
      go_wp2_with fail
      go_ret2
      rw [hE2.out]
      exact planR_err hb1
    · have q1' : decide (o < 0) = false := by simpa using q1
      by_cases q2 : 10 < o
      · have q2' : decide (10 < o) = true := by simpa using q2
        have hE2 : Hid (PlanF pages bs o = ([], 2)) := Lib.hid (by rw [hE.out, if_neg (fun h => by have := isOrd_iff.1 h.1; omega)])
        clear hE ok h1 hn hpg
        generalize PlanF pages bs o = R at *
        go_enter Try.func17, Try.ntmps17
        go_wp2_with fail
        refine HC.out.mono ?_
        rintro e w1 ⟨rfl, hb1⟩
        go_wp2_with fail
        go_ret2
        rw [hE2.out]
        exact planR_err hb1
      · have q2' : decide (10 < o) = false := by simpa using q2
        have HS := Lib.hid (fun W => size_any o W ⟨by omega, by omega⟩)
        obtain ⟨od, rfl⟩ := Int.eq_ofNat_of_zero_le (show 0 ≤ o by omega)
        rw [pw_nat] at HS
        have hle : (((2 ^ od : Nat) : Int) ≤ pages) ↔ od ≤ P := by rw [hpg]; exact pow_le_int
        by_cases q3 : od ≤ P
        · have q3' : decide (pages < ((2 ^ od : Nat) : Int)) = false := decide_eq_false (by have := hle.2 q3; omega)
          have hio : isOrd (od : Int) = true := isOrd_iff.2 ⟨by omega, by omega⟩
          have hE2 : Hid (PlanF pages bs od = if (planB pages.toNat bs od).2.2 = true then ((planB pages.toNat bs od).1, 0) else ([], 4)) := Lib.hid (by
            rw [hE.out, if_pos ⟨hio, by rw [pw_nat]; exact hle.2 q3⟩]; rfl)
          obtain ⟨pg, hpgn⟩ : ∃ pg : Nat, pages = (pg : Int) := ⟨2 ^ P, hpg⟩
          subst hpgn
          rw [Int.toNat_natCast] at hE2
          obtain ⟨R2, hR2⟩ : ∃ R2, planB pg bs od = R2 := ⟨_, rfl⟩
          have HP := Lib.hid (fun W (hW : RT W W.heap.size A bs) => plan_any pg P A n cap bs od W hP (by exact_mod_cast hpg) q3 hn hW ok R2 hR2)
          rw [hR2] at hE2
          obtain ⟨ms, least, is⟩ := R2
          simp only at hE2 HP
          generalize ((2 ^ od : Nat) : Int) = sz at *
          generalize PlanF (pg : Int) bs od = R at *
          clear hE ok h1 hn hle hio hpg q3 q1 q2 hR2
          cases is with
          | true =>
            have hRR : Hid (R = (ms, 0)) := Lib.hid (by rw [hE2.out, if_pos rfl])
            clear hE2
            go_enter Try.func17, Try.ntmps17
            go_wp2_with (first
              | (go_at_call 14; refine HC.out.mono ?_; rintro e w1 ⟨rfl, hb1⟩)
              | (go_at_call 29; refine (HS.out _).mono ?_; rintro e wS ⟨rfl, hwS⟩; replace hwS := hwS.symm; subst hwS)
              | (go_at_call 43; refine (HP.out _ (hr.on hb1)).mono ?_; rintro e w2 ⟨O, oc, rfl, hO, hb2⟩))
            go_ret2
            rw [hRR.out]
            exact ⟨O, oc, rfl, hO, hb1.trans (hb2.mono hb1.size)⟩
          | false =>
            have hRR : Hid (R = ([], 4)) := Lib.hid (by rw [hE2.out, if_neg (by simp)])
            clear hE2
            go_enter Try.func17, Try.ntmps17
            go_wp2_with (first
              | (go_at_call 14; refine HC.out.mono ?_; rintro e w1 ⟨rfl, hb1⟩)
              | (go_at_call 29; refine (HS.out _).mono ?_; rintro e wS ⟨rfl, hwS⟩; replace hwS := hwS.symm; subst hwS)
              | (go_at_call 43; refine (HP.out _ (hr.on hb1)).mono ?_; rintro e w2 ⟨O, oc, rfl, hO, hb2⟩))
            go_ret2
            rw [hRR.out]
            exact planR_err (hb1.trans (hb2.mono hb1.size))
        · have q3' : decide (pages < ((2 ^ od : Nat) : Int)) = true := by
            by_cases h : ((2 ^ od : Nat) : Int) ≤ pages
            · exact absurd (hle.1 h) q3
            · simp only [decide_eq_true_eq]; omega
          have hE2 : Hid (PlanF pages bs od = ([], 2)) := Lib.hid (by
            rw [hE.out, if_neg (fun h => by have h2 := h.2; rw [pw_nat] at h2; exact q3 (hle.1 h2))])
          generalize ((2 ^ od : Nat) : Int) = sz at *
          generalize PlanF pages bs od = R at *
          clear hE ok h1 hn hle hpg q3 q1 q2
          go_enter Try.func17, Try.ntmps17
          go_wp2_with (first
            | (go_at_call 14; refine HC.out.mono ?_; rintro e w1 ⟨rfl, hb1⟩)
            | (go_at_call 29; refine (HS.out _).mono ?_; rintro e wS ⟨rfl, hwS⟩; replace hwS := hwS.symm; subst hwS))
          go_ret2
          rw [hE2.out]
          exact planR_err hb1
  · have hE : Hid (PlanF pages bs o = ([], chkB pages bs)) := Lib.hid (by unfold PlanF; rw [if_neg h1])
    have h1' : (chkB pages bs != 0) = true := by simpa using h1
    clear h1 hn
    generalize PlanF pages bs o = R at *
    generalize chkB pages bs = ck at *
    go_enter Try.func17, Try.ntmps17
    go_wp2_with fail
    refine HC.out.mono ?_
    rintro e w1 ⟨rfl, hb1⟩
    go_wp2_with fail
    go_ret2
    rw [hE.out]
    exact planR_err hb1
def LargeR (r : Int × Int × Int) (w : World) (e : Ending) (w' : World) : Prop := e = .returned (.tuple #[.int .i64 r.1, .int .i64 r.2.1, .int .i64 r.2.2]) ∧ Below w.heap.size w w'
set_option maxRecDepth 100000 in
set_option maxHeartbeats 1600000 in
theorem Largest_any (pages : Int) (A : Option Addr) (n cap : Nat) (bs : List B3) (w : World) (hn : bs.length = n) (hm : n ≤ maxLen) (hr : RT w w.heap.size A bs) :
    Calls Try.prog 19 #[.int .i64 pages, .slice A n cap] w (LargeR (LargeF pages bs) w) := by
  have HC := Lib.hid (check_any pages A n cap bs w hn hm hr)
  by_cases h1 : chkB pages bs = 0
  · have ok := chkB_ok h1
    obtain ⟨P, hP, hpg⟩ := spaceB_pow ok.space
    rw [h1] at HC
    obtain ⟨pg, hpgn⟩ : ∃ pg : Nat, pages = (pg : Int) := ⟨2 ^ P, hpg⟩
    subst hpgn
    have hpg2 : pg = 2 ^ P := by exact_mod_cast hpg
    have hpg1024 : pg ≤ 1024 := by rw [hpg2]; exact Nat.pow_le_pow_right (by decide) hP
    have hE : Hid (LargeF pg bs = largeL pg bs (P + 1)) := Lib.hid (by unfold LargeF; rw [if_pos h1, Int.toNat_natCast, hpg2, Nat.log2_two_pow])
    have HL := Lib.hid (fun W => len_any (pg : Int) W (by omega) (by omega))
    rw [Int.toNat_natCast, show Lib.bitLen pg = P + 1 by rw [hpg2]; exact bitLen_pow P hP] at HL
    have HP := Lib.hid (fun (o : Nat) (ho : o ≤ P) W (hW : RT W W.heap.size A bs) => plan_any pg P A n cap bs o W hP hpg2 ho hn hW ok _ rfl)
    have hstep := Lib.hid (fun o => show largeL pg bs (o + 1) = if (planB pg bs o).2.2 = true then ((o : Int), (planB pg bs o).2.1, 0) else largeL pg bs o from rfl)
    have hzero : Hid (largeL pg bs 0 = (0, 0, 4)) := Lib.hid rfl
    generalize LargeF (pg : Int) bs = R at *
    clear h1 ok hpg hpg2 hn
    go_enter Try.func19, Try.ntmps19
    go_wp2_with (first
      | (go_at_call 14; refine HC.out.mono ?_; rintro e w1 ⟨rfl, hb1⟩)
      | (go_at_call 46; refine (HL.out _).mono ?_; rintro e wS ⟨rfl, hwS⟩; subst hwS))
    go_loopw [8] (fun i wr => ∃ (j : Nat) (y : Int), j ≤ P + 1 ∧ i = .int .i64 y ∧ y = (j : Int) - 1 ∧ Hid (R = largeL pg bs j) ∧ Below w.heap.size w wr) (fun i _ => (intOf i + 1).toNat)
    case atStart => exact ⟨P + 1, (P : Int), by omega, rfl, by omega, hE, hb1⟩
    case round =>
      obtain ⟨j, y, hj, rfl, hy, hR, hB⟩ := hrel
      cases j with
      | zero =>
        have hy' : decide (0 ≤ y) = false := by simp; omega
        have hRR : Hid (R = (0, 0, 4)) := Lib.hid (by rw [hR.out, hzero.out])
        clear hR hy
        go_wp2_with fail
        (try simp only [Exit.inBlock, Exit.then]); refine bodyPost_ret (results_tmp3 rfl _ _ _) rfl ?_
        rw [hRR.out]
        exact ⟨rfl, hB⟩
      | succ j =>
        obtain rfl : y = (j : Int) := by omega
        have hy' : decide ((0 : Int) ≤ (j : Int)) = true := by simp
        have hPj := Lib.hid (HP.out j (by omega) wr ((hr.below hB).more hB.size))
        have hst := Lib.hid (show R = if (planB pg bs j).2.2 = true then ((j : Int), (planB pg bs j).2.1, 0) else largeL pg bs j from by rw [hR.out, hstep.out])
        generalize planB pg bs j = R2 at *
        obtain ⟨ms, least, is⟩ := R2
        simp only at hPj hst
        clear hR hy
        cases is with
        | true =>
          have hRR : Hid (R = ((j : Int), least, 0)) := Lib.hid (by rw [hst.out, if_pos rfl])
          clear hst
          go_wp2_with (go_at_call 43; refine hPj.out.mono ?_; rintro e w2 ⟨O, oc, rfl, hO, hb2⟩)
          (try simp only [Exit.inBlock, Exit.then]); refine bodyPost_ret (results_tmp3 rfl _ _ _) rfl ?_
          rw [hRR.out]
          exact ⟨rfl, hB.trans (hb2.mono hB.size)⟩
        | false =>
          have hRR : Hid (R = largeL pg bs j) := Lib.hid (by rw [hst.out, if_neg (by simp)])
          clear hst
          go_wp2_with (go_at_call 43; refine hPj.out.mono ?_; rintro e w2 ⟨O, oc, rfl, hO, hb2⟩)
          go_roundw
          case rel => exact ⟨j, (j : Int) - 1, by omega, rfl, rfl, hRR, hB.trans (hb2.mono hB.size)⟩
          case measure => simp [intOf]
  · have hE : Hid (LargeF pages bs = (0, 0, chkB pages bs)) := Lib.hid (by unfold LargeF; rw [if_neg h1])
    have h1' : (chkB pages bs != 0) = true := by simpa using h1
    clear h1 hn
    generalize LargeF pages bs = R at *
    generalize chkB pages bs = ck at *
    go_enter Try.func19, Try.ntmps19
    go_wp2_with fail
    refine HC.out.mono ?_
    rintro e w1 ⟨rfl, hb1⟩
    go_wp2_with fail
    (try simp only [Exit.inBlock, Exit.then]); refine bodyPost_ret (results_tmp3 rfl _ _ _) rfl ?_
    rw [hE.out]
    exact ⟨rfl, hb1⟩
end Go.Proofs.Ytifdgabfnnkghaa
