/- Walks: the reference's free and fit. -/
import Derived.Deep.MidRow
import Derived.Test.YtifdgabfnnkghaaVSpecJ
import Derived.Test.YtifdgabfnnkghaaVWalkU
namespace Go.Pol
open Go Go.RowKit
/-- an array of marks reads as a function -/
structure MarksAre (cs : Array Value) (f : Nat → Bool) : Prop where
  size : cs.size = 1024
  at_ : ∀ k, k < 1024 → cs[k]? = some (.bool (f k))
theorem frB_false {pg : Nat} {m : Nat → Bool} {o a k : Nat} (h1 : a * 2 ^ o ≤ k) (h2 : k < a * 2 ^ o + 2 ^ o) (hm : m k = true) : frB pg m o a = false := by
  cases h : frB pg m o a with
  | false => rfl
  | true =>
    have := (frB_iff.1 h).2 k h1 (by rw [place_end]; exact h2)
    rw [hm] at this; cases this
end Go.Pol
namespace Go.Proofs.Ytifdgabfnnkghaa
open Go Go.Proofs Go.RowKit Go.Pol Go.Shelf Go.Deep

theorem refSize11_any (o : Int) (w : World) (h : 0 ≤ o ∧ o ≤ 11) : Calls Try.prog 22 #[.int .i64 o] w fun e w' => e = .returned (.int .i64 (pw o)) ∧ w' = w := by
  by_cases h10 : o ≤ 10
  · exact refSize_any o w ⟨h.1, h10⟩
  · obtain rfl : o = 11 := by omega
    go_enter Try.func22, Try.ntmps22
    go_wp2_with fail
    go_ret
    exact ⟨rfl, rfl⟩
set_option maxRecDepth 100000 in
set_option maxHeartbeats 1600000 in
theorem refFree_any (cs : Array Value) (m : Nat → Bool) (pg x o a : Nat) (w : World) (hM : MarksAre cs m) (hpg : pg ≤ 1024) (ho : o ≤ 10) (hx : a * 2 ^ o = x) (hx1 : x ≤ 1024) :
    Calls Try.prog 61 #[.agg cs, .int .i64 pg, .int .i64 x, .int .i64 o] w fun e w' => e = .returned (.bool (frB pg m o a)) ∧ Below w.heap.size w w' := by
  obtain ⟨R, hR⟩ : ∃ R, frB pg m o a = R := ⟨_, rfl⟩
  rw [hR]
  have hb0 := (Below.refl w.heap.size w).alloc (Nat.le_refl _) (.cells cs 84)
  have kB := Blk.new w 84 cs
  have HI := Lib.hid (fun W => refIns_any (pg : Int) (x : Int) (o : Int) W ⟨by omega, by omega⟩)
  have HS := Lib.hid (fun W => refSize_any (o : Int) W ⟨by omega, by omega⟩)
  rw [pw_nat] at HS
  have hin : insB (pg : Int) (x : Int) (o : Int) = decide (x + 2 ^ o ≤ pg) := by
    rw [Bool.eq_iff_iff, insB_iff, decide_eq_true_eq, pw_nat]
    constructor
    · rintro ⟨_, _, _, h⟩; omega
    · intro h
      refine ⟨⟨by omega, by omega⟩, by omega, ?_, by omega⟩
      rw [← hx, ← Int.natCast_emod, Nat.mul_mod_left]; rfl
  rw [hin] at HI
  have hfi : Hid (R = true ↔ x + 2 ^ o ≤ pg ∧ ∀ k, x ≤ k → k < x + 2 ^ o → m k = false) := Lib.hid (by rw [← hR, frB_iff, place_end, hx])
  obtain ⟨sz, hsz⟩ : ∃ sz, 2 ^ o = sz := ⟨_, rfl⟩
  rw [hsz] at HS HI hfi
  have hsz1 : sz ≤ 1024 := by rw [← hsz]; exact Nat.le_trans (Nat.pow_le_pow_right (by decide) ho) (by decide)
  have hat := Lib.hid hM.at_
  clear hR hin hx hsz hM
  by_cases hfit : x + sz ≤ pg
  · rw [decide_eq_true hfit] at HI
    go_enter Try.func61, Try.ntmps61
    go_wp2_with (go_at_call 41; refine (HI.out _).mono ?_; rintro e w1 ⟨rfl, hw1⟩; replace hw1 := hw1.symm; subst hw1)
    go_loopw [9] (fun i wr => ∃ p : Nat, x ≤ p ∧ p ≤ x + sz ∧ i = .int .i64 p ∧ Blk wr w.heap.size 84 cs ∧ Below w.heap.size w wr ∧ Hid (∀ k, x ≤ k → k < p → m k = false)) (fun i _ => x + sz - (intOf i).toNat)
    case atStart => exact ⟨x, by omega, by omega, rfl, kB, hb0, Lib.hid (fun k h1 h2 => by omega)⟩
    case round =>
      obtain ⟨p, hp1, hp2, rfl, kW, hB, hH⟩ := hrel
      by_cases hlt : p < x + sz
      · have hlt' : decide ((p : Int) < (x : Int) + (sz : Int)) = true := by simp; omega
        have hlt2 : decide (p < x + sz) = true := by simpa using hlt
        have hcell := (kW.cell p).trans (hat.out p (by omega))
        cases hm : m p with
        | true =>
          rw [hm] at hcell
          have hF : Hid (R = false) := Lib.hid (by
            cases hr : R with
            | false => rfl
            | true =>
              have := (hfi.out.1 hr).2 p hp1 hlt
              rw [hm] at this; cases this)
          clear hm hH
          go_wp2_with (go_at_call 22; refine (HS.out _).mono ?_; rintro e wS ⟨rfl, hwS⟩; replace hwS := hwS.symm; subst hwS)
          go_ret
          exact ⟨ret_bool hF.out.symm, hB⟩
        | false =>
          rw [hm] at hcell
          have hN : Hid (∀ k, x ≤ k → k < p + 1 → m k = false) := Lib.hid (fun k h1 h2 => by
            by_cases e : k = p
            · rw [e]; exact hm
            · exact hH.out k h1 (by omega))
          clear hm hH
          go_wp2_with (go_at_call 22; refine (HS.out _).mono ?_; rintro e wS ⟨rfl, hwS⟩; replace hwS := hwS.symm; subst hwS)
          go_roundw
          case rel => exact ⟨p + 1, by omega, by omega, by go_num, kW, hB, hN⟩
          case measure => simp [intOf]; omega
      · obtain rfl : p = x + sz := by omega
        have hlt' : decide ((((x + sz : Nat) : Int)) < (x : Int) + (sz : Int)) = false := by simp
        have hlt2 : decide ((x : Int) + (sz : Int) < (x : Int) + (sz : Int)) = false := by simp
        have hT : Hid (R = true) := Lib.hid (hfi.out.2 ⟨hfit, hH.out⟩)
        clear hH
        go_wp2_with (go_at_call 22; refine (HS.out _).mono ?_; rintro e wS ⟨rfl, hwS⟩; replace hwS := hwS.symm; subst hwS)
        go_ret
        exact ⟨ret_bool hT.out.symm, hB⟩
  · rw [decide_eq_false hfit] at HI
    have hF : Hid (R = false) := Lib.hid (by
      cases hr : R with
      | false => rfl
      | true => exact absurd (hfi.out.1 hr).1 hfit)
    go_enter Try.func61, Try.ntmps61
    go_wp2_with (go_at_call 41; refine (HI.out _).mono ?_; rintro e w1 ⟨rfl, hw1⟩; replace hw1 := hw1.symm; subst hw1)
    go_ret
    exact ⟨ret_bool hF.out.symm, hb0⟩
theorem needB_take (os : List Nat) (t k : Nat) (h : k < os.length) : needB (os.take (k + 1)) t = needB (os.take k) t + needO (os.getD k 0) t := by
  rw [List.take_add_one, List.getElem?_eq_getElem h]
  have e : os.getD k 0 = os[k] := by rw [List.getD_eq_getElem?_getD, List.getElem?_eq_getElem h]; rfl
  rw [e]
  exact needB_snoc _ _ _
theorem info1024 : (Try.prog.info? 84).map (·.size) = some 1024 := by kernel_rfl
set_option maxRecDepth 100000 in
set_option maxHeartbeats 3200000 in
theorem refFit_any (cs : Array Value) (m : Nat → Bool) (pg P : Nat) (A : Option Addr) (n cap : Nat) (os : List Nat) (w : World) (hM : MarksAre cs m) (hP : P ≤ 10) (hpg : pg = 2 ^ P) (hn : os.length = n) (hn64 : n ≤ 1000) (hos : ∀ o ∈ os, o ≤ P) (hr : RI w w.heap.size A (os.map fun o : Nat => (o : Int))) :
    Calls Try.prog 60 #[.agg cs, .int .i64 pg, .slice A n cap] w fun e w' => e = .returned (.bool (holdsB (frB pg m) os)) ∧ Below w.heap.size w w' := by
  obtain ⟨R, hR⟩ : ∃ R, holdsB (frB pg m) os = R := ⟨_, rfl⟩
  rw [hR]
  have hpg1024 : pg ≤ 1024 := by rw [hpg]; exact Nat.pow_le_pow_right (by decide) hP
  have hRi := Lib.hid (holds_space (m := m) hpg hP hos)
  rw [hR] at hRi
  have hb0 := (Below.refl w.heap.size w).alloc (Nat.le_refl _) (.cells cs 84)
  have kB := Blk.new w 84 cs
  have hlenT : (Try.prog.info? 84).map (·.size) = some cs.toList.length := by rw [Array.length_toList, hM.size]; exact info1024
  have hlenT' := Lib.hid hlenT
  have hM' := Lib.hid hM
  have hn' := Lib.hid hn
  have hos' := Lib.hid hos
  have hpg' := Lib.hid hpg
  have hFr := Lib.hid (fun (a t x : Nat) (W : World) (ht : t ≤ 10) (hx : a * 2 ^ t = x) (hx1 : x ≤ 1024) => refFree_any cs m pg x t a W hM hpg1024 ht hx hx1)
  clear hR hlenT hM hn hos hpg
  go_enter Try.func60, Try.ntmps60
  go_wp2_with fail
  go_loopw [7] (fun i wr => ∃ t : Nat, t ≤ P + 1 ∧ i = .int .i64 t ∧ Blk wr w.heap.size 84 cs ∧ Below w.heap.size w wr ∧ Hid (∀ t', t' < t → needB os t' ≤ cntB (frB pg m t') (pg / 2 ^ t'))) (fun i _ => P + 1 - (intOf i).toNat)
  case atStart => exact ⟨0, by omega, rfl, kB, hb0, Lib.hid (fun t ht => by omega)⟩
  case round =>
    obtain ⟨t, ht, rfl, kW, hB, hH⟩ := hrel
    have hBs := hB.size
    have HS := Lib.hid (fun W => refSize11_any (t : Int) W ⟨by omega, by omega⟩)
    rw [pw_nat] at HS
    by_cases hlt : t ≤ P
    · have hle : 2 ^ t ≤ pg := by rw [hpg'.out]; exact pow_le_iff.2 hlt
      obtain ⟨Q, hQ⟩ : ∃ Q, pg / 2 ^ t = Q := ⟨_, rfl⟩
      have hpq : pg = Q * 2 ^ t := by rw [← hQ]; exact (Nat.div_mul_cancel (by rw [hpg'.out]; exact Nat.pow_dvd_pow 2 hlt)).symm
      have hFt := Lib.hid (fun (a x : Nat) (W : World) (hx : a * 2 ^ t = x) (hx1 : x ≤ 1024) => hFr.out a t x W (by omega) hx hx1)
      obtain ⟨sz, hsz⟩ : ∃ sz, 2 ^ t = sz := ⟨_, rfl⟩
      have hsz0 : 1 ≤ sz := by rw [← hsz]; exact Nat.two_pow_pos t
      rw [hsz] at HS hle hpq
      have hle' : decide ((sz : Int) ≤ (pg : Int)) = true := by simpa using hle
      have hle2 : decide (sz ≤ pg) = true := by simpa using hle
      have hpq' := Lib.hid hpq
      have hQ' := Lib.hid hQ
      have hQ1024 : Q ≤ 1024 := by rw [← hQ]; exact Nat.le_trans (Nat.div_le_self _ _) hpg1024
      have hszt := Lib.hid hsz
      clear hpq hQ hsz
      go_wp2_with (go_at_call 22; refine (HS.out _).mono ?_; rintro e wS ⟨rfl, hwS⟩; replace hwS := hwS.symm; subst hwS)
      go_loopw [8, 10] (fun h i wr2 => ∃ (a x : Nat), a ≤ Q ∧ i = .int .i64 x ∧ Hid (x = a * sz) ∧ h = .int .i64 ((cntB (frB pg m t) a : Nat) : Int) ∧ Blk wr2 w.heap.size 84 cs ∧ Below w.heap.size w wr2) (fun _ i _ => pg + 1 - (intOf i).toNat)
      case atStart => exact ⟨0, 0, by omega, rfl, Lib.hid (by simp), rfl, kW, hB⟩
      case round =>
        clear kW hB hBs
        obtain ⟨a, x, ha, rfl, hx, rfl, kW, hB⟩ := hrel
        have hBs := hB.size
        have hcb := cntB_le (frB pg m t) a
        by_cases hlt2 : a < Q
        · have hxs : x + sz ≤ pg := by
            have := Nat.mul_le_mul_right sz (show a + 1 ≤ Q by omega)
            rw [Nat.succ_mul, ← hx.out, ← hpq'.out] at this
            exact this
          have hlx' : decide ((x : Int) < (pg : Int)) = true := by simp; omega
          have hlx2 : decide (x < pg) = true := by simp; omega
          have HFx := Lib.hid (fun W => hFt.out a x W (by rw [hszt.out]; exact hx.out.symm) (by omega))
          have hcs : Hid (cntB (frB pg m t) (a + 1) = cntB (frB pg m t) a + if frB pg m t a = true then 1 else 0) := Lib.hid rfl
          generalize cntB (frB pg m t) a = c at *
          cases hv : frB pg m t a with
          | true =>
            rw [hv] at HFx
            have hcs2 : Hid (cntB (frB pg m t) (a + 1) = c + 1) := Lib.hid (by rw [hcs.out, if_pos hv])
            clear hv hcs
            go_wp2_with (first
              | (refine wpList_load_mid rfl 84 (.tmp 3) rfl w.heap.size 0 rfl cs.toList _ (rangeAt_blk kW) Try.underlying84 rfl hlenT'.out ?_; rw [Array.toArray_toList])
              | (go_at_call 61; refine (HFx.out _).mono ?_; rintro e w5 ⟨rfl, hb5⟩)
              | (go_at_call 22; refine (HS.out _).mono ?_; rintro e wS ⟨rfl, hwS⟩; replace hwS := hwS.symm; subst hwS))
            go_roundw
            case rel => exact ⟨a + 1, x + sz, by omega, by go_num, Lib.hid (by rw [hx.out, Nat.succ_mul]), by rw [hcs2.out]; go_num, kW.call hb5, hB.trans (hb5.mono hBs)⟩
            case measure => simp [intOf]; omega
          | false =>
            rw [hv] at HFx
            have hcs2 : Hid (cntB (frB pg m t) (a + 1) = c) := Lib.hid (by rw [hcs.out, if_neg (by rw [hv]; simp)]; rfl)
            clear hv hcs
            go_wp2_with (first
              | (refine wpList_load_mid rfl 84 (.tmp 3) rfl w.heap.size 0 rfl cs.toList _ (rangeAt_blk kW) Try.underlying84 rfl hlenT'.out ?_; rw [Array.toArray_toList])
              | (go_at_call 61; refine (HFx.out _).mono ?_; rintro e w5 ⟨rfl, hb5⟩)
              | (go_at_call 22; refine (HS.out _).mono ?_; rintro e wS ⟨rfl, hwS⟩; replace hwS := hwS.symm; subst hwS))
            go_roundw
            case rel => exact ⟨a + 1, x + sz, by omega, by go_num, Lib.hid (by rw [hx.out, Nat.succ_mul]), by rw [hcs2.out], kW.call hb5, hB.trans (hb5.mono hBs)⟩
            case measure => simp [intOf]; omega
        · obtain rfl : a = Q := by omega
          have hxp : x = pg := by rw [hx.out, ← hpq'.out]
          have hlx' : decide ((x : Int) < (pg : Int)) = false := by simp; omega
          have hlx2 : decide (x < pg) = false := by simp; omega
          have hcE : Hid (cntB (frB pg m t) (pg / 2 ^ t) = cntB (frB pg m t) a) := Lib.hid (by rw [hQ'.out])
          generalize cntB (frB pg m t) a = c at *
          clear hxp
          go_wp2_with fail
          go_loopw [9, 11] (fun h i wr2 => ∃ (k nd : Nat), k ≤ n ∧ i = .int .i64 k ∧ h = .int .i64 nd ∧ Hid (nd = needB (os.take k) t) ∧ nd ≤ 1024 * k ∧ Blk wr2 w.heap.size 84 cs ∧ Below w.heap.size w wr2) (fun _ i _ => n - (intOf i).toNat)
          case atStart => exact ⟨0, 0, by omega, rfl, rfl, Lib.hid (by simp [needB]), by omega, kW, hB⟩
          case round =>
            clear kW hB hBs
            obtain ⟨k, nd, hk, rfl, rfl, hnd, hndb, kW, hB⟩ := hrel
            have hBs := hB.size
            by_cases hlk : k < n
            · have hlk' : decide ((k : Int) < (n : Int)) = true := by simpa using hlk
              obtain ⟨b, o, rfl, _, c1⟩ := ((hr.below hB).more hBs).at_ (k := k) (by rw [List.length_map]; have := hn'.out; omega)
              have hge : (os.map fun o : Nat => (o : Int)).getD k 0 = ((os.getD k 0 : Nat) : Int) := by
                simp only [List.getD_eq_getElem?_getD, List.getElem?_map]
                rw [List.getElem?_eq_getElem (by have := hn'.out; omega)]; simp
              rw [hge] at c1
              have hmem : os.getD k 0 ∈ os := by rw [List.getD_eq_getElem?_getD, List.getElem?_eq_getElem (by have := hn'.out; omega)]; simp
              have hodP := hos'.out _ hmem
              have hnx := Lib.hid (needB_take os t k (by have := hn'.out; omega))
              generalize os.getD k 0 = od at *
              clear hge hmem
              by_cases hto : t ≤ od
              · have hto' : decide ((t : Int) ≤ (od : Int)) = true := by simpa using hto
                have hto2 : decide (t ≤ od) = true := by simpa using hto
                have HSd := Lib.hid (fun W => refSize_any ((od : Int) - (t : Int)) W ⟨by omega, by omega⟩)
                rw [show (od : Int) - (t : Int) = ((od - t : Nat) : Int) by omega, pw_nat, show ((od - t : Nat) : Int) = (od : Int) - (t : Int) by omega] at HSd
                have hq1024 : 2 ^ (od - t) ≤ 1024 := Nat.le_trans (Nat.pow_le_pow_right (by decide) (show od - t ≤ 10 by omega)) (by decide)
                have hno : Hid (needO od t = 2 ^ (od - t)) := Lib.hid (by unfold needO; rw [if_pos hto])
                generalize 2 ^ (od - t) = q at *
                have hnN : Hid (nd + q = needB (os.take (k + 1)) t) := Lib.hid (by rw [hnx.out, hno.out, hnd.out])
                clear hnx hno hnd hto
                go_wp2_with (go_at_call 22; refine (HSd.out _).mono ?_; rintro e wS ⟨rfl, hwS⟩; replace hwS := hwS.symm; subst hwS)
                go_roundw
                case rel => exact ⟨k + 1, nd + q, by omega, by go_num, by go_num, hnN, by omega, kW, hB⟩
                case measure => simp [intOf]; omega
              · have hto' : decide ((t : Int) ≤ (od : Int)) = false := by simpa using hto
                have hto2 : decide (t ≤ od) = false := by simpa using hto
                have hnN : Hid (nd = needB (os.take (k + 1)) t) := Lib.hid (by rw [hnx.out, hnd.out]; unfold needO; rw [if_neg hto]; rfl)
                clear hnx hnd hto
                go_wp2_with fail
                go_roundw
                case rel => exact ⟨k + 1, nd, by omega, by go_num, rfl, hnN, by omega, kW, hB⟩
                case measure => simp [intOf]; omega
            · obtain rfl : k = n := by omega
              have hlk' : decide ((k : Int) < (k : Int)) = false := by simp
              have hnE : Hid (needB os t = nd) := Lib.hid (by rw [hnd.out, List.take_of_length_le (by have := hn'.out; omega)])
              by_cases hgt : c < nd
              · have hgt' : decide ((c : Int) < (nd : Int)) = true := by simpa using hgt
                have hgt2 : decide (c < nd) = true := by simpa using hgt
                have hF : Hid (R = false) := Lib.hid (by
                  cases hr : R with
                  | false => rfl
                  | true =>
                    have := hRi.out.1 hr t hlt
                    rw [hnE.out, hcE.out] at this
                    omega)
                clear hgt hH hnd
                go_wp2_with fail
                go_ret
                exact ⟨ret_bool hF.out.symm, hB⟩
              · have hgt' : decide ((c : Int) < (nd : Int)) = false := by simpa using hgt
                have hgt2 : decide (c < nd) = false := by simpa using hgt
                have hN : Hid (∀ t', t' < t + 1 → needB os t' ≤ cntB (frB pg m t') (pg / 2 ^ t')) := Lib.hid (fun t' ht' => by
                  by_cases e : t' = t
                  · rw [e, hnE.out, hcE.out]; omega
                  · exact hH.out t' (by omega))
                clear hgt hH hnd
                go_wp2_with fail
                go_roundw
                case rel => exact ⟨t + 1, by omega, by go_num, kW, hB, hN⟩
                case measure => simp [intOf]; omega
    · obtain rfl : t = P + 1 := by omega
      have hgt : pg < 2 ^ (P + 1) := by rw [hpg'.out, Nat.pow_succ]; have := Nat.two_pow_pos P; omega
      have hT : Hid (R = true) := Lib.hid (hRi.out.2 (fun t ht' => hH.out t (by omega)))
      generalize 2 ^ (P + 1) = sz at *
      have hle' : decide ((sz : Int) ≤ (pg : Int)) = false := by simp; omega
      have hle2 : decide (sz ≤ pg) = false := by simp; omega
      clear hgt hH
      go_wp2_with (go_at_call 22; refine (HS.out _).mono ?_; rintro e wS ⟨rfl, hwS⟩; replace hwS := hwS.symm; subst hwS)
      go_ret
      exact ⟨ret_bool hT.out.symm, hB⟩
end Go.Proofs.Ytifdgabfnnkghaa
