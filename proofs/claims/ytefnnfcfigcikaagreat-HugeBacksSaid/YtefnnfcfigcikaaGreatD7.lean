/- Merged texts. Walks of the reference of layer 5: is a call refused; how many are; is a state one. Walks of the reference of layer 5: is a state one; a plan begun; the next call. Walks of the reference of layer 6: is a page one; are pages of a kind; pages put anew. Walks of the reference of layer 6: a call counted, and perhaps refused; changes of pages. Walks of the reference of layer 6: Write, Join, Split, Plan, New. Walks of the reference of layer 6: Plan, New. Walks of law 13's own functions: system. Walks of law 13: the reference's system that is as the program's. Walks of law 13's own functions: great. Openers: what a system is made of (law 13's Made) as it comes in. What huge's Back does, said in plain words. Walks of layer 13 over a system: huge's Join. Plain law for Split of layer 13: the program's groups are the reference's. Plain words for what a system's Save says: the runs of pages of one kind, the huge groups, the pages with bytes. -/
import Derived.Test.YtefnnfcfigcikaaGreatD6
namespace Go.Pol
open Go Go.RowKit
/-- a rule's call, as the reference looks for it -/
theorem rfu_ref {x : Ru} {n : Int} (hf : x.2.1 ≤ n) (he : x.2.2.1 ≠ 0) :
    rfu x n = ((x.2.1 + (n - x.2.1) / x.2.2.1 * x.2.2.1 == n) && (decide (x.2.2.2 = 0) || decide ((n - x.2.1) / x.2.2.1 < x.2.2.2))) := by
  have hm : (x.2.1 + (n - x.2.1) / x.2.2.1 * x.2.2.1 == n) = decide ((n - x.2.1) % x.2.2.1 = 0) := by
    rw [Bool.eq_iff_iff, beq_iff_eq, decide_eq_true_eq]
    have := Int.mul_ediv_add_emod (n - x.2.1) x.2.2.1
    rw [Int.mul_comm] at this
    omega
  unfold rfu
  rw [if_neg he, hm, decide_eq_true hf, Bool.true_and]
end Go.Pol
namespace Go.Proofs.YtefnnfcfigcikaaGreat
open Go Go.Proofs Go.RowKit Go.Pol Go.Shelf
attribute [local go_sem] Oper.semAt_some Go.Pol.wide_fn Go.Pol.wide_depth Go.Pol.wide_fn' Go.Pol.wide_depth'

set_option maxHeartbeats 1600000 in
theorem refuses_any (x : Ru) (k n : Int) (w : World) (hx : ruleE x = 0) (hn : 1 ≤ n ∧ n ≤ 1000000) :
    Calls Tryz.prog 217 #[ruV x, .int .i64 k, .int .i64 n] w fun e w' => e = .returned (.bool (x.1 == k && rfu x n)) ∧ Below w.heap.size w w' := by
  obtain ⟨_, h1, h2, h3, h4⟩ := ruleE_zero.1 hx
  have hrf := fun a b => rfu_ref (x := x) (n := n) a b
  have hlow : n < x.2.1 → rfu x n = false := fun h => by unfold rfu; rw [decide_eq_false (by omega)]; rfl
  have hzero : x.2.1 ≤ n → x.2.2.1 = 0 → rfu x n = (n == x.2.1) := fun h h' => by
    unfold rfu; rw [decide_eq_true h, if_pos h', Bool.true_and]; rw [Bool.eq_iff_iff]; simp
  obtain ⟨xk, f, e, t⟩ := x
  simp only at h1 h2 h3 h4 hrf hlow hzero
  generalize rfu (xk, f, e, t) n = R at *
  have hb0 := (Below.refl w.heap.size w).alloc (Nat.le_refl _) (.cells #[.int .i64 xk, .int .i64 f, .int .i64 e, .int .i64 t] 178)
  have k0 := Blk.new w 178 #[.int .i64 xk, .int .i64 f, .int .i64 e, .int .i64 t]
  have c0 := k0.cell
  by_cases c1 : xk = k
  · subst c1
    have d1 : (xk != xk) = false := by simp
    by_cases c2 : n < f
    · have d2 : decide (n < f) = true := by simpa using c2
      have hE := Lib.hid (hlow c2)
      clear hrf hlow hzero hx h1 h2 h3 h4 c2 k0
      go_enter Tryz.func217, Tryz.ntmps217
      go_wp2_with fail
      go_ret
      exact ⟨z_ret_bool (by simp [hE.out]), hb0⟩
    · have d2 : decide (n < f) = false := by simpa using c2
      by_cases c3 : e = 0
      · subst c3
        have hE := Lib.hid (hzero (by omega) rfl)
        clear hrf hlow hzero hx h1 h2 h3 h4 c2 k0
        go_enter Tryz.func217, Tryz.ntmps217
        go_wp2_with fail
        go_ret
        exact ⟨z_ret_bool (by simp [hE.out]), hb0⟩
      · have d3 : (e == 0) = false := by simpa using c3
        have hE := hrf (by omega) c3
        obtain ⟨q, hq⟩ : ∃ q, (n - f) / e = q := ⟨_, rfl⟩
        have hq0 : 0 ≤ q := by rw [← hq]; exact Int.ediv_nonneg (by omega) (by omega)
        have hqe : q * e ≤ n - f := by rw [← hq]; exact Int.ediv_mul_le _ c3
        have hqe0 : 0 ≤ q * e := Int.mul_nonneg hq0 (by omega)
        have w1 : IntKind.i64.wrap (n - f) = n - f := by rw [IntKind.wrap_i64]; omega
        have w1' : wrap64 (n - f) = n - f := by unfold wrap64; omega
        have tq : Int.tdiv (n - f) e = q := by rw [Int.tdiv_eq_ediv_of_nonneg (by omega)]; exact hq
        have hqn : q ≤ n - f := by
          rw [← hq]
          exact Int.ediv_le_self _ (by omega)
        have w2 : wrap64 q = q := by unfold wrap64; omega
        have w3 : IntKind.i64.wrap (q * e) = q * e := by rw [IntKind.wrap_i64]; omega
        have w3' : wrap64 (q * e) = q * e := by unfold wrap64; omega
        have w4 : IntKind.i64.wrap (f + q * e) = f + q * e := by rw [IntKind.wrap_i64]; omega
        have w4' : wrap64 (f + q * e) = f + q * e := by unfold wrap64; omega
        rw [hq] at hE
        have hE' := Lib.hid hE
        have hne : e ≠ 0 := c3
        have hem1 : ¬ e = -1 := by omega
        clear hrf hlow hzero hx h1 h2 h3 h4 c2 k0 hq hqe hqe0 hqn hq0 hE c3
        by_cases c5 : f + q * e = n
        · have d5 : (f + q * e == n) = true := by simpa using c5
          by_cases c4 : t = 0
          · subst c4
            have hE2 : Hid (true = R) := Lib.hid (by rw [hE'.out, d5]; rfl)
            clear hE' c5
            go_enter Tryz.func217, Tryz.ntmps217
            go_wp2_with fail
            go_ret
            exact ⟨z_ret_bool (by simp [← hE2.out]), hb0⟩
          · have d4 : (t == 0) = false := by simpa using c4
            have hE2 : Hid (decide (q < t) = R) := Lib.hid (by rw [hE'.out, d5, decide_eq_false c4]; rfl)
            clear hE' c5 c4
            go_enter Tryz.func217, Tryz.ntmps217
            go_wp2_with fail
            go_ret
            exact ⟨z_ret_bool (by simp [← hE2.out]), hb0⟩
        · have d5 : (f + q * e == n) = false := by simpa using c5
          have hE2 : Hid (false = R) := Lib.hid (by rw [hE'.out, d5]; rfl)
          clear hE' c5
          go_enter Tryz.func217, Tryz.ntmps217
          go_wp2_with fail
          go_ret
          exact ⟨z_ret_bool (by simp [← hE2.out]), hb0⟩
  · have d1 : (xk != k) = true := by simpa using c1
    have d2 : (xk == k) = false := by simpa using c1
    clear hrf hlow hzero hx h1 h2 h3 h4 k0
    go_enter Tryz.func217, Tryz.ntmps217
    go_wp2_with fail
    go_ret
    exact ⟨z_ret_bool (by simp), hb0⟩
set_option maxRecDepth 100000 in
set_option maxHeartbeats 1600000 in
theorem rrefused_any (A : Option Addr) (n cap : Nat) (l : List Ru) (k nn : Int) (w : World) (hn : l.length = n) (hm : n ≤ 1000) (hok : ∀ x ∈ l, ruleE x = 0) (hnn : 1 ≤ nn ∧ nn ≤ 1000000) (hr : Rd w w.heap.size A (fl ruC l)) :
    Calls Tryz.prog 200 #[.agg #[.slice A n cap], .int .i64 k, .int .i64 nn] w fun e w' => e = .returned (.bool (rfd l k nn)) ∧ Below w.heap.size w w' := by
  have hb0 := (Below.refl w.heap.size w).alloc (Nat.le_refl _) (.cells #[.slice A n cap] 35)
  have k0 := Blk.new w 35 #[.slice A n cap]
  have r0 := hr.on_ hb0
  have HR := Lib.hid (fun (i : Nat) (hi : i < n) W => refuses_any (l.getD i ru0) k nn W (hok _ (z_getD_mem (by omega))) hnn)
  have hst := Lib.hid (fun i h => rfd_step l k nn i h)
  obtain ⟨R, hR⟩ : ∃ R, rfd l k nn = R := ⟨_, rfl⟩
  rw [hR]
  have hR' : Hid (l.any (fun x => x.1 == k && rfu x nn) = R) := Lib.hid hR
  have hn' := Lib.hid hn
  clear hR hr hn hok
  obtain ⟨s, hs⟩ : ∃ s, w.heap.size = s := ⟨_, rfl⟩
  have hs' := Lib.hid hs
  go_enter Tryz.func200, Tryz.ntmps200
  go_upto_region 1 with fail
  generalize w.alloc (.cells #[.slice A n cap] 35) = w0 at *
  rw [hs] at hb0 k0
  try simp only [hs]
  have k0' := Lib.hid k0
  clear k0 hs
  go_wp2_with fail
  go_loopw [7] (fun u wr => ∃ i : Nat, i ≤ n ∧ u = .int .i64 i ∧ Hid ((l.drop i).any (fun x => x.1 == k && rfu x nn) = R) ∧ Below w0.heap.size w0 wr) (fun u _ => n - (intOf u).toNat)
  case atStart => exact ⟨0, by omega, rfl, hR', Below.refl _ _⟩
  case round =>
    clear hR'
    obtain ⟨i, hi, rfl, hR, hB⟩ := hrel
    have kr := k0'.out.call hB
    have cr := kr.cell
    by_cases hlt : i < n
    · have hlt' : decide ((i : Int) < (n : Int)) = true := by simpa using hlt
      have hin : (i : Int) < (n : Int) := by omega
      have hs2 := hst.out i (by have := hn'.out; omega)
      rw [hR.out] at hs2
      have HRi := Lib.hid (HR.out i hlt)
      obtain ⟨b, o, rfl, hb, hc⟩ := (r0.on_ hB).elem ruC_len (by omega) ru0 (k := i) (by have := hn'.out; omega)
      generalize l.getD i ru0 = x at *
      obtain ⟨xk, f, e, t⟩ := x
      have x0 := hc 0 _ rfl
      have x1 := hc 1 _ rfl
      have x2 := hc 2 _ rfl
      have x3 := hc 3 _ rfl
      simp only [Nat.add_zero] at x0
      generalize ((xk, f, e, t).1 == k && rfu (xk, f, e, t) nn) = B at *
      have hs3 := Lib.hid hs2
      clear hc hs2 hR
      cases B with
      | true =>
        go_wp2_with fail
        refine (HRi.out _).mono ?_
        rintro e9 w1 ⟨rfl, hb1⟩
        go_wp2_with fail
        go_ret
        exact ⟨z_ret_bool (by rw [hs3.out]; rfl), by rw [hs'.out]; exact hb0.trans ((hB.trans (hb1.mono hB.size)).mono (by have := hb0.size; have := hs'.out; omega))⟩
      | false =>
        go_wp2_with fail
        refine (HRi.out _).mono ?_
        rintro e9 w1 ⟨rfl, hb1⟩
        go_wp2_with fail
        go_roundw
        case rel => exact ⟨i + 1, by omega, by go_num, Lib.hid (by rw [hs3.out]; rfl), hB.trans (hb1.mono hB.size)⟩
        case measure => simp [intOf]; omega
    · obtain rfl : i = n := by omega
      have hlt' : decide ((i : Int) < (i : Int)) = false := by simp
      have hE := hR.out
      rw [List.drop_of_length_le (by have := hn'.out; omega)] at hE
      have hE' : Hid (false = R) := Lib.hid hE
      clear hE hR
      go_wp2_with fail
      go_ret
      exact ⟨z_ret_bool hE'.out, by rw [hs'.out]; exact hb0.trans (hB.mono (by have := hb0.size; have := hs'.out; omega))⟩
set_option maxRecDepth 100000 in
set_option maxHeartbeats 1600000 in
theorem rhits_any (A : Option Addr) (n cap : Nat) (l : List Ru) (k : Int) (lim : Nat) (w : World) (hn : l.length = n) (hn1 : n ≤ 1000) (hok : ∀ x ∈ l, ruleE x = 0) (hl : lim ≤ 1000000) (hr : Rd w w.heap.size A (fl ruC l)) :
    Calls Tryz.prog 216 #[.agg #[.slice A n cap], .int .i64 k, .int .i64 lim] w fun e w' => e = .returned (.int .i64 (hitN l k lim)) ∧ Below w.heap.size w w' := by
  have hb0 := (Below.refl w.heap.size w).alloc (Nat.le_refl _) (.cells #[.slice A n cap] 35)
  have k0 := Blk.new w 35 #[.slice A n cap]
  have r0 := hr.on_ hb0
  have HR := Lib.hid (fun (i : Nat) (hi : i < lim) W (h : Rd W W.heap.size A (fl ruC l)) => rrefused_any A n cap l k ((i : Int) + 1) W hn hn1 hok ⟨by omega, by omega⟩ h)
  have hst := Lib.hid (fun i => show hitN l k (i + 1) = hitN l k i + if rfd l k ((i : Int) + 1) = true then 1 else 0 from rfl)
  have hbd := Lib.hid (fun i => hitN_bound l k i)
  have h00 : hitN l k 0 = 0 := rfl
  have h00' := Lib.hid h00
  clear hr hn hok h00
  obtain ⟨s, hs⟩ : ∃ s, w.heap.size = s := ⟨_, rfl⟩
  have hs' := Lib.hid hs
  generalize hitN l k = F at *
  go_enter Tryz.func216, Tryz.ntmps216
  go_upto_region 1 with fail
  generalize w.alloc (.cells #[.slice A n cap] 35) = w0 at *
  rw [hs] at hb0 k0
  try simp only [hs]
  have k0' := Lib.hid k0
  clear k0 hs
  go_wp2_with fail
  go_loopw [7, 8] (fun u v wr => ∃ (i : Nat) (c : Int), i ≤ lim ∧ u = .int .i64 c ∧ v = .int .i64 ((i : Int) + 1) ∧ Hid (c = F i) ∧ Below w0.heap.size w0 wr) (fun _ v _ => lim + 1 - (intOf v).toNat)
  case atStart => exact ⟨0, 0, by omega, rfl, rfl, Lib.hid h00'.out.symm, Below.refl _ _⟩
  case round =>
    obtain ⟨i, c, hi, rfl, rfl, hc, hB⟩ := hrel
    have kr := k0'.out.call hB
    have cr := kr.cell
    by_cases hlt : i < lim
    · have hlt' : decide ((i : Int) + 1 ≤ (lim : Int)) = true := by rw [decide_eq_true_eq]; omega
      have HRi := Lib.hid (HR.out i hlt wr (r0.on_ hB))
      have hs2 := hst.out i
      rw [← hc.out] at hs2
      have hcb := hbd.out i
      rw [← hc.out] at hcb
      generalize rfd l k ((i : Int) + 1) = B at *
      have hs3 := Lib.hid hs2
      have hwi : wrap64 ((i : Int) + 1 + 1) = (((i + 1 : Nat) : Int)) + 1 := by unfold wrap64; omega
      clear hs2 hc
      cases B with
      | true =>
        have hwc : wrap64 (c + 1) = c + 1 := by unfold wrap64; omega
        go_wp2_with fail
        refine HRi.out.mono ?_
        rintro e9 w1 ⟨rfl, hb1⟩
        go_wp2_with fail
        go_roundw
        case rel => exact ⟨i + 1, c + 1, by omega, rfl, rfl, Lib.hid (by rw [hs3.out]; rfl), hB.trans (hb1.mono hB.size)⟩
        case measure => simp [intOf]; omega
      | false =>
        go_wp2_with fail
        refine HRi.out.mono ?_
        rintro e9 w1 ⟨rfl, hb1⟩
        go_wp2_with fail
        go_roundw
        case rel => exact ⟨i + 1, c, by omega, rfl, rfl, Lib.hid (by rw [hs3.out]; simp), hB.trans (hb1.mono hB.size)⟩
        case measure => simp [intOf]; omega
    · obtain rfl : i = lim := by omega
      have hlt' : decide ((i : Int) + 1 ≤ (i : Int)) = false := by rw [decide_eq_false_iff_not]; omega
      go_wp2_with fail
      go_ret
      exact ⟨z_ret_int hc.out, by rw [hs'.out]; exact hb0.trans (hB.mono (by have := hb0.size; have := hs'.out; omega))⟩
end Go.Proofs.YtefnnfcfigcikaaGreat
namespace Go.Proofs.YtefnnfcfigcikaaGreat
open Go Go.Proofs Go.RowKit Go.Pol Go.Shelf
attribute [local go_sem] Oper.semAt_some Go.Pol.wide_fn Go.Pol.wide_depth Go.Pol.wide_fn' Go.Pol.wide_depth'

set_option maxRecDepth 100000 in
set_option maxHeartbeats 1600000 in
theorem rcheckState_any (A : Option Addr) (n cap : Nat) (S : Rf) (w : World) (hS : RfOk S) (hn : S.rules.length = n) (hr : Rd w w.heap.size A (fl ruC S.rules)) :
    Calls Tryz.prog 198 #[rfV (.slice A n cap) S.calls S.hits] w fun e w' => e = .returned (.int .i64 0) ∧ Below w.heap.size w w' := by
  obtain ⟨l, cs, hs⟩ := S
  obtain ⟨h1, h2, h3⟩ := hS
  simp only at h1 h2 h3 hn hr
  simp only
  obtain ⟨hlen, hok⟩ := chkR_zero.1 h1
  have hn50 : n ≤ 50 := by omega
  have HC := Lib.hid (fun W h => rplanCheck_any A n cap l W hn h)
  rw [h1] at HC
  generalize (chkR l).1 = ci at *
  have hb0 := (Below.refl w.heap.size w).alloc (Nat.le_refl _) (.cells (rfC (.slice A n cap) cs hs).toArray 79)
  have k0 := Blk.new w 79 (rfC (.slice A n cap) cs hs).toArray
  have r0 := hr.on_ hb0
  obtain ⟨s, hsz⟩ : ∃ s, w.heap.size = s := ⟨_, rfl⟩
  have hh2 := Lib.hid h2
  have hh3 := Lib.hid h3
  have hok' := Lib.hid hok
  have hn' := Lib.hid hn
  clear hr h1 h2 h3 hok hn
  unfold rfV rfC
  unfold rfC at hb0 k0 r0
  go_enter Tryz.func198, Tryz.ntmps198
  go_upto_region 1 with fail
  generalize w.alloc _ = w0 at *
  rw [hsz] at hb0 k0
  try simp only [hsz]
  have hsz' := Lib.hid hsz
  clear hsz
  have c0 := k0.cell
  go_wp2_with fail
  refine (HC.out _ r0).mono ?_
  rintro e w1 ⟨rfl, hb1⟩
  have k1 : Blk w1 s 79 (rfC (.slice A n cap) cs hs).toArray := k0.call hb1
  have r1 := r0.on_ hb1
  have B1 := hb0.trans (hb1.mono (by have := hb0.size; have := hsz'.out; omega))
  clear c0 k0 r0 hb0 hb1 HC
  go_wp2_with fail
  go_loopw [5] (fun u wr => ∃ j : Nat, j ≤ 7 ∧ u = .int .i64 j ∧ wr = w1) (fun u _ => 7 - (intOf u).toNat)
  case atStart => exact ⟨0, by omega, rfl, rfl⟩
  case round =>
    obtain ⟨j, hj, rfl, hw⟩ := hrel
    have hw' := hw.symm
    clear hw
    subst hw'
    by_cases hlt : j < 7
    · have hlt' : decide ((j : Int) < 7) = true := by simp; omega
      have hin : (j : Int) < 7 := by omega
      have hca := hh2.out j hlt
      have hcell := (k1.cell (1 + j)).trans (rfC_calls (.slice A n cap) cs hs hlt)
      have HI := in_any (cs j) 0 1000000 w1
      rw [inB_true.2 hca] at HI
      have HI' := Lib.hid HI
      generalize cs j = m at *
      clear HI hca
      go_wp2_with fail
      refine HI'.out.mono ?_
      rintro e9 w9 ⟨rfl, rfl⟩
      go_wp2_with fail
      go_roundw
      case rel => exact ⟨j + 1, by omega, by go_num, trivial⟩
      case measure => simp [intOf]; omega
    · obtain rfl : j = 7 := by omega
      have hlt' : decide (((7 : Nat) : Int) < 7) = false := by simp
      go_wp2_with fail
      go_loopw [6] (fun u wr => ∃ j : Nat, j ≤ 7 ∧ u = .int .i64 j ∧ Below w1.heap.size w1 wr) (fun u _ => 7 - (intOf u).toNat)
      case atStart => exact ⟨0, by omega, rfl, Below.refl _ _⟩
      case round =>
        clear hlt hj hlt'
        obtain ⟨j, hj, rfl, hB⟩ := hrel
        by_cases hlt : j < 7
        · have hlt' : decide ((j : Int) < 7) = true := by simp; omega
          have hin : (j : Int) < 7 := by omega
          have hca := hh2.out j hlt
          have hhi := hh3.out j hlt
          have kr := k1.call hB
          have hcell := (kr.cell (8 + j)).trans (rfC_hits (.slice A n cap) cs hs hlt)
          rw [hhi] at hcell
          have hcellc := (kr.cell (1 + j)).trans (rfC_calls (.slice A n cap) cs hs hlt)
          obtain ⟨m, hm⟩ : ∃ m : Nat, cs j = (m : Int) := ⟨(cs j).toNat, by omega⟩
          rw [hm] at hcell hca hcellc
          simp only [Int.toNat_natCast] at hcell
          have G := Lib.hid (fun z : Ext wr => Ext.call (x := z) (rhits_any A n cap l (j : Int) m z.w hn'.out (by omega) hok'.out (by omega) ((r1.on_ hB).on_ z.le)))
          generalize hitN l (j : Int) m = H at *
          have d3 : (H != H) = false := by simp
          have z0 := fun z : Ext wr => z.cell (show wr.cell? ⟨s, 0, none⟩ = some (.slice A n cap) from (kr.cell 0).trans rfl)
          have zh := fun z : Ext wr => z.cell hcell
          have zc := fun z : Ext wr => z.cell hcellc
          clear hhi hm hcell hcellc kr
          go_upto_region 12 with fail
          refine region_ext (by kernel_rfl) (by kernel_rfl) ?_
          repeat (go_big_quiet_step ((go_at_call 216; exact G.out _)))
          refine wpQuiet_nil ?_
          rintro w2 ⟨⟨_, hw2⟩, rfl⟩
          clear z0 zh zc
          go_wp2_with fail
          go_roundw
          case rel => exact ⟨j + 1, by omega, by go_num, hB.trans (hw2.mono hB.size)⟩
          case measure => simp [intOf]; omega
        · obtain rfl : j = 7 := by omega
          have hlt' : decide (((7 : Nat) : Int) < 7) = false := by simp
          go_wp2_with fail
          go_ret
          exact ⟨rfl, by rw [hsz'.out]; exact B1.trans (hB.mono (by have := B1.size; have := hsz'.out; omega))⟩
/-- what the reference's Start hands back: the rules are those that came -/
def RStartO (v : Value) (l : List Ru) (w : World) (e : Ending) (w' : World) : Prop :=
  e = .returned (.tuple #[if (chkR l).2 = 0 then rfV v (fun _ => 0) (fun _ => 0) else rfV (.slice none 0 0) (fun _ => 0) (fun _ => 0), .int .i64 (chkR l).2]) ∧ Below w.heap.size w w'
set_option maxRecDepth 100000 in
set_option maxHeartbeats 1600000 in
theorem rstart_any (A : Option Addr) (n cap : Nat) (l : List Ru) (w : World) (hn : l.length = n) (hr : Rd w w.heap.size A (fl ruC l)) :
    Calls Tryz.prog 131 #[.agg #[.slice A n cap]] w (RStartO (.slice A n cap) l w) := by
  have HC := Lib.hid (fun W h => rplanCheck_any A n cap l W hn h)
  have hb0 := (Below.refl w.heap.size w).alloc (Nat.le_refl _) (.cells #[.slice A n cap] 35)
  have k0 := Blk.new w 35 #[.slice A n cap]
  unfold RStartO
  generalize hR : chkR l = R at *
  obtain ⟨ri, re⟩ := R
  simp only at HC ⊢
  clear hR hn
  obtain ⟨s, hs⟩ : ∃ s, w.heap.size = s := ⟨_, rfl⟩
  have hs' := Lib.hid hs
  have hb1 := hb0.alloc (by simp) (.cells (rfC (.slice none 0 0) (fun _ => 0) (fun _ => 0)).toArray 79)
  have k1 := k0.alloc (.cells (rfC (.slice none 0 0) (fun _ => 0) (fun _ => 0)).toArray 79)
  have b1 := Blk.new (w.alloc (.cells #[.slice A n cap] 35)) 79 (rfC (.slice none 0 0) (fun _ => 0) (fun _ => 0)).toArray
  rw [World.size_alloc, hs] at b1
  rw [hs] at k1
  unfold rfC at b1 k1 hb1
  go_enter Tryz.func131, Tryz.ntmps131
  go_upto_region 1 with fail
  generalize (w.alloc (.cells #[.slice A n cap] 35)).alloc _ = w1 at *
  have r1 := hr.on_ hb1
  have c1 := k1.cell
  clear k0 hb0 hr hs
  go_wp2_with fail
  refine (HC.out _ r1).mono ?_
  rintro e w2 ⟨rfl, hb2⟩
  have k2 := k1.call hb2
  have c2 := k2.cell
  have b2 := b1.call hb2
  have B2 := hb1.trans (hb2.mono hb1.size)
  clear r1 c1 k1 b1 hb1 hb2 HC
  by_cases he : re = 0
  · subst he
    go_wp2_with (refine wpList_store_mid rfl 79 (.tmp 2) (.tmp 16) rfl (s + 1) 0 (rfC (.slice A n cap) (fun _ => 0) (fun _ => 0)).toArray rfl rfl (z_there b2 0 15 (by simp)) infoRf (Go.all_oneCell_toArray (rfC_one rfl _ _)) ?_)
    have k4 := Blk.puts (g := s + 1) (t := 79) (w := w2) (cs := #[]) (rfC (.slice A n cap) (fun _ => 0) (fun _ => 0)) 0 w2 _ b2
    rw [putA_all (by rfl)] at k4
    have hF4 := Far.puts (T := fun k => k = s + 1) rfl (rfC (.slice A n cap) (fun _ => 0) (fun _ => 0)) 0 w2 w2 (Far.refl _ _)
    generalize (w2).setCells (s + 1) 0 (rfC (.slice A n cap) (fun _ => 0) (fun _ => 0)) = w4 at *
    have hl4 := run_loadVar_mid (P := Tryz.prog) w4 (s + 1) 0 79 (rfC (.slice A n cap) (fun _ => 0) (fun _ => 0)) _ (fun j v hj => by rw [Nat.zero_add, k4.cell]; simpa using hj) Tryz.underlying79 rfl infoRf
    have hB4 : Below w.heap.size w2 w4 := hF4.below (by have := B2.size; omega) (fun k hk e => by have := hs'.out; omega)
    refine bodyPost_ret (v := .tuple #[rfV (.slice A n cap) (fun _ => 0) (fun _ => 0), .int .i64 0]) ?_ rfl ?_
    · exact z_results_cell_tmp Tryz.results131 rfl hl4
    exact ⟨rfl, B2.trans hB4⟩
  · have he' : (re != 0) = true := by simpa using he
    go_wp2_with (refine wpList_store_mid rfl 79 (.tmp 2) (.tmp 13) rfl (s + 1) 0 (rfC (.slice none 0 0) (fun _ => 0) (fun _ => 0)).toArray rfl rfl (z_there b2 0 15 (by simp)) infoRf (Go.all_oneCell_toArray (rfC_one rfl _ _)) ?_)
    have k4 := Blk.puts (g := s + 1) (t := 79) (w := w2) (cs := #[]) (rfC (.slice none 0 0) (fun _ => 0) (fun _ => 0)) 0 w2 _ b2
    rw [putA_all (by rfl)] at k4
    have hF4 := Far.puts (T := fun k => k = s + 1) rfl (rfC (.slice none 0 0) (fun _ => 0) (fun _ => 0)) 0 w2 w2 (Far.refl _ _)
    generalize (w2).setCells (s + 1) 0 (rfC (.slice none 0 0) (fun _ => 0) (fun _ => 0)) = w4 at *
    have hl4 := run_loadVar_mid (P := Tryz.prog) w4 (s + 1) 0 79 (rfC (.slice none 0 0) (fun _ => 0) (fun _ => 0)) _ (fun j v hj => by rw [Nat.zero_add, k4.cell]; simpa using hj) Tryz.underlying79 rfl infoRf
    have hB4 : Below w.heap.size w2 w4 := hF4.below (by have := B2.size; omega) (fun k hk e => by have := hs'.out; omega)
    refine bodyPost_ret (v := .tuple #[rfV (.slice none 0 0) (fun _ => 0) (fun _ => 0), .int .i64 re]) ?_ rfl ?_
    · exact z_results_cell_tmp Tryz.results131 rfl hl4
    exact ⟨rfl, B2.trans hB4⟩
/-- what the reference's Next hands back -/
def RNextO (v : Value) (S : Rf) (k : Nat) (w : World) (e : Ending) (w' : World) : Prop :=
  (S.calls k = 1000000 ∧ e = .returned (.tuple #[rfV (.slice none 0 0) (fun _ => 0) (fun _ => 0), .bool false, .int .i64 3]) ∧ Below w.heap.size w w') ∨
  (S.calls k ≠ 1000000 ∧ e = .returned (.tuple #[rfV v (nextS S k).calls (nextS S k).hits, .bool (nextB S k), .int .i64 0]) ∧ Below w.heap.size w w')
set_option maxRecDepth 100000 in
set_option maxHeartbeats 1600000 in
theorem rnextR_any (A : Option Addr) (n cap : Nat) (S : Rf) (k : Nat) (w : World) (hS : RfOk S) (hk : k < 7) (hn : S.rules.length = n) (hr : Rd w w.heap.size A (fl ruC S.rules)) :
    Calls Tryz.prog 179 #[rfV (.slice A n cap) S.calls S.hits, .int .i64 k] w (RNextO (.slice A n cap) S k w) := by
  obtain ⟨h1, h2, h3⟩ := hS
  obtain ⟨hlen, hok⟩ := chkR_zero.1 h1
  have hn50 : n ≤ 50 := by omega
  have hck := h2 k hk
  have HC := Lib.hid (fun W h => rcheckState_any A n cap S W ⟨h1, h2, h3⟩ hn h)
  have HI := Lib.hid (fun W => in_any (k : Int) 0 6 W)
  rw [inB_true.2 (by omega)] at HI
  obtain ⟨Q, hQ⟩ : ∃ Q, RNextO (.slice A n cap) S k w = Q := ⟨_, rfl⟩
  rw [hQ]
  have hQ1 := Lib.hid (fun (h : S.calls k = 1000000) w' (hb : Below w.heap.size w w') => show Q (.returned (.tuple #[rfV (.slice none 0 0) (fun _ => 0) (fun _ => 0), .bool false, .int .i64 3])) w' by rw [← hQ]; exact .inl ⟨h, rfl, hb⟩)
  have hQ2 := Lib.hid (fun (h : S.calls k ≠ 1000000) w' (hb : Below w.heap.size w w') => show Q (.returned (.tuple #[rfV (.slice A n cap) (nextS S k).calls (nextS S k).hits, .bool (nextB S k), .int .i64 0])) w' by rw [← hQ]; exact .inr ⟨h, rfl, hb⟩)
  unfold nextS nextB at hQ2
  have HR := Lib.hid (fun (hc : S.calls k ≠ 1000000) W h => rrefused_any A n cap S.rules (k : Int) (S.calls k + 1) W hn (by omega) hok ⟨by omega, by omega⟩ h)
  have hcell := Lib.hid (rfC_calls (.slice A n cap) S.calls S.hits hk)
  have hset := Lib.hid (fun v (x : Int) => rfC_setC v S.calls S.hits hk x)
  have hseth := Lib.hid (fun v cs (x : Int) => rfC_setH v cs S.hits hk x)
  have hhk : 0 ≤ S.hits k ∧ S.hits k ≤ 1000000 := by
    have := hitN_bound S.rules k (S.calls k).toNat
    rw [← h3 k hk] at this
    omega
  obtain ⟨l, cs, hs⟩ := S
  simp only at hcell hset hseth hQ1 hQ2 HR HC hr hn hck hhk
  clear hQ h1 h2 h3 hlen hok hn
  have hb0 := ((Below.refl w.heap.size w).alloc (Nat.le_refl _) (.cells (rfC (.slice A n cap) cs hs).toArray 79)).alloc (by simp) (.cells (rfC (.slice none 0 0) (fun _ => 0) (fun _ => 0)).toArray 79)
  have k0 := (Blk.new w 79 (rfC (.slice A n cap) cs hs).toArray).alloc (.cells (rfC (.slice none 0 0) (fun _ => 0) (fun _ => 0)).toArray 79)
  have b0 := Blk.new (w.alloc (.cells (rfC (.slice A n cap) cs hs).toArray 79)) 79 (rfC (.slice none 0 0) (fun _ => 0) (fun _ => 0)).toArray
  obtain ⟨s, hsz⟩ : ∃ s, w.heap.size = s := ⟨_, rfl⟩
  rw [World.size_alloc, hsz] at b0
  rw [hsz] at k0
  have hwb : ∀ g o, A = some ⟨g, o, none⟩ → l ≠ [] → g < s := fun g o e hne => by
    cases l with
    | nil => exact absurd rfl hne
    | cons x r =>
      obtain ⟨b, o', e', hb, _⟩ := hr 0 (by rw [fl_len ruC_len]; simp)
      rw [e] at e'; cases e'; omega
  unfold rfV rfC at HC ⊢
  simp only at HC ⊢
  unfold rfC at hb0 k0 b0
  have r0 := hr.on_ hb0
  go_enter Tryz.func179, Tryz.ntmps179
  go_upto_region 1 with fail
  generalize (w.alloc _).alloc _ = w0 at *
  rw [hsz] at hb0
  try simp only [hsz]
  have hsz' := Lib.hid hsz
  clear hsz hr
  have c0 := k0.cell
  go_wp2_with fail
  refine (HC.out _ r0).mono ?_
  rintro e w1 ⟨rfl, hb1⟩
  have k1 : Blk w1 s 79 (rfC (.slice A n cap) cs hs).toArray := k0.call hb1
  have b1 := b0.call hb1
  have r1 := r0.on_ hb1
  have B1 := hb0.trans (hb1.mono (by have := hb0.size; have := hsz'.out; omega))
  clear c0 k0 b0 r0 hb0 hb1 HC
  have hin : (k : Int) < 7 := by omega
  have ck := (k1.cell (1 + k)).trans hcell.out
  go_wp2_with fail
  refine (HI.out _).mono ?_
  rintro e9 w9 ⟨rfl, rfl⟩
  by_cases hc : cs k = 1000000
  · have hQ3 := Lib.hid (hQ1.out hc)
    rw [hc] at ck
    clear hQ2 HR hc
    go_upto_region 7 with fail
    go_wp2_with (refine wpList_store_mid rfl 79 (.tmp 4) (.tmp 29) rfl (s + 1) 0 (rfC (.slice none 0 0) (fun _ => 0) (fun _ => 0)).toArray rfl rfl (z_there b1 0 15 (by simp)) infoRf (Go.all_oneCell_toArray (rfC_one rfl _ _)) ?_)
    have k4 := Blk.puts (g := s + 1) (t := 79) (w := w1) (cs := #[]) (rfC (.slice none 0 0) (fun _ => 0) (fun _ => 0)) 0 w1 _ b1
    rw [putA_all (by rfl)] at k4
    have hF4 := Far.puts (T := fun k => k = s + 1) rfl (rfC (.slice none 0 0) (fun _ => 0) (fun _ => 0)) 0 w1 w1 (Far.refl _ _)
    generalize (w1).setCells (s + 1) 0 (rfC (.slice none 0 0) (fun _ => 0) (fun _ => 0)) = w4 at *
    have hl4 := run_loadVar_mid (P := Tryz.prog) w4 (s + 1) 0 79 (rfC (.slice none 0 0) (fun _ => 0) (fun _ => 0)) _ (fun j v hj => by rw [Nat.zero_add, k4.cell]; simpa using hj) Tryz.underlying79 rfl infoRf
    have hB4 : Below w.heap.size w1 w4 := hF4.below (by have := B1.size; have := hsz'.out; omega) (fun k hk e => by have := hsz'.out; omega)
    refine bodyPost_ret (v := .tuple #[rfV (.slice none 0 0) (fun _ => 0) (fun _ => 0), .bool false, .int .i64 3]) ?_ rfl ?_
    · exact z_results_cell_tmp2 Tryz.results179 rfl hl4
    rw [← hsz'.out] at B1
    exact hQ3.out _ (B1.trans hB4)
  · have d3 : (cs k == 1000000) = false := by simpa using hc
    have hQ3 := Lib.hid (hQ2.out hc)
    have HR' := Lib.hid (HR.out hc)
    have hw1 : IntKind.i64.wrap (cs k + 1) = cs k + 1 := by rw [IntKind.wrap_i64]; omega
    have hw2 : IntKind.i64.wrap (hs k + 1) = hs k + 1 := by rw [IntKind.wrap_i64]; omega
    have hup : ∀ (f : Nat → Int) x, upN f k x k = x := fun f x => by simp [upN]
    have hup' := Lib.hid hup
    have f1 := k1.frozen
    clear hQ2 hQ1 HR hup hc
    go_upto_region 9 with fail
    have k4 := k1.set_ (1 + k) (.int .i64 (cs k + 1))
    rw [hset.out] at k4
    have hF4 : Far (fun k => k = s) w1 (w1.setCell ⟨s, 1 + k, none⟩ (.int .i64 (cs k + 1))) := Far.setCell (T := fun k => k = s) (p := ⟨s, 1 + k, none⟩) (Far.refl _ _) (fun _ => rfl) _
    generalize w1.setCell ⟨s, 1 + k, none⟩ (.int .i64 (cs k + 1)) = w4 at *
    have c4 := (k4.cell (1 + k)).trans (rfC_calls (.slice A n cap) (upN cs k (cs k + 1)) hs hk)
    rw [hup'.out] at c4
    have c40 : w4.cell? ⟨s, 0, none⟩ = some (.slice A n cap) := (k4.cell 0).trans rfl
    have r4 : Rd w4 w4.heap.size A (fl ruC l) := (r1.keepR hF4 (fun b o e hne => by have := hwb b o e hne; show ¬ b = s; omega)).more hF4.size
    have z0 := fun z : Ext w4 => z.cell c40
    have z1 := fun z : Ext w4 => z.cell c4
    have G := Lib.hid (fun z : Ext w4 => Ext.call (x := z) (HR'.out z.w (r4.on_ z.le)))
    have b4 := hF4.blk b1 (by show ¬ s + 1 = s; omega)
    generalize rfd l (k : Int) (cs k + 1) = bb at *
    clear c4 c40 HR' k1 b1 r1 r4 f1 ck
    refine region_ext (by kernel_rfl) (by kernel_rfl) ?_
    repeat (go_big_quiet_step ((go_at_call 200; exact G.out _)))
    refine wpQuiet_nil ?_
    rintro w5 ⟨⟨_, hw5⟩, rfl⟩
    have k5 := k4.call hw5
    have b5 := b4.call hw5
    have hF5 : Far (fun k => k = s) w1 w5 := hF4.trans (.of_below hw5)
    clear z0 z1 G k4 b4 hw5 hF4
    cases bb with
    | true =>
      simp only [if_true] at hQ3
      have c5 := (k5.cell (8 + k)).trans (rfC_hits (.slice A n cap) (upN cs k (cs k + 1)) hs hk)
      have f5 := k5.frozen
      go_upto_region 12 with fail
      have k6 := k5.set_ (8 + k) (.int .i64 (hs k + 1))
      rw [hseth.out] at k6
      have b6 := b5.far (p := ⟨s, 8 + k, none⟩) (by show s + 1 ≠ s; omega) (.int .i64 (hs k + 1))
      have hF6 : Far (fun k => k = s) w1 (w5.setCell ⟨s, 8 + k, none⟩ (.int .i64 (hs k + 1))) := hF5.setCell (p := ⟨s, 8 + k, none⟩) (fun _ => rfl) _
      generalize w5.setCell ⟨s, 8 + k, none⟩ (.int .i64 (hs k + 1)) = w6 at *
      clear c5 f5 k5 b5 hF5
      generalize upN hs k (hs k + 1) = hs2 at *
      generalize upN cs k (cs k + 1) = cs2 at *
      have hrng : World.rangeAt w6 s 0 (rfC (.slice A n cap) cs2 hs2) := fun j v hj => by rw [Nat.zero_add, (k6).cell]; simpa using hj
      go_wp2_with (first
        | (refine wpList_load_mid rfl 79 (.tmp 2) rfl s 0 rfl (rfC (.slice A n cap) cs2 hs2) _ hrng Tryz.underlying79 rfl infoRf ?_)
        | (refine wpList_store_mid rfl 79 (.tmp 4) (.tmp 54) rfl (s + 1) 0 (rfC (.slice A n cap) cs2 hs2).toArray rfl rfl (z_there b6 0 15 (by simp)) infoRf (Go.all_oneCell_toArray (rfC_one rfl _ _)) ?_))
      have k7 := Blk.puts (g := s + 1) (t := 79) (w := w6) (cs := #[]) (rfC (.slice A n cap) cs2 hs2) 0 w6 _ b6
      rw [putA_all (by rfl)] at k7
      have hF7 := Far.puts (T := fun k => k = s ∨ k = s + 1) (.inr rfl) (rfC (.slice A n cap) cs2 hs2) 0 w1 w6 ((hF6).mono (fun _ _ h => .inl h))
      generalize (w6).setCells (s + 1) 0 (rfC (.slice A n cap) cs2 hs2) = w7 at *
      have hl7 := run_loadVar_mid (P := Tryz.prog) w7 (s + 1) 0 79 (rfC (.slice A n cap) cs2 hs2) _ (fun j v hj => by rw [Nat.zero_add, k7.cell]; simpa using hj) Tryz.underlying79 rfl infoRf
      have hB7 : Below w.heap.size w1 w7 := hF7.below (by have := B1.size; have := hsz'.out; omega) (fun k hk e => by have := hsz'.out; omega)
      rw [← hsz'.out] at B1
      refine bodyPost_ret (v := .tuple #[rfV (.slice A n cap) cs2 hs2, .bool true, .int .i64 0]) ?_ rfl ?_
      · exact z_results_cell_tmp2 Tryz.results179 rfl hl7
      exact hQ3.out _ (B1.trans hB7)
    | false =>
      simp only [Bool.false_eq_true, if_false] at hQ3
      generalize upN cs k (cs k + 1) = cs2 at *
      have hrng : World.rangeAt w5 s 0 (rfC (.slice A n cap) cs2 hs) := fun j v hj => by rw [Nat.zero_add, (k5).cell]; simpa using hj
      go_wp2_with (first
        | (refine wpList_load_mid rfl 79 (.tmp 2) rfl s 0 rfl (rfC (.slice A n cap) cs2 hs) _ hrng Tryz.underlying79 rfl infoRf ?_)
        | (refine wpList_store_mid rfl 79 (.tmp 4) (.tmp 54) rfl (s + 1) 0 (rfC (.slice A n cap) cs2 hs).toArray rfl rfl (z_there b5 0 15 (by simp)) infoRf (Go.all_oneCell_toArray (rfC_one rfl _ _)) ?_))
      have k7 := Blk.puts (g := s + 1) (t := 79) (w := w5) (cs := #[]) (rfC (.slice A n cap) cs2 hs) 0 w5 _ b5
      rw [putA_all (by rfl)] at k7
      have hF7 := Far.puts (T := fun k => k = s ∨ k = s + 1) (.inr rfl) (rfC (.slice A n cap) cs2 hs) 0 w1 w5 ((hF5).mono (fun _ _ h => .inl h))
      generalize (w5).setCells (s + 1) 0 (rfC (.slice A n cap) cs2 hs) = w7 at *
      have hl7 := run_loadVar_mid (P := Tryz.prog) w7 (s + 1) 0 79 (rfC (.slice A n cap) cs2 hs) _ (fun j v hj => by rw [Nat.zero_add, k7.cell]; simpa using hj) Tryz.underlying79 rfl infoRf
      have hB7 : Below w.heap.size w1 w7 := hF7.below (by have := B1.size; have := hsz'.out; omega) (fun k hk e => by have := hsz'.out; omega)
      rw [← hsz'.out] at B1
      refine bodyPost_ret (v := .tuple #[rfV (.slice A n cap) cs2 hs, .bool false, .int .i64 0]) ?_ rfl ?_
      · exact z_results_cell_tmp2 Tryz.results179 rfl hl7
      exact hQ3.out _ (B1.trans hB7)
end Go.Proofs.YtefnnfcfigcikaaGreat
namespace Go.Pol
open Go Go.RowKit
def pageB (p : Int) : Bool := decide (0 ≤ p) && decide (p < 1024)
theorem pageB_true {p : Int} : pageB p = true ↔ 0 ≤ p ∧ p < 1024 := by simp [pageB]
theorem pageB_false {p : Int} : pageB p = false ↔ ¬ (0 ≤ p ∧ p < 1024) := by rw [← pageB_true]; simp
end Go.Pol
namespace Go.Proofs.YtefnnfcfigcikaaGreat
open Go Go.Proofs Go.RowKit Go.Pol Go.Shelf
attribute [local go_sem] Oper.semAt_some Go.Pol.wide_fn Go.Pol.wide_depth Go.Pol.wide_fn' Go.Pol.wide_depth'

theorem wpList_value {P : Program} {ops : Array Oper} {rest : List Oper} {op : Oper} {a : Act} {w : World} {Q : Exit → Act → World → Prop} {v : Value} (d : Nat) (hgd : op.guard = none) (hd : op.dst = some d)
    (hr : (execOp a.eval op).run P w = .ok (.value v) w) (h : wpList P ops Q rest (a.put (some d) v) w) : wpList P ops Q (op :: rest) a w :=
  wpList_plain hgd fun K hK => by
    unfold Oper.wp
    rw [hr]
    show K (a.put op.dst v) w
    rw [hd]
    exact hK _ _ h
theorem page_any (p : Int) (w : World) : Calls Tryz.prog 134 #[.int .i64 p] w fun e w' => e = .returned (.bool (pageB p)) ∧ w = w' := by
  by_cases h1 : 0 ≤ p
  · have d1 : decide (0 ≤ p) = true := by simpa using h1
    have hE : pageB p = decide (p < 1024) := by simp [pageB, h1]
    rw [hE]
    clear hE h1
    go_enter Tryz.func134, Tryz.ntmps134
    go_wp2_with fail
    go_ret
    exact ⟨rfl, rfl⟩
  · have d1 : decide (0 ≤ p) = false := by simpa using h1
    have hE : pageB p = false := by simp [pageB, h1]
    rw [hE]
    clear hE h1
    go_enter Tryz.func134, Tryz.ntmps134
    go_wp2_with fail
    go_ret
    exact ⟨rfl, rfl⟩
set_option maxRecDepth 100000 in
set_option maxHeartbeats 1600000 in
theorem kinds_any (B b a n : Nat) (kd : Int) (V : Vm) (w : World) (hV : RefIs w B b V) (hn : a + n ≤ 1024) :
    Calls Tryz.prog 135 #[.pointer (some ⟨b, 0, none⟩), .int .i64 a, .int .i64 n, .int .i64 kd] w fun e w' => e = .returned (.bool (allP V a n (fun g => g.kind == kd))) ∧ w = w' := by
  obtain ⟨R, hR⟩ : ∃ R, allP V a n (fun g => g.kind == kd) = R := ⟨_, rfl⟩
  rw [hR]
  have hR' := Lib.hid hR
  obtain ⟨cs, A, m, cap, hk, hc, _⟩ := hV.ex
  have hkd := Lib.hid (fun p h => (hk.cell p).trans (hc.kind p h))
  clear hR hk hc hV
  have hwn : wrap64 ((a : Int) + (n : Int)) = ((a + n : Nat) : Int) := by unfold wrap64; omega
  go_enter Tryz.func135, Tryz.ntmps135
  go_wp2_with fail
  go_loopw [9] (fun u wr => ∃ i : Nat, i ≤ n ∧ u = .int .i64 ((a + i : Nat) : Int) ∧ Hid (∀ q, a ≤ q → q < a + i → ((V.pg q).kind == kd) = true) ∧ wr = w) (fun u _ => a + n - (intOf u).toNat)
  case atStart => exact ⟨0, by omega, rfl, Lib.hid (fun _ _ _ => by omega), rfl⟩
  case round =>
    obtain ⟨i, hi, rfl, hA, hw⟩ := hrel
    have hw' := hw.symm
    clear hw
    subst hw'
    by_cases hlt : i < n
    · obtain ⟨p, hp⟩ : ∃ p, a + i = p := ⟨_, rfl⟩
      have hlt' : decide ((p : Int) < (a : Int) + (n : Int)) = true := by rw [decide_eq_true_eq]; omega
      have hpl : (p : Int) < 1024 := by omega
      have hcell := hkd.out p (by omega)
      have hws : wrap64 ((p : Int) + 1) = ((p + 1 : Nat) : Int) := by unfold wrap64; omega
      rw [hp]
      have hp' := Lib.hid hp
      clear hp
      by_cases hv : (V.pg p).kind = kd
      · have hv' : ((V.pg p).kind != kd) = false := by simpa using hv
        have hA2 : Hid (∀ q, a ≤ q → q < a + (i + 1) → ((V.pg q).kind == kd) = true) := Lib.hid (fun q h1 h2 => by
          by_cases e : q = p
          · subst e; simpa using hv
          · exact hA.out q h1 (by have := hp'.out; omega))
        clear hA hv
        go_wp2_with fail
        go_roundw
        case rel => exact ⟨i + 1, by omega, by rw [show ((p : Int) + 1) = ((a + (i + 1) : Nat) : Int) by have := hp'.out; omega], hA2, trivial⟩
        case measure => have := hp'.out; simp [intOf]; omega
      · have hv' : ((V.pg p).kind != kd) = true := by simpa using hv
        have hRf : Hid (false = R) := Lib.hid (by
          rw [← hR'.out]
          symm
          rw [Bool.eq_false_iff]
          intro h
          have := allP_iff.1 h p (by have := hp'.out; omega) (by have := hp'.out; omega)
          exact hv (by simpa using this))
        clear hA hv
        go_wp2_with fail
        go_ret
        exact ⟨z_ret_bool hRf.out, rfl⟩
    · obtain rfl : i = n := by omega
      have hlt' : decide (((a + i : Nat) : Int) < (a : Int) + (i : Int)) = false := by simp
      have hRt : Hid (true = R) := Lib.hid (by rw [← hR'.out]; exact (allP_iff.2 hA.out).symm)
      clear hA
      go_wp2_with fail
      go_ret
      exact ⟨z_ret_bool hRt.out, rfl⟩
set_option maxRecDepth 100000 in
set_option maxHeartbeats 1600000 in
theorem set_any (B b a n : Nat) (kd : Int) (V : Vm) (w : World) (hV : RefIs w B b V) (hn : a + n ≤ 1024) (hh : ∀ q, a ≤ q → q < a + n → (V.pg q).huge = false) :
    Calls Tryz.prog 178 #[.pointer (some ⟨b, 0, none⟩), .int .i64 a, .int .i64 n, .int .i64 kd] w fun e w' => e = .returned (.tuple #[]) ∧ RefIs w' B b (V.eachP a n (fun _ => newPg kd)) ∧ Far (fun k => k = b) w w' := by
  have hV' := Lib.hid hV
  have hh' := Lib.hid hh
  have hwn : wrap64 ((a : Int) + (n : Int)) = ((a + n : Nat) : Int) := by unfold wrap64; omega
  clear hV hh
  go_enter Tryz.func178, Tryz.ntmps178
  go_wp2_with fail
  go_loopw [8] (fun u wr => ∃ i : Nat, i ≤ n ∧ u = .int .i64 ((a + i : Nat) : Int) ∧ Hid (RefIs wr B b (V.eachP a i (fun _ => newPg kd))) ∧ Far (fun k => k = b) w wr) (fun u _ => a + n - (intOf u).toNat)
  case atStart => exact ⟨0, by omega, rfl, Lib.hid (by rw [Vm.eachP_zero]; exact hV'.out), Far.refl _ _⟩
  case round =>
    obtain ⟨i, hi, rfl, hR, hF⟩ := hrel
    by_cases hlt : i < n
    · obtain ⟨p, hp⟩ : ∃ p, a + i = p := ⟨_, rfl⟩
      have hlt' : decide ((p : Int) < (a : Int) + (n : Int)) = true := by rw [decide_eq_true_eq]; omega
      have hpl : (p : Int) < 1024 := by omega
      have hws : wrap64 ((p : Int) + 1) = ((p + 1 : Nat) : Int) := by unfold wrap64; omega
      have hput := Lib.hid (hR.out.put (p := p) (by omega) (by
        show (if a ≤ p ∧ p < a + i then newPg kd else V.pg p).huge = false
        rw [if_neg (by omega)]; exact hh'.out p (by omega) (by omega)) kd)
      have hes : Hid (V.eachP a (i + 1) (fun _ => newPg kd) = (V.eachP a i (fun _ => newPg kd)).setP p (newPg kd)) := Lib.hid (by rw [Vm.eachP_succ, hp])
      rw [hp]
      have hp' := Lib.hid hp
      clear hp
      obtain ⟨cs, A, m, cap, hk, hc, _⟩ := hR.out.ex
      have hcell := (hk.cell p).trans (hc.kind p (by omega))
      have hfr := hk.frozen
      have hcs := hc.size
      have k2 := hk.set_ p (.int .i64 kd)
      obtain ⟨Z, hZ⟩ : ∃ Z, (List.replicate 64 (Value.int .u8 0)).toArray = Z := ⟨_, rfl⟩
      have hZl : List.replicate 64 (Value.int .u8 0) = Z.toList := by rw [← hZ]
      have hZs : Z.size = 64 := by rw [← hZ]; simp
      rw [hZl] at hput
      have ht : (wr.setCell ⟨b, p, none⟩ (.int .i64 kd)).there b (1088 + p * 64) Z.size := z_there k2 (1088 + p * 64) Z.size (by rw [Array.size_setIfInBounds]; omega)
      have hinf : (Tryz.prog.info? 109).map (·.size) = some Z.size := by rw [hZs]; exact infoKinds
      have hone : Z.all (·.oneCell') = true := by rw [← hZ]; exact Go.all_oneCell_toArray (fun x hx => by rw [List.eq_of_mem_replicate hx]; rfl)
      have hZ' := Lib.hid hZ
      clear hR hk hc k2 hZl hZs hZ
      go_upto_region 4 with fail
      generalize wr.setCell ⟨b, p, none⟩ _ = w2 at *
      go_wp2_with (first
        | (refine wpList_value (v := .agg Z) 25 rfl rfl ?hbb ?_)
        | (refine wpList_store_mid rfl 109 (.tmp 28) (.tmp 25) rfl b (1088 + p * 64) Z rfl rfl ht hinf hone ?_))
      case hbb =>
        rw [← hZ'.out]
        rfl
      generalize w2.setCells b (1088 + p * 64) _ = w3 at *
      go_roundw
      case rel => exact ⟨i + 1, by omega, by rw [show ((p : Int) + 1) = ((a + (i + 1) : Nat) : Int) by have := hp'.out; omega], Lib.hid (by rw [hes.out]; exact hput.out.1), hF.trans hput.out.2⟩
      case measure => have := hp'.out; simp [intOf]; omega
    · obtain rfl : i = n := by omega
      have hlt' : decide (((a + i : Nat) : Int) < (a : Int) + (i : Int)) = false := by simp
      go_wp2_with fail
      go_end0
      exact ⟨rfl, hR.out, hF⟩
end Go.Proofs.YtefnnfcfigcikaaGreat
namespace Go.Pol
open Go Go.RowKit
/-- the reference's system afterwards, and nothing else of what was -/
def RefTo (B b : Nat) (V : Vm) (w w' : World) : Prop := RefIs w' B b V ∧ Far (fun k => k = b) w w'
end Go.Pol
namespace Go.Proofs.YtefnnfcfigcikaaGreat
open Go Go.Proofs Go.RowKit Go.Pol Go.Shelf
attribute [local go_sem] Oper.semAt_some Go.Pol.wide_fn Go.Pol.wide_depth Go.Pol.wide_fn' Go.Pol.wide_depth'

set_option maxHeartbeats 1600000 in
theorem refRefused_any (B b k : Nat) (V : Vm) (w : World) (hV : RefIs w B b V) (hk : k < 7) :
    Calls Tryz.prog 136 #[.pointer (some ⟨b, 0, none⟩), .int .i64 k] w fun e w' => e = .returned (.bool (refB V.rf k)) ∧ RefTo B b (V.ref k) w w' := by
  have hV' := Lib.hid hV
  obtain ⟨cs, A, n, cap, hk0, hc, hn, hr, hB, hok⟩ := hV.ex
  have hbl := hk0.lt
  have HN := Lib.hid (rnextR_any A n cap V.rf k w hok hk hn.1 (hr.more (by omega)))
  have hrng : w.rangeAt b 66624 (rfC (.slice A n cap) V.rf.calls V.rf.hits) := fun j v hj => by
    have hj15 : j < 15 := (List.getElem?_eq_some_iff.1 hj).1
    rw [hk0.cell, hc.rf j hj15]; exact hj
  have hok' := Lib.hid hok
  have hr' := Lib.hid hr
  have hn' := Lib.hid hn
  have hrl := Lib.hid (show refB V.rf k = if V.rf.calls k = 1000000 then false else nextB V.rf k from rfl)
  have hrs := Lib.hid (show V.ref k = { V with rf := if V.rf.calls k = 1000000 then V.rf else nextS V.rf k } from rfl)
  unfold RNextO at HN
  generalize refB V.rf k = R at *
  generalize V.ref k = V2 at *
  clear hc hr hn hok hV
  go_enter Tryz.func136, Tryz.ntmps136
  go_wp2_with (first
    | (refine wpList_load_mid rfl 79 (.tmp 11) rfl b 66624 rfl (rfC (.slice A n cap) V.rf.calls V.rf.hits) _ hrng Tryz.underlying79 rfl infoRf ?_))
  clear hrng
  refine HN.out.mono ?_
  rintro e w1 hN
  rcases hN with ⟨hc, rfl, hb1⟩ | ⟨hc, rfl, hb1⟩
  · rw [if_pos hc] at hrl hrs
    have hV1 := hV'.out.call hb1
    have hE := Lib.hid (And.intro hrl.out hrs.out)
    clear hrl hrs hc HN hk0 hok'
    unfold rfV rfC
    go_wp2_with fail
    go_ret
    obtain ⟨e1, e2⟩ := hE.out
    rw [e1, e2]
    have hbz := (Below.refl w1.heap.size w1).alloc (Nat.le_refl _) (.cells (rfC (.slice none 0 0) (fun _ => 0) (fun _ => 0)).toArray 79)
    unfold rfC at hbz
    exact ⟨rfl, hV1.call hbz, .of_below (hb1.trans (hbz.mono hb1.size))⟩
  · rw [if_neg hc] at hrl hrs
    have hS2 : RfOk (nextS V.rf k) := nextS_ok hok'.out hk hc
    have hbz := (Below.refl w1.heap.size w1).alloc (Nat.le_refl _) (.cells (rfC (.slice A n cap) (nextS V.rf k).calls (nextS V.rf k).hits).toArray 79)
    have hb2 := hb1.trans (hbz.mono hb1.size)
    have hput := hV'.out.putRf (nextS V.rf k) A n cap hb2 hn'.out.1 hn'.out.2 (hr'.out.keepB (T := fun _ => False) (Far.of_below hb2) (fun _ h => h.elim)) hS2
    have k9 := hk0.call hb2
    have hcs9 : cs.size = 66639 := by
      obtain ⟨cs9, _, _, _, k8, h8, _⟩ := hV'.out.ex
      have e : cs9 = cs := by unfold Blk at k8 hk0; rw [k8] at hk0; injection hk0 with h; injection h with h
      rw [← e]; exact h8.size
    have hE := Lib.hid (And.intro hrl.out hrs.out)
    have kz := Blk.new w1 79 (rfC (.slice A n cap) (nextS V.rf k).calls (nextS V.rf k).hits).toArray
    clear hrl hrs hc HN hk0 hok' hS2 hb2 hb1 hr' hn'
    generalize (nextS V.rf k).calls = cs2 at *
    generalize (nextS V.rf k).hits = hs2 at *
    have hput' := Lib.hid hput
    clear hput
    rw [← hE.out.1]
    rw [← hE.out.2] at hput'
    clear hE hV'
    unfold rfC at hbz k9 hput' kz
    unfold rfV rfC
    obtain ⟨s, hs⟩ : ∃ s, w1.heap.size = s := ⟨_, rfl⟩
    rw [hs] at kz
    go_upto_region 2 with fail
    generalize w1.alloc _ = w2 at *
    clear hs hbz
    have cz := kz.cell
    have ht : w2.there b 66624 (rfC (.slice A n cap) cs2 hs2).toArray.size := z_there k9 66624 15 (by omega)
    have hone := Go.all_oneCell_toArray (rfC_one (v := .slice A n cap) rfl cs2 hs2)
    clear hcs9 k9 kz
    have hput2 : Hid (RefIs (w2.setCells b 66624 (rfC (.slice A n cap) cs2 hs2)) B b V2 ∧ Far (fun k => k = b) w (w2.setCells b 66624 (rfC (.slice A n cap) cs2 hs2))) := hput'
    clear hput'
    go_wp2_with (refine wpList_store_mid rfl 79 (.tmp 23) (.tmp 21) rfl b 66624 (rfC (.slice A n cap) cs2 hs2).toArray ?hxx ?hyy ht infoRf hone ?_)
    case hxx => rfl
    case hyy => rfl
    generalize w2.setCells b 66624 _ = w4 at *
    go_ret
    exact ⟨rfl, hput2.out.1, hput2.out.2⟩
set_option maxRecDepth 100000 in
set_option maxHeartbeats 1600000 in
theorem change_any (B b : Nat) (a n fr tk : Int) (call : Nat) (V : Vm) (w : World) (hV : RefIs w B b V) (hk : call < 7) :
    Calls Tryz.prog 132 #[.pointer (some ⟨b, 0, none⟩), .int .i64 a, .int .i64 n, .int .i64 fr, .int .i64 tk, .int .i64 call] w fun e w' => e = .returned (.int .i64 (bec V a n call fr tk).1) ∧ RefTo B b (bec V a n call fr tk).2 w w' := by
  have hV' := Lib.hid hV
  obtain ⟨R, hR⟩ : ∃ R, bec V a n call fr tk = R := ⟨_, rfl⟩
  rw [hR]
  unfold bec makeF at hR
  have HP := Lib.hid (fun W => page_any a W)
  by_cases c1 : n < 1
  · have d1 : decide (n < 1) = true := by simpa using c1
    rw [if_pos (.inl c1)] at hR
    subst hR
    clear HP hV
    go_enter Tryz.func132, Tryz.ntmps132
    go_wp2_with fail
    go_ret
    exact ⟨rfl, hV'.out, Far.refl _ _⟩
  have d1 : decide (n < 1) = false := by simpa using c1
  by_cases c2 : 0 ≤ a ∧ a < 1024
  · rw [pageB_true.2 c2] at HP
    have w1 : IntKind.i64.wrap (1024 - a) = 1024 - a := by rw [IntKind.wrap_i64]; omega
    by_cases c3 : 1024 - a < n
    · have d3 : decide (1024 - a < n) = true := by simpa using c3
      rw [if_pos (by omega)] at hR
      subst hR
      clear hV
      go_enter Tryz.func132, Tryz.ntmps132
      go_wp2_with fail
      refine (HP.out _).mono ?_
      rintro e9 w9 ⟨rfl, rfl⟩
      go_wp2_with fail
      go_ret
      exact ⟨rfl, hV'.out, Far.refl _ _⟩
    · have d3 : decide (1024 - a < n) = false := by simpa using c3
      rw [if_neg (by omega)] at hR
      obtain ⟨aa, rfl⟩ : ∃ aa : Nat, a = (aa : Int) := ⟨a.toNat, by omega⟩
      obtain ⟨nn, rfl⟩ : ∃ nn : Nat, n = (nn : Int) := ⟨n.toNat, by omega⟩
      simp only [Int.toNat_natCast] at hR
      have hsum : aa + nn ≤ 1024 := by omega
      have HK := Lib.hid (kinds_any B b aa nn fr V w hV hsum)
      have HRf := Lib.hid (refRefused_any B b call V w hV hk)
      have HSt := Lib.hid (fun (hh : ∀ q, aa ≤ q → q < aa + nn → (V.pg q).huge = false) W (h : RefIs W B b (V.ref call)) => set_any B b aa nn tk (V.ref call) W h hsum hh)
      obtain ⟨cs, A, m, cap, hkb, hc, _⟩ := hV.ex
      have hhg := Lib.hid (fun p (h : p < 1024) => (hkb.cell (1024 + p / 16)).trans (hc.huge p h))
      clear hkb hc hV
      cases hkd : allP V aa nn (fun g => g.kind == fr) with
      | false =>
        rw [hkd] at HK
        have hf : allP V aa nn (fun g => g.kind == fr && !g.huge) = false := by
          rw [Bool.eq_false_iff]
          intro h
          rw [Bool.eq_false_iff] at hkd
          exact hkd (allP_iff.2 fun q h1 h2 => by have := allP_iff.1 h q h1 h2; rw [Bool.and_eq_true] at this; exact this.1)
        rw [if_pos hf] at hR
        subst hR
        clear HRf HSt hhg hf hkd c3
        go_enter Tryz.func132, Tryz.ntmps132
        go_wp2_with fail
        refine (HP.out _).mono ?_
        rintro e9 w9 ⟨rfl, rfl⟩
        go_wp2_with fail
        refine HK.out.mono ?_
        rintro e9 w9 ⟨rfl, rfl⟩
        go_wp2_with fail
        go_ret
        exact ⟨rfl, hV'.out, Far.refl _ _⟩
      | true =>
        rw [hkd] at HK
        have hkd' := Lib.hid hkd
        have hR' := Lib.hid hR
        clear hkd hR c3
        go_enter Tryz.func132, Tryz.ntmps132
        go_wp2_with fail
        refine (HP.out _).mono ?_
        rintro e9 w9 ⟨rfl, rfl⟩
        go_wp2_with fail
        refine HK.out.mono ?_
        rintro e9 w9 ⟨rfl, rfl⟩
        go_wp2_with fail
        go_loopw [13] (fun u wr => ∃ i : Nat, i ≤ nn ∧ u = .int .i64 ((aa + i : Nat) : Int) ∧ Hid (∀ q, aa ≤ q → q < aa + i → (V.pg q).huge = false) ∧ wr = w) (fun u _ => aa + nn - (intOf u).toNat)
        case atStart => exact ⟨0, by omega, rfl, Lib.hid (fun _ _ _ => by omega), rfl⟩
        case round =>
          obtain ⟨i, hi, rfl, hA, hw⟩ := hrel
          have hw' := hw.symm
          clear hw
          subst hw'
          by_cases hlt : i < nn
          · obtain ⟨p, hp⟩ : ∃ p, aa + i = p := ⟨_, rfl⟩
            have hlt' : decide ((p : Int) < (aa : Int) + (nn : Int)) = true := by rw [decide_eq_true_eq]; omega
            have hpl : (p : Int) < 1024 := by omega
            have hdv : Int.tdiv (p : Int) 16 = ((p / 16 : Nat) : Int) := by rw [Int.tdiv_eq_ediv_of_nonneg (by omega)]; omega
            have hdl : ((p / 16 : Nat) : Int) < 64 := by omega
            have hcell := hhg.out p (by omega)
            rw [hp]
            have hp' := Lib.hid hp
            clear hp
            cases hv : (V.pg p).huge with
            | false =>
              rw [hv] at hcell
              have hA2 : Hid (∀ q, aa ≤ q → q < aa + (i + 1) → (V.pg q).huge = false) := Lib.hid (fun q h1 h2 => by
                by_cases e : q = p
                · subst e; exact hv
                · exact hA.out q h1 (by have := hp'.out; omega))
              clear hA hv
              go_wp2_with fail
              go_roundw
              case rel => exact ⟨i + 1, by omega, by rw [show ((p : Int) + 1) = ((aa + (i + 1) : Nat) : Int) by have := hp'.out; omega], hA2, trivial⟩
              case measure => have := hp'.out; simp [intOf]; omega
            | true =>
              rw [hv] at hcell
              have hRf : Hid ((9, V) = R) := Lib.hid (by
                have hr := hR'.out
                rw [if_pos (by
                  rw [Bool.eq_false_iff]
                  intro h
                  have := allP_iff.1 h p (by have := hp'.out; omega) (by have := hp'.out; omega)
                  rw [hv] at this; simp at this)] at hr
                exact hr)
              clear hA hv
              go_wp2_with fail
              go_ret
              rw [← hRf.out]
              exact ⟨rfl, hV'.out, Far.refl _ _⟩
          · obtain rfl : i = nn := by omega
            have hlt' : decide (((aa + i : Nat) : Int) < (aa : Int) + (i : Int)) = false := by simp
            have hR2 : Hid ((if refB V.rf call = true then (60, V.ref call) else (0, (V.ref call).eachP aa i (fun _ => newPg tk))) = R) := Lib.hid (by
              have hr := hR'.out
              rw [if_neg (by
                rw [Bool.not_eq_false]
                exact allP_iff.2 fun q h1 h2 => by
                  rw [hA.out q h1 h2, allP_iff.1 hkd'.out q h1 h2]; rfl)] at hr
              exact hr)
            have HS2 := Lib.hid (HSt.out hA.out)
            generalize refB V.rf call = rb at *
            generalize V.ref call = V2 at *
            clear hA HSt hR' hkd'
            go_wp2_with fail
            refine HRf.out.mono ?_
            rintro e1 w1 ⟨rfl, V1, F1⟩
            cases rb with
            | true =>
              have hR3 := hR2.out
              rw [if_pos rfl] at hR3
              subst hR3
              clear HS2 hR2
              go_wp2_with fail
              go_ret
              exact ⟨rfl, V1, F1⟩
            | false =>
              have hR3 := hR2.out
              rw [if_neg (by decide)] at hR3
              subst hR3
              clear hR2
              go_wp2_with fail
              refine (HS2.out _ V1).mono ?_
              rintro e2 w2 ⟨rfl, V3, F3⟩
              go_wp2_with fail
              go_ret
              exact ⟨rfl, V3, F1.trans F3⟩
  · rw [pageB_false.2 c2] at HP
    rw [if_pos (by omega)] at hR
    subst hR
    clear hV
    go_enter Tryz.func132, Tryz.ntmps132
    go_wp2_with fail
    refine (HP.out _).mono ?_
    rintro e9 w9 ⟨rfl, rfl⟩
    go_wp2_with fail
    go_ret
    exact ⟨rfl, hV'.out, Far.refl _ _⟩
theorem reserve6_any (B b : Nat) (a n : Int) (V : Vm) (w : World) (hV : RefIs w B b V) :
    Calls Tryz.prog 79 #[.pointer (some ⟨b, 0, none⟩), .int .i64 a, .int .i64 n] w fun e w' => e = .returned (.int .i64 (bec V a n 0 0 1).1) ∧ RefTo B b (bec V a n 0 0 1).2 w w' := by
  have HC := Lib.hid (change_any B b a n 0 1 0 V w hV (by decide))
  clear hV
  generalize bec V a n 0 0 1 = R at *
  go_enter Tryz.func79, Tryz.ntmps79
  go_wp2_with fail
  refine HC.out.mono ?_
  rintro e w1 ⟨rfl, h1, h2⟩
  go_wp2_with fail
  go_ret
  exact ⟨rfl, h1, h2⟩
theorem commit6_any (B b : Nat) (a n : Int) (V : Vm) (w : World) (hV : RefIs w B b V) :
    Calls Tryz.prog 80 #[.pointer (some ⟨b, 0, none⟩), .int .i64 a, .int .i64 n] w fun e w' => e = .returned (.int .i64 (bec V a n 2 1 2).1) ∧ RefTo B b (bec V a n 2 1 2).2 w w' := by
  have HC := Lib.hid (change_any B b a n 1 2 2 V w hV (by decide))
  clear hV
  generalize bec V a n 2 1 2 = R at *
  go_enter Tryz.func80, Tryz.ntmps80
  go_wp2_with fail
  refine HC.out.mono ?_
  rintro e w1 ⟨rfl, h1, h2⟩
  go_wp2_with fail
  go_ret
  exact ⟨rfl, h1, h2⟩
theorem decommit6_any (B b : Nat) (a n : Int) (V : Vm) (w : World) (hV : RefIs w B b V) :
    Calls Tryz.prog 94 #[.pointer (some ⟨b, 0, none⟩), .int .i64 a, .int .i64 n] w fun e w' => e = .returned (.int .i64 (bec V a n 3 2 1).1) ∧ RefTo B b (bec V a n 3 2 1).2 w w' := by
  have HC := Lib.hid (change_any B b a n 2 1 3 V w hV (by decide))
  clear hV
  generalize bec V a n 3 2 1 = R at *
  go_enter Tryz.func94, Tryz.ntmps94
  go_wp2_with fail
  refine HC.out.mono ?_
  rintro e w1 ⟨rfl, h1, h2⟩
  go_wp2_with fail
  go_ret
  exact ⟨rfl, h1, h2⟩
end Go.Proofs.YtefnnfcfigcikaaGreat
namespace Go.Pol
open Go Go.RowKit
/-- pages of huge groups are committed; pages that are not have no bytes; kinds are kinds -/
structure GoodV (V : Vm) : Prop where
  kinds : KindOk V
  hug : ∀ p, p < 1024 → (V.pg p).huge = true → (V.pg p).kind = 2
  byt : ∀ p, p < 1024 → (V.pg p).kind ≠ 2 → ∀ k, (V.pg p).byt k = 0
theorem GoodV.of_pg {V U : Vm} (h : GoodV V) (e : U.pg = V.pg) : GoodV U := ⟨fun p hp => by rw [e]; exact h.kinds p hp, fun p hp => by rw [e]; exact h.hug p hp, fun p hp => by rw [e]; exact h.byt p hp⟩
theorem GoodV.eachP {V : Vm} (h : GoodV V) (a n : Nat) (f : Pg → Pg) (hk : ∀ p, p < 1024 → a ≤ p → p < a + n → 0 ≤ (f (V.pg p)).kind ∧ (f (V.pg p)).kind ≤ 3 ∧ ((f (V.pg p)).huge = true → (f (V.pg p)).kind = 2) ∧ ((f (V.pg p)).kind ≠ 2 → ∀ k, (f (V.pg p)).byt k = 0)) : GoodV (V.eachP a n f) := by
  have e : ∀ p, (V.eachP a n f).pg p = if a ≤ p ∧ p < a + n then f (V.pg p) else V.pg p := fun p => rfl
  refine ⟨fun p hp => ?_, fun p hp => ?_, fun p hp => ?_⟩
  · rw [e]
    split
    · rename_i h1; exact ⟨(hk p hp h1.1 h1.2).1, (hk p hp h1.1 h1.2).2.1⟩
    · exact h.kinds p hp
  · rw [e]
    split
    · rename_i h1; exact (hk p hp h1.1 h1.2).2.2.1
    · exact h.hug p hp
  · rw [e]
    split
    · rename_i h1; exact (hk p hp h1.1 h1.2).2.2.2
    · exact h.byt p hp
theorem GoodV.make {V : Vm} (h : GoodV V) (a n : Int) (call : Nat) (pr : Pg → Bool) (f : Pg → Pg) (hf : ∀ p, p < 1024 → pr (V.pg p) = true → 0 ≤ (f (V.pg p)).kind ∧ (f (V.pg p)).kind ≤ 3 ∧ ((f (V.pg p)).huge = true → (f (V.pg p)).kind = 2) ∧ ((f (V.pg p)).kind ≠ 2 → ∀ k, (f (V.pg p)).byt k = 0)) :
    GoodV (makeF V a n call pr f).2 := by
  unfold makeF
  split
  · exact h
  · split
    · exact h
    · rename_i hp
      rw [Bool.not_eq_false] at hp
      split
      · exact h.of_pg rfl
      · exact (h.of_pg (U := V.ref call) rfl).eachP _ _ _ (fun p hp2 h1 h2 => hf p hp2 (allP_iff.1 hp p h1 h2))
theorem GoodV.bec {V : Vm} (h : GoodV V) (a n : Int) (call : Nat) (fr tk : Int) (ht : 0 ≤ tk ∧ tk ≤ 3) : GoodV (bec V a n call fr tk).2 :=
  h.make a n call _ _ (fun p _ _ => ⟨ht.1, ht.2, fun h => (by cases h), fun _ _ => rfl⟩)
theorem GoodV.join {V : Vm} (h : GoodV V) (p : Int) : GoodV (Go.Pol.joinF V p).2 := by
  unfold Go.Pol.joinF
  split
  · exact h
  · split
    · exact h
    · refine h.make _ _ _ _ _ (fun q hq hk => ?_)
      have h2 : (V.pg q).kind = 2 := by simpa using hk
      have hg : ((V.pg q).hugeP true).kind = 2 := h2
      rw [hg]
      exact ⟨by omega, by omega, fun _ => rfl, fun h => absurd rfl h⟩
theorem GoodV.split {V : Vm} (h : GoodV V) (p : Int) : GoodV (splitF V p).2 := by
  unfold splitF
  split
  · exact h
  · refine h.make _ _ _ _ _ (fun q hq hk => ?_)
    have hb := h.kinds q hq
    exact ⟨hb.1, hb.2, fun h => (by cases h), h.byt q hq⟩
theorem GoodV.write {V : Vm} (h : GoodV V) (a v : Int) : GoodV (writeF V a v) := by
  unfold writeF
  by_cases c : whF V a = 0
  · rw [if_pos c]
    have hk : (V.pg (a / 64).toNat).kind = 2 := by
      unfold whF at c
      split at c
      · omega
      · split at c
        · omega
        · rename_i h; simpa using h
    have e : ∀ q, (V.setP (a / 64).toNat ((V.pg (a / 64).toNat).byteP (a % 64).toNat v)).pg q = if q = (a / 64).toNat then (V.pg (a / 64).toNat).byteP (a % 64).toNat v else V.pg q := fun q => rfl
    have e2 : ((V.pg (a / 64).toNat).byteP (a % 64).toNat v).kind = 2 := hk
    refine ⟨fun q hq => ?_, fun q hq => ?_, fun q hq => ?_⟩
    · rw [e]
      split
      · rw [e2]; omega
      · exact h.kinds q hq
    · rw [e]
      split
      · intro _; exact e2
      · exact h.hug q hq
    · rw [e]
      split
      · intro hc; exact absurd e2 hc
      · exact h.byt q hq
  · rw [if_neg c]; exact h
theorem GoodV.new : GoodV newVm := ⟨fun p _ => by show (0 : Int) ≤ 0 ∧ (0 : Int) ≤ 3; omega, fun p _ h => (by cases h), fun p _ _ k => rfl⟩
theorem GoodV.plan {V : Vm} (h : GoodV V) (l : List Ru) : GoodV (planF V l) := by
  unfold planF
  split
  · exact h.of_pg rfl
  · exact h
end Go.Pol
namespace Go.Proofs.YtefnnfcfigcikaaGreat
open Go Go.Proofs Go.RowKit Go.Pol Go.Shelf
attribute [local go_sem] Oper.semAt_some Go.Pol.wide_fn Go.Pol.wide_depth Go.Pol.wide_fn' Go.Pol.wide_depth'

set_option maxRecDepth 100000 in
set_option maxHeartbeats 1600000 in
theorem where6_any (B b : Nat) (a : Int) (V : Vm) (w : World) (hV : RefIs w B b V) :
    Calls Tryz.prog 133 #[.pointer (some ⟨b, 0, none⟩), .int .i64 a] w fun e w' => e = .returned (.tuple #[.int .i64 (if whF V a = 0 then a / 64 else 0), .int .i64 (if whF V a = 0 then a % 64 else 0), .int .i64 (whF V a)]) ∧ w = w' := by
  obtain ⟨R, hR⟩ : ∃ R, whF V a = R := ⟨_, rfl⟩
  rw [hR]
  unfold whF at hR
  by_cases c1 : a < 0
  · have d1 : decide (a < 0) = true := by simpa using c1
    rw [if_pos (.inl c1)] at hR
    subst hR
    simp only [show ¬ (7 : Int) = 0 by omega, if_false]
    go_enter Tryz.func133, Tryz.ntmps133
    go_wp2_with fail
    (try simp only [Exit.inBlock, Exit.then]); refine bodyPost_ret (results_tmp3 rfl _ _ _) rfl ?_
    exact ⟨rfl, rfl⟩
  have d1 : decide (a < 0) = false := by simpa using c1
  by_cases c2 : 65536 ≤ a
  · have d2 : decide (65536 ≤ a) = true := by simpa using c2
    rw [if_pos (.inr c2)] at hR
    subst hR
    simp only [show ¬ (7 : Int) = 0 by omega, if_false]
    go_enter Tryz.func133, Tryz.ntmps133
    go_wp2_with fail
    (try simp only [Exit.inBlock, Exit.then]); refine bodyPost_ret (results_tmp3 rfl _ _ _) rfl ?_
    exact ⟨rfl, rfl⟩
  have d2 : decide (65536 ≤ a) = false := by simpa using c2
  rw [if_neg (by omega)] at hR
  obtain ⟨q, k, hqa, hq, hk⟩ : ∃ q k : Nat, a = ((q * 64 + k : Nat) : Int) ∧ q < 1024 ∧ k < 64 := ⟨(a / 64).toNat, (a % 64).toNat, by omega, by omega, by omega⟩
  have e1 : a / 64 = (q : Int) := by omega
  have e2 : a % 64 = (k : Int) := by omega
  rw [e1, Int.toNat_natCast] at hR
  rw [e1, e2]
  have hdv : Int.tdiv a 64 = (q : Int) := by rw [Int.tdiv_eq_ediv_of_nonneg (by omega)]; exact e1
  have hmd : Int.tmod a 64 = (k : Int) := by rw [Int.tmod_eq_emod_of_nonneg (by omega)]; exact e2
  have hql : (q : Int) < 1024 := by omega
  have hwq : wrap64 (q : Int) = (q : Int) := by unfold wrap64; omega
  obtain ⟨cs, A, n, cap, hkb, hc, _⟩ := hV.ex
  have c0 := (hkb.cell q).trans (hc.kind q hq)
  clear hkb hc hV e1 e2 hqa c1 c2
  by_cases hkd : (V.pg q).kind = 2
  · rw [if_neg (by simp [hkd])] at hR
    subst hR
    have dk : ((V.pg q).kind != 2) = false := by simpa using hkd
    simp only [if_true]
    clear hkd
    go_enter Tryz.func133, Tryz.ntmps133
    go_wp2_with fail
    (try simp only [Exit.inBlock, Exit.then]); refine bodyPost_ret (results_tmp3 rfl _ _ _) rfl ?_
    exact ⟨rfl, rfl⟩
  · rw [if_pos hkd] at hR
    subst hR
    have dk : ((V.pg q).kind != 2) = true := by simpa using hkd
    simp only [show ¬ (61 : Int) = 0 by omega, if_false]
    clear hkd
    go_enter Tryz.func133, Tryz.ntmps133
    go_wp2_with fail
    (try simp only [Exit.inBlock, Exit.then]); refine bodyPost_ret (results_tmp3 rfl _ _ _) rfl ?_
    exact ⟨rfl, rfl⟩
set_option maxRecDepth 100000 in
set_option maxHeartbeats 1600000 in
theorem write6_any (B b : Nat) (a v : Int) (V : Vm) (w : World) (hV : RefIs w B b V) :
    Calls Tryz.prog 81 #[.pointer (some ⟨b, 0, none⟩), .int .i64 a, .int .u8 v] w fun e w' => e = .returned (.int .i64 (whF V a)) ∧ RefTo B b (writeF V a v) w w' := by
  have HW := Lib.hid (where6_any B b a V w hV)
  have hV' := Lib.hid hV
  unfold RefTo
  obtain ⟨P, hP⟩ : ∃ P, writeF V a v = P := ⟨_, rfl⟩
  rw [hP]
  unfold writeF at hP
  obtain ⟨R, hR⟩ : ∃ R, whF V a = R := ⟨_, rfl⟩
  rw [hR] at hP HW ⊢
  by_cases c0 : R = 0
  · subst c0
    rw [if_pos rfl] at hP
    simp only [if_true] at HW
    have ha : ¬ (a < 0 ∨ 65536 ≤ a) := fun hc => by unfold whF at hR; rw [if_pos hc] at hR; omega
    obtain ⟨q, hq1⟩ : ∃ q : Nat, a / 64 = (q : Int) := ⟨(a / 64).toNat, by omega⟩
    obtain ⟨k, hk1⟩ : ∃ k : Nat, a % 64 = (k : Int) := ⟨(a % 64).toNat, by omega⟩
    rw [hq1, hk1] at hP HW
    simp only [Int.toNat_natCast] at hP
    have hq : q < 1024 := by omega
    have hk : k < 64 := by omega
    have hq2 : (q : Int) < 1024 := by omega
    have hk2 : (k : Int) < 64 := by omega
    have hset := hV.putByte hq hk v
    rw [hP] at hset
    have hset' := Lib.hid hset
    obtain ⟨cs, A, n, cap, hkb, hc, _⟩ := hV.ex
    have e1 := (hkb.cell (1088 + q * 64 + k)).trans (hc.byt q hq k hk)
    have f1 := hkb.frozen
    clear hkb hc hV hP hset hR ha hq1 hk1
    go_enter Tryz.func81, Tryz.ntmps81
    go_wp2_with fail
    refine HW.out.mono ?_
    rintro e9 w9 ⟨rfl, rfl⟩
    go_wp2_with fail
    go_ret
    exact ⟨rfl, hset'.out.1, hset'.out.2⟩
  · rw [if_neg c0] at hP
    simp only [if_neg c0] at HW
    subst hP
    have d0 : (R == 0) = false := by simpa using c0
    clear hR hV
    go_enter Tryz.func81, Tryz.ntmps81
    go_wp2_with fail
    refine HW.out.mono ?_
    rintro e9 w9 ⟨rfl, rfl⟩
    go_wp2_with fail
    go_ret
    exact ⟨rfl, hV'.out, Far.refl _ _⟩
theorem fst_mod {q : Nat} (h : fstB (q : Int) = false) (hq : q < 1024) : (Int.tmod (q : Int) 16 != 0) = true := by
  unfold fstB at h
  rw [bne_iff_ne, Int.tmod_eq_emod_of_nonneg (by omega)]
  simp at h
  omega
theorem fst_mod1 {q : Nat} (h : fstB (q : Int) = true) : (Int.tmod (q : Int) 16 != 0) = false ∧ q < 1024 ∧ ∃ g, q = g * 16 ∧ g < 64 := by
  unfold fstB at h
  simp at h
  refine ⟨?_, by omega, q / 16, by omega, by omega⟩
  rw [Bool.eq_false_iff]
  intro hc
  rw [bne_iff_ne, Int.tmod_eq_emod_of_nonneg (by omega)] at hc
  omega
set_option maxRecDepth 100000 in
set_option maxHeartbeats 1600000 in
theorem join6_any (B b : Nat) (p : Int) (V : Vm) (w : World) (hV : RefIs w B b V) (hG : GoodV V) :
    Calls Tryz.prog 82 #[.pointer (some ⟨b, 0, none⟩), .int .i64 p] w fun e w' => e = .returned (.int .i64 (Go.Pol.joinF V p).1) ∧ RefTo B b (Go.Pol.joinF V p).2 w w' := by
  have hV' := Lib.hid hV
  have HP := Lib.hid (fun W => page_any p W)
  obtain ⟨R, hR⟩ : ∃ R, Go.Pol.joinF V p = R := ⟨_, rfl⟩
  rw [hR]
  unfold Go.Pol.joinF at hR
  by_cases c2 : 0 ≤ p ∧ p < 1024
  · rw [pageB_true.2 c2] at HP
    obtain ⟨q, rfl⟩ : ∃ q : Nat, p = (q : Int) := ⟨p.toNat, by omega⟩
    simp only [Int.toNat_natCast] at hR
    have hq : q < 1024 := by omega
    cases hf : fstB (q : Int) with
    | false =>
      rw [if_pos hf] at hR
      subst hR
      have d2 := fst_mod hf hq
      obtain ⟨rm, hrm⟩ : ∃ rm, Int.tmod (q : Int) 16 = rm := ⟨_, rfl⟩
      rw [hrm] at d2
      clear hf hV
      go_enter Tryz.func82, Tryz.ntmps82
      go_wp2_with fail
      refine (HP.out _).mono ?_
      rintro e9 w9 ⟨rfl, rfl⟩
      go_wp2_with fail
      go_ret
      exact ⟨rfl, hV'.out, Far.refl _ _⟩
    | true =>
      rw [if_neg (by simp [hf])] at hR
      obtain ⟨d2, _, g, hqg, hg⟩ := fst_mod1 hf
      obtain ⟨rm, hrm⟩ : ∃ rm, Int.tmod (q : Int) 16 = rm := ⟨_, rfl⟩
      rw [hrm] at d2
      have hdv : Int.tdiv (q : Int) 16 = (g : Int) := by rw [Int.tdiv_eq_ediv_of_nonneg (by omega)]; omega
      have hwg : wrap64 (g : Int) = (g : Int) := by unfold wrap64; omega
      have hgl : (g : Int) < 64 := by omega
      have HK := Lib.hid (kinds_any B b q 16 2 V w hV (by omega))
      have HRf := Lib.hid (refRefused_any B b 5 V w hV (by decide))
      obtain ⟨cs, A, n, cap, hkb, hc, _⟩ := hV.ex
      have hch := hc.huge q hq
      rw [show q / 16 = g by omega] at hch
      have c1 := (hkb.cell (1024 + g)).trans hch
      have hR' := Lib.hid hR
      have hmk : makeF V (q : Int) 16 5 (fun g => g.kind == 2) (fun g => g.hugeP true) = if allP V q 16 (fun g => g.kind == 2) = false then (9, V) else if refB V.rf 5 = true then (60, V.ref 5) else (0, (V.ref 5).eachP q 16 (fun g => g.hugeP true)) := by
        unfold makeF
        rw [if_neg (by omega)]
        simp only [Int.toNat_natCast]
        rfl
      cases hh : (V.pg q).huge with
      | true =>
        -- a huge page's group is committed as a whole
        have hall : allP V q 16 (fun g => g.kind == 2) = true := allP_iff.2 fun r h1 h2 => by
          have hr := hc.huge r (by omega)
          rw [show r / 16 = g by omega, hch, hh] at hr
          have : (V.pg r).huge = true := by injection hr with hr; injection hr with hr; exact hr.symm
          simpa using hG.hug r (by omega) this
        rw [hall] at HK
        rw [hh] at c1
        have hR2 := hR'.out
        rw [if_pos hh] at hR2
        subst hR2
        clear hf hV hkb hc hch hmk hall hR hqg
        go_enter Tryz.func82, Tryz.ntmps82
        go_wp2_with fail
        refine (HP.out _).mono ?_
        rintro e9 w9 ⟨rfl, rfl⟩
        go_wp2_with fail
        refine HK.out.mono ?_
        rintro e9 w9 ⟨rfl, rfl⟩
        go_wp2_with fail
        go_ret
        exact ⟨rfl, hV'.out, Far.refl _ _⟩
      | false =>
        rw [hh] at c1
        have hR2 := hR'.out
        rw [if_neg (by simp [hh]), hmk] at hR2
        have hR3 := Lib.hid hR2
        clear hf hV hkb hc hch hmk hR hR2 hR' hh
        have hqg' := Lib.hid hqg
        clear hqg
        generalize allP V q 16 (fun g => g.kind == 2) = al at *
        cases al with
        | false =>
          have hR4 := hR3.out
          rw [if_pos rfl] at hR4
          subst hR4
          go_enter Tryz.func82, Tryz.ntmps82
          go_wp2_with fail
          refine (HP.out _).mono ?_
          rintro e9 w9 ⟨rfl, rfl⟩
          go_wp2_with fail
          refine HK.out.mono ?_
          rintro e9 w9 ⟨rfl, rfl⟩
          go_wp2_with fail
          go_ret
          exact ⟨rfl, hV'.out, Far.refl _ _⟩
        | true =>
          have hR4 := hR3.out
          rw [if_neg (by decide)] at hR4
          have hR5 := Lib.hid hR4
          clear hR3 hR4
          generalize refB V.rf 5 = rb at *
          generalize V.ref 5 = V2 at *
          go_enter Tryz.func82, Tryz.ntmps82
          go_wp2_with fail
          refine (HP.out _).mono ?_
          rintro e9 w9 ⟨rfl, rfl⟩
          go_wp2_with fail
          refine HK.out.mono ?_
          rintro e9 w9 ⟨rfl, rfl⟩
          go_wp2_with fail
          refine HRf.out.mono ?_
          rintro e9 w1 ⟨rfl, V1, F1⟩
          cases rb with
          | true =>
            have hR6 := hR5.out
            rw [if_pos rfl] at hR6
            subst hR6
            go_wp2_with fail
            go_ret
            exact ⟨rfl, V1, F1⟩
          | false =>
            have hR6 := hR5.out
            rw [if_neg (by decide)] at hR6
            have hput := V1.putH hg true
            rw [← hqg'.out] at hput
            obtain rfl := hR6
            have hput' := Lib.hid hput
            obtain ⟨cs1, A1, n1, cap1, hkb1, hc1, _⟩ := V1.ex
            have hch1 := hc1.huge q hq
            rw [show q / 16 = g by have := hqg'.out; omega] at hch1
            have c2 := (hkb1.cell (1024 + g)).trans hch1
            have f2 := hkb1.frozen
            clear hkb1 hc1 hch1 hput c1
            go_wp2_with fail
            go_ret
            exact ⟨rfl, hput'.out.1, F1.trans hput'.out.2⟩
  · rw [pageB_false.2 c2] at HP
    have hf : fstB p = false := by
      unfold fstB
      rw [Bool.eq_false_iff]
      intro h
      simp at h
      omega
    rw [if_pos hf] at hR
    subst hR
    clear hf hV
    go_enter Tryz.func82, Tryz.ntmps82
    go_wp2_with fail
    refine (HP.out _).mono ?_
    rintro e9 w9 ⟨rfl, rfl⟩
    go_wp2_with fail
    go_ret
    exact ⟨rfl, hV'.out, Far.refl _ _⟩
set_option maxRecDepth 100000 in
set_option maxHeartbeats 1600000 in
theorem split6_any (B b : Nat) (p : Int) (V : Vm) (w : World) (hV : RefIs w B b V) :
    Calls Tryz.prog 93 #[.pointer (some ⟨b, 0, none⟩), .int .i64 p] w fun e w' => e = .returned (.int .i64 (Go.Pol.splitF V p).1) ∧ RefTo B b (Go.Pol.splitF V p).2 w w' := by
  have hV' := Lib.hid hV
  have HP := Lib.hid (fun W => page_any p W)
  obtain ⟨R, hR⟩ : ∃ R, Go.Pol.splitF V p = R := ⟨_, rfl⟩
  rw [hR]
  unfold Go.Pol.splitF at hR
  by_cases c2 : 0 ≤ p ∧ p < 1024
  · rw [pageB_true.2 c2] at HP
    obtain ⟨q, rfl⟩ : ∃ q : Nat, p = (q : Int) := ⟨p.toNat, by omega⟩
    have hq : q < 1024 := by omega
    cases hf : fstB (q : Int) with
    | false =>
      rw [if_pos hf] at hR
      subst hR
      have d2 := fst_mod hf hq
      obtain ⟨rm, hrm⟩ : ∃ rm, Int.tmod (q : Int) 16 = rm := ⟨_, rfl⟩
      rw [hrm] at d2
      clear hf hV
      go_enter Tryz.func93, Tryz.ntmps93
      go_wp2_with fail
      refine (HP.out _).mono ?_
      rintro e9 w9 ⟨rfl, rfl⟩
      go_wp2_with fail
      go_ret
      exact ⟨rfl, hV'.out, Far.refl _ _⟩
    | true =>
      rw [if_neg (by simp [hf])] at hR
      obtain ⟨d2, _, g, hqg, hg⟩ := fst_mod1 hf
      obtain ⟨rm, hrm⟩ : ∃ rm, Int.tmod (q : Int) 16 = rm := ⟨_, rfl⟩
      rw [hrm] at d2
      have hdv : Int.tdiv (q : Int) 16 = (g : Int) := by rw [Int.tdiv_eq_ediv_of_nonneg (by omega)]; omega
      have hwg : wrap64 (g : Int) = (g : Int) := by unfold wrap64; omega
      have hgl : (g : Int) < 64 := by omega
      have HRf := Lib.hid (refRefused_any B b 6 V w hV (by decide))
      obtain ⟨cs, A, n, cap, hkb, hc, _⟩ := hV.ex
      have hch := hc.huge q hq
      rw [show q / 16 = g by omega] at hch
      have c1 := (hkb.cell (1024 + g)).trans hch
      have hall : allP V q 16 (fun g => g.huge) = (V.pg q).huge := by
        rw [Bool.eq_iff_iff, allP_iff]
        constructor
        · intro h; exact h q (by omega) (by omega)
        · intro h r h1 h2
          have hr := hc.huge r (by omega)
          rw [show r / 16 = g by omega, hch, h] at hr
          injection hr with hr; injection hr with hr; exact hr.symm
      have hmk : makeF V (q : Int) 16 6 (fun g => g.huge) (fun g => g.hugeP false) = if allP V q 16 (fun g => g.huge) = false then (9, V) else if refB V.rf 6 = true then (60, V.ref 6) else (0, (V.ref 6).eachP q 16 (fun g => g.hugeP false)) := by
        unfold makeF
        rw [if_neg (by omega)]
        simp only [Int.toNat_natCast]
        rfl
      have hR2 : Hid ((if (V.pg q).huge = false then (9, V) else if refB V.rf 6 = true then (60, V.ref 6) else (0, (V.ref 6).eachP q 16 (fun g => g.hugeP false))) = R) := Lib.hid (by rw [← hall, ← hmk]; exact hR)
      have hqg' := Lib.hid hqg
      clear hf hV hkb hc hch hall hR hqg hmk
      generalize (V.pg q).huge = hh at *
      cases hh with
      | false =>
        have hR3 := hR2.out
        rw [if_pos rfl] at hR3
        subst hR3
        go_enter Tryz.func93, Tryz.ntmps93
        go_wp2_with fail
        refine (HP.out _).mono ?_
        rintro e9 w9 ⟨rfl, rfl⟩
        go_wp2_with fail
        go_ret
        exact ⟨rfl, hV'.out, Far.refl _ _⟩
      | true =>
        have hR3 := hR2.out
        rw [if_neg (by decide)] at hR3
        have hR5 := Lib.hid hR3
        clear hR2 hR3
        generalize refB V.rf 6 = rb at *
        generalize V.ref 6 = V2 at *
        go_enter Tryz.func93, Tryz.ntmps93
        go_wp2_with fail
        refine (HP.out _).mono ?_
        rintro e9 w9 ⟨rfl, rfl⟩
        go_wp2_with fail
        refine HRf.out.mono ?_
        rintro e9 w1 ⟨rfl, V1, F1⟩
        cases rb with
        | true =>
          have hR6 := hR5.out
          rw [if_pos rfl] at hR6
          subst hR6
          go_wp2_with fail
          go_ret
          exact ⟨rfl, V1, F1⟩
        | false =>
          have hR6 := hR5.out
          rw [if_neg (by decide)] at hR6
          have hput := V1.putH hg false
          rw [← hqg'.out] at hput
          obtain rfl := hR6
          have hput' := Lib.hid hput
          obtain ⟨cs1, A1, n1, cap1, hkb1, hc1, _⟩ := V1.ex
          have hch1 := hc1.huge q hq
          rw [show q / 16 = g by have := hqg'.out; omega] at hch1
          have c2 := (hkb1.cell (1024 + g)).trans hch1
          have f2 := hkb1.frozen
          clear hkb1 hc1 hch1 hput c1
          go_wp2_with fail
          go_ret
          exact ⟨rfl, hput'.out.1, F1.trans hput'.out.2⟩
  · rw [pageB_false.2 c2] at HP
    have hf : fstB p = false := by
      unfold fstB
      rw [Bool.eq_false_iff]
      intro h
      simp at h
      omega
    rw [if_pos hf] at hR
    subst hR
    clear hf hV
    go_enter Tryz.func93, Tryz.ntmps93
    go_wp2_with fail
    refine (HP.out _).mono ?_
    rintro e9 w9 ⟨rfl, rfl⟩
    go_wp2_with fail
    go_ret
    exact ⟨rfl, hV'.out, Far.refl _ _⟩
end Go.Proofs.YtefnnfcfigcikaaGreat
namespace Go.Pol
open Go Go.RowKit
/-- a new system of the reference is handed back; its rules are none -/
def RNewO (B : Nat) (w : World) (e : Ending) (w' : World) : Prop := ∃ b, e = .returned (.tuple #[.pointer (some ⟨b, 0, none⟩), .int .i64 0]) ∧ RefIs w' B b newVm ∧ w.heap.size ≤ b ∧ Below w.heap.size w w'
end Go.Pol
namespace Go.Proofs.YtefnnfcfigcikaaGreat
open Go Go.Proofs Go.RowKit Go.Pol Go.Shelf
attribute [local go_sem] Oper.semAt_some Go.Pol.wide_fn Go.Pol.wide_depth Go.Pol.wide_fn' Go.Pol.wide_depth'

set_option maxRecDepth 100000 in
set_option maxHeartbeats 1600000 in
theorem new6_any (B : Nat) (w : World) (hB : B ≤ w.heap.size) :
    Calls Tryz.prog 78 #[.agg #[.slice none 0 0]] w (RNewO B w) := by
  have hb0 := (Below.refl w.heap.size w).alloc (Nat.le_refl _) (.cells #[.slice none 0 0] 35)
  have k0 := Blk.new w 35 #[.slice none 0 0]
  have c0 := k0.cell
  have HS := Lib.hid (fun W => rstart_any none 0 0 [] W rfl (fun k hk => absurd hk (by simp [fl])))
  unfold RStartO at HS
  have hch : chkR [] = (0, 0) := by decide
  rw [hch] at HS
  simp only [if_true] at HS
  go_enter Tryz.func78, Tryz.ntmps78
  go_wp2_with fail
  refine (HS.out _).mono ?_
  rintro e w1 ⟨rfl, hb1⟩
  have B1 := hb0.trans (hb1.mono hb0.size)
  have hB2 := B1.alloc B1.size (.cells (rfC (.slice none 0 0) (fun _ => 0) (fun _ => 0)).toArray 79)
  have hzs := Tryz.zeroCells183_size
  have hzz := zeroRef
  obtain ⟨zc, hzc⟩ : ∃ zc, Tryz.zeroCells183 = zc := ⟨_, rfl⟩
  rw [hzc] at hzs hzz
  have hne : ¬ zc = #[] := fun e => by rw [e] at hzs; simp at hzs
  have hC := Lib.hid (newRef hzz (.slice none 0 0))
  have kz := Blk.new w1 79 (rfC (.slice none 0 0) (fun _ => 0) (fun _ => 0)).toArray
  clear hzz c0 k0 HS
  unfold rfC at hB2 kz
  unfold rfV rfC
  go_upto_region 4 with fail
  generalize w1.alloc _ = w2 at *
  have cz := kz.cell
  have hB3 := hB2.alloc hB2.size (.cells (putA zc 66624 (rfC (.slice none 0 0) (fun _ => 0) (fun _ => 0))) 183)
  have kS := Blk.new w2 183 (putA zc 66624 (rfC (.slice none 0 0) (fun _ => 0) (fun _ => 0)))
  have hbs := hB2.size
  go_wp2_with fail
  go_ret2
  refine ⟨w2.heap.size, rfl, ?_, hbs, hB3⟩
  exact ⟨_, none, 0, 0, kS, hC.out, ⟨rfl, fun _ => rfl⟩, fun k hk => absurd hk (by simp [fl, newVm]), by omega, ⟨by decide, fun k _ => ⟨Int.le_refl _, (by show (0 : Int) ≤ 1000000; decide)⟩, fun k _ => rfl⟩⟩
set_option maxRecDepth 100000 in
set_option maxHeartbeats 1600000 in
theorem plan6_any (B b : Nat) (A : Option Addr) (n cap : Nat) (l : List Ru) (V : Vm) (w : World) (hV : RefIs w B b V) (hn : l.length = n) (hz : A = none → cap = 0) (hr : Rd w B A (fl ruC l)) :
    Calls Tryz.prog 83 #[.pointer (some ⟨b, 0, none⟩), .agg #[.slice A n cap]] w fun e w' => e = .returned (.int .i64 (chkR l).2) ∧ RefTo B b (planF V l) w w' := by
  have hb0 := (Below.refl w.heap.size w).alloc (Nat.le_refl _) (.cells #[.slice A n cap] 35)
  have k0 := Blk.new w 35 #[.slice A n cap]
  have c0 := k0.cell
  have hbs := hV.lt
  have hbB := hV.base
  have r0 := (hr.more (show B ≤ w.heap.size by omega)).on_ hb0
  have HS := Lib.hid (fun W h => rstart_any A n cap l W hn h)
  have hV' := Lib.hid hV
  have hr' := Lib.hid hr
  have hn' := Lib.hid hn
  have hz' := Lib.hid hz
  unfold RefTo
  obtain ⟨P, hP⟩ : ∃ P, planF V l = P := ⟨_, rfl⟩
  rw [hP]
  unfold planF at hP
  have hnk := Lib.hid (newRf_ok (l := l))
  unfold RStartO at HS
  obtain ⟨f0, hf0⟩ : ∃ f0 : Nat → Int, (fun _ : Nat => (0 : Int)) = f0 := ⟨_, rfl⟩
  have e1 : (newRf l).calls = f0 := hf0
  have e2 : (newRf l).hits = f0 := hf0
  have e12 := Lib.hid (And.intro e1 e2)
  rw [hf0] at HS
  clear e1 e2 hf0
  generalize (chkR l).2 = re at *
  have hP' := Lib.hid hP
  clear hP hV hr k0 hn hz
  go_enter Tryz.func83, Tryz.ntmps83
  go_upto_region 1 with fail
  generalize w.alloc _ = w0 at *
  go_wp2_with fail
  refine (HS.out _ r0).mono ?_
  rintro e w1 ⟨rfl, hb1⟩
  by_cases h0 : re = 0
  · have hP2 := hP'.out
    rw [if_pos h0] at hP2
    rw [if_pos h0]
    have B1 := hb0.trans (hb1.mono hb0.size)
    have hbz := (Below.refl w1.heap.size w1).alloc (Nat.le_refl _) (.cells (rfC (.slice A n cap) f0 f0).toArray 79)
    have hb2 := B1.trans (hbz.mono B1.size)
    have hput := hV'.out.putRf (newRf l) A n cap hb2 hn'.out hz'.out (hr'.out.keepB (T := fun _ => False) (Far.of_below hb2) (fun _ h => h.elim)) (hnk.out h0)
    obtain ⟨cs9, A9, n9, c9, k8, h9, h10⟩ := hV'.out.ex
    have k9 := k8.call hb2
    have hcs9 := h9.size
    have kz := Blk.new w1 79 (rfC (.slice A n cap) f0 f0).toArray
    clear h10 h9 hb2 HS hP' c0 r0 k8
    rw [e12.out.1, e12.out.2] at hput
    change RefIs (World.setCells _ b 66624 (rfC (.slice A n cap) f0 f0)) B b { V with rf := newRf l } ∧ Far (fun k => k = b) w (World.setCells _ b 66624 (rfC (.slice A n cap) f0 f0)) at hput
    rw [hP2] at hput
    subst h0
    have hput' := Lib.hid hput
    clear hput hP2
    unfold rfC at hbz k9 hput' kz
    unfold rfV rfC
    obtain ⟨s, hs⟩ : ∃ s, w1.heap.size = s := ⟨_, rfl⟩
    rw [hs] at kz
    go_upto_region 2 with fail
    generalize w1.alloc _ = w2 at *
    clear hs hbz
    have cz := kz.cell
    have ht : w2.there b 66624 (rfC (.slice A n cap) f0 f0).toArray.size := z_there k9 66624 15 (by omega)
    have hone := Go.all_oneCell_toArray (rfC_one (v := .slice A n cap) rfl f0 f0)
    have hput2 : Hid (RefIs (w2.setCells b 66624 (rfC (.slice A n cap) f0 f0)) B b P ∧ Far (fun k => k = b) w (w2.setCells b 66624 (rfC (.slice A n cap) f0 f0))) := hput'
    clear hcs9 k9 kz hput'
    go_wp2_with (refine wpList_store_mid rfl 79 (.tmp 17) (.tmp 15) rfl b 66624 (rfC (.slice A n cap) f0 f0).toArray ?hxx ?hyy ht infoRf hone ?_)
    case hxx => rfl
    case hyy => rfl
    generalize w2.setCells b 66624 _ = w4 at *
    go_ret
    exact ⟨rfl, hput2.out.1, hput2.out.2⟩
  · have hP2 := hP'.out
    rw [if_neg h0] at hP2
    subst hP2
    rw [if_neg h0]
    have he : (re == 0) = false := by simpa using h0
    have hbz := (hb0.trans (hb1.mono hb0.size)).alloc (by have := hb0.size; have := hb1.size; omega) (.cells (rfC (.slice none 0 0) f0 f0).toArray 79)
    unfold rfC at hbz
    have V1 := hV'.out.call hbz
    clear HS hP' c0 r0
    unfold rfV rfC
    go_wp2_with fail
    go_ret
    exact ⟨rfl, V1, .of_below hbz⟩
end Go.Proofs.YtefnnfcfigcikaaGreat
namespace Go.Pol
open Go Go.RowKit
/-- a span reserved and committed -/
def layS (V : Vm) (x : Int × Int) : Vm := if (bec V x.1 x.2 0 0 1).1 = 0 then (bec (bec V x.1 x.2 0 0 1).2 x.1 x.2 2 1 2).2 else (bec V x.1 x.2 0 0 1).2
def hugS (V : Vm) (g : Int) : Vm := if 0 ≤ g ∧ g < 64 then (joinF V (g * 16)).2 else V
/-- a byte to be written -/
def wrC (x : Int × Int) : List Value := [.int .i64 x.1, .int .u8 x.2]
theorem wrC_len (x : Int × Int) : (wrC x).length = 2 := rfl
/-- what the laws make a system of -/
def sysF (us : List (Int × Int)) (hs : List Int) (ws : List (Int × Int)) (l : List Ru) : Vm := planF (hs.foldl hugS (ws.foldl (fun V x => writeF V x.1 x.2) (us.foldl layS newVm))) l
theorem newKind : KindOk newVm := fun p _ => by show (0 : Int) ≤ 0 ∧ (0 : Int) ≤ 3; omega
theorem layS_kind {V : Vm} (h : KindOk V) (x : Int × Int) : KindOk (layS V x) := by
  unfold layS
  split
  · exact (h.bec _ _ _ _ (by omega)).bec _ _ _ _ (by omega)
  · exact h.bec _ _ _ _ (by omega)
theorem hugS_kind {V : Vm} (h : KindOk V) (g : Int) : KindOk (hugS V g) := by
  unfold hugS
  split
  · exact h.join _
  · exact h
theorem foldl_kind {α : Type} {f : Vm → α → Vm} (hf : ∀ V x, KindOk V → KindOk (f V x)) : ∀ (l : List α) (V : Vm), KindOk V → KindOk (l.foldl f V)
  | [], _, h => h
  | x :: r, V, h => foldl_kind hf r _ (hf V x h)
theorem sysF_kind (us hs ws l) : KindOk (sysF us hs ws l) :=
  (foldl_kind (fun _ x h => hugS_kind h x) _ _ (foldl_kind (fun _ _ h => h.write _ _) _ _ (foldl_kind (fun _ x h => layS_kind h x) _ _ newKind))).plan _
theorem z_take {α : Type} (d : α) (l : List α) {k : Nat} (hk : k < l.length) : l.take (k + 1) = l.take k ++ [l.getD k d] := by
  rw [List.take_succ_eq_append_getElem hk, List.getD_eq_getElem?_getD, List.getElem?_eq_getElem hk]
  rfl
/-- a system is handed back, made of this -/
def SysO (V : Vm) (w : World) (e : Ending) (w' : World) : Prop := ∃ b, e = .returned (.pointer (some ⟨b, 0, none⟩)) ∧ SysIs w' b V ∧ w.heap.size ≤ b ∧ Below w.heap.size w w'
end Go.Pol
namespace Go.Proofs.YtefnnfcfigcikaaGreat
open Go Go.Proofs Go.RowKit Go.Pol Go.Shelf
attribute [local go_sem] Oper.semAt_some Go.Pol.wide_fn Go.Pol.wide_depth Go.Pol.wide_fn' Go.Pol.wide_depth'

set_option maxRecDepth 100000 in
set_option maxHeartbeats 3200000 in
theorem sys13_any (As Ah Aw Ar : Option Addr) (ns cs nh ch nw cw nr cr : Nat) (us : List (Int × Int)) (hs : List Int) (ws : List (Int × Int)) (l : List Ru) (w : World)
    (hus : us.length = ns) (hhs : hs.length = nh) (hws : ws.length = nw) (hl : l.length = nr) (hm : ns ≤ 1000 ∧ nh ≤ 1000 ∧ nw ≤ 1000 ∧ nr ≤ 1000) (hz : Ar = none → cr = 0)
    (ru : RU w w.heap.size As us) (ri : RI w w.heap.size Ah hs) (rb : Rd w w.heap.size Aw (fl wrC ws)) (rr : Rd w w.heap.size Ar (fl ruC l)) :
    Calls Tryz.prog 22 #[.agg #[.slice As ns cs, .slice Ah nh ch, .slice Aw nw cw, .slice Ar nr cr]] w (SysO (sysF us hs ws l) w) := by
  obtain ⟨hm1, hm2, hm3, hm4⟩ := hm
  obtain ⟨P, hP⟩ : ∃ P, sysF us hs ws l = P := ⟨_, rfl⟩
  rw [hP]
  have hP' : Hid (planF (hs.foldl hugS (ws.foldl (fun V x => writeF V x.1 x.2) (us.foldl layS newVm))) l = P) := Lib.hid hP
  clear hP
  have HN := Lib.hid (fun W => new_any W)
  have hb0 := (Below.refl w.heap.size w).alloc (Nat.le_refl _) (.cells #[.slice As ns cs, .slice Ah nh ch, .slice Aw nw cw, .slice Ar nr cr] 58)
  have k0 := Blk.new w 58 #[.slice As ns cs, .slice Ah nh ch, .slice Aw nw cw, .slice Ar nr cr]
  have ru0 := Lib.hid (ru.below hb0)
  have ri0 := Lib.hid (ri.below hb0)
  have rb0 := Lib.hid (rb.below hb0)
  have rr0 := Lib.hid (rr.below hb0)
  obtain ⟨s, hs0⟩ : ∃ s, w.heap.size = s := ⟨_, rfl⟩
  have hsz0 : (w.alloc (.cells #[.slice As ns cs, .slice Ah nh ch, .slice Aw nw cw, .slice Ar nr cr] 58)).heap.size = s + 1 := by rw [World.size_alloc, hs0]
  rw [hs0] at k0 hb0 ru0 ri0 rb0 rr0
  clear ru ri rb rr
  go_enter Tryz.func22, Tryz.ntmps22
  go_upto_region 1 with fail
  generalize w.alloc _ = w0 at *
  go_wp2_with fail
  unfold NewO at HN
  refine (HN.out w0).mono ?_
  rintro e w1 ⟨b, rfl, V1, hbb, hb1⟩
  rw [hsz0] at hb1 hbb
  go_wp2_with fail
  go_loopw [5] (fun u wr => ∃ k : Nat, k ≤ ns ∧ u = .int .i64 k ∧ Below (s + 1) w0 wr ∧ Hid (SysIs wr b ((us.take k).foldl layS newVm))) (fun u _ => ns - (intOf u).toNat)
  case atStart => exact ⟨0, by omega, rfl, hb1, Lib.hid (by simpa using V1)⟩
  case round =>
    clear V1 hb1 HN
    obtain ⟨k, hk, rfl, hB, hV⟩ := hrel
    have kb := k0.below hB (by omega)
    by_cases hlt : k < ns
    · have hlt' : decide ((k : Int) < (ns : Int)) = true := by simpa using hlt
      have hstep : (us.take (k + 1)).foldl layS newVm = layS ((us.take k).foldl layS newVm) (us.getD k (0, 0)) := by
        rw [z_take (0, 0) us (by omega), List.foldl_append]
        rfl
      have hstep' := Lib.hid hstep
      obtain ⟨ub, uo, rfl, hub, hc, hd⟩ := (ru0.out.below (hB.mono (by omega))).at_' (k := k) (by omega)
      have hget := Lib.hid (fun (W : World) (h : Below (s + 1) w0 W) => (ru0.out.below (h.mono (by omega))).at_' (k := k) (by omega))
      generalize us.getD k (0, 0) = x at *
      generalize (us.take k).foldl layS newVm = V at *
      obtain ⟨xa, xn⟩ := x
      simp only at hc hd
      have e0 := fun x : Ext wr => (x.blk kb).cell
      have e1 := fun x : Ext wr => x.cell hc
      have e2 := fun x : Ext wr => x.cell hd
      clear hstep hc hd
      have c0 := kb.cell
      go_upto_region 7 with fail
      clear c0
      refine region_ext_tail 13 (by kernel_rfl) (by kernel_rfl) ?_
      simp only [List.take_succ_cons, List.take_zero, List.drop_succ_cons, List.drop_zero]
      repeat (go_big_quiet_step (fail))
      refine wpQuiet_nil ?_
      intro z
      go_wp2_with fail
      refine (reserve_any b xa xn V z.w (hV.out.call z.le)).mono ?_
      rintro e w2 ⟨rfl, V2, F2⟩
      have hB2 := (hB.trans (z.le.mono (by have := hB.size; omega))).trans (F2.below (by have := hB.size; have := z.le.size; omega) (fun k hk e => by omega))
      have hst : Hid ((us.take (k + 1)).foldl layS newVm = if (bec V xa xn 0 0 1).1 = 0 then (bec (bec V xa xn 0 0 1).2 xa xn 2 1 2).2 else (bec V xa xn 0 0 1).2) := hstep'
      generalize bec V xa xn 0 0 1 = R at *
      obtain ⟨r, U⟩ := R
      simp only at V2 hst
      have hst' := hst.out
      have V2' := Lib.hid V2
      clear hstep' e0 e1 e2 hV F2 V2 hst
      by_cases hr : r = 0
      · rw [if_pos hr] at hst'
        have hst2 := Lib.hid hst'
        subst hr
        have kb2 := k0.below hB2 (by omega)
        obtain ⟨ub2, uo2, hu2, _, hc, hd⟩ := hget.out w2 hB2
        cases hu2
        try simp only at hc hd
        have e0 := fun x : Ext w2 => (x.blk kb2).cell
        have e1 := fun x : Ext w2 => x.cell hc
        have e2 := fun x : Ext w2 => x.cell hd
        clear hst' hc hd
        go_upto_region 8 with fail
        refine region_ext_tail 13 (by kernel_rfl) (by kernel_rfl) ?_
        simp only [List.take_succ_cons, List.take_zero, List.drop_succ_cons, List.drop_zero]
        repeat (go_big_quiet_step (fail))
        refine wpQuiet_nil ?_
        intro z2
        go_wp2_with fail
        refine (commit_any b xa xn U z2.w (V2'.out.call z2.le)).mono ?_
        rintro e w3 ⟨rfl, V3, F3⟩
        have hB3 := (hB2.trans (z2.le.mono (by have := hB2.size; omega))).trans (F3.below (by have := hB2.size; have := z2.le.size; omega) (fun k hk e => by omega))
        have V3' := Lib.hid V3
        clear e0 e1 e2 V3 F3
        go_wp2_with fail
        go_roundw
        case rel => exact ⟨k + 1, by omega, by go_num, hB3, Lib.hid (by rw [hst2.out]; exact V3'.out)⟩
        case measure => simp [intOf]; omega
      · rw [if_neg hr] at hst'
        have hr' : (r == 0) = false := by simpa using hr
        have hst2 := Lib.hid hst'
        clear hst'
        go_wp2_with fail
        go_roundw
        case rel => exact ⟨k + 1, by omega, by go_num, hB2, Lib.hid (by rw [hst2.out]; exact V2'.out)⟩
        case measure => simp [intOf]; omega
    · obtain rfl : k = ns := by omega
      have hlt' : decide ((k : Int) < (k : Int)) = false := by simp
      have hV2 : Hid (SysIs wr b (us.foldl layS newVm)) := Lib.hid (by have := hV.out; rwa [← hus, List.take_length] at this)
      have c0 := kb.cell
      generalize us.foldl layS newVm = V0 at *
      clear hV ru0 hus
      go_wp2_with fail
      clear hlt' c0
      have hB0 := hB
      have hV0 := hV2
      clear hB hV2 kb
      go_loopw [6] (fun u wr => ∃ k : Nat, k ≤ nw ∧ u = .int .i64 k ∧ Below (s + 1) w0 wr ∧ Hid (SysIs wr b ((ws.take k).foldl (fun V x => writeF V x.1 x.2) V0))) (fun u _ => nw - (intOf u).toNat)
      case atStart => exact ⟨0, by omega, rfl, hB0, by simpa using hV0⟩
      case round =>
        clear hV0 hB0
        obtain ⟨k, hk, rfl, hB, hV⟩ := hrel
        have kb := k0.below hB (by omega)
        have c0 := kb.cell
        by_cases hlt : k < nw
        · have hlt' : decide ((k : Int) < (nw : Int)) = true := by simpa using hlt
          have hstep : (ws.take (k + 1)).foldl (fun V x => writeF V x.1 x.2) V0 = writeF ((ws.take k).foldl (fun V x => writeF V x.1 x.2) V0) (ws.getD k (0, 0)).1 (ws.getD k (0, 0)).2 := by
            rw [z_take (0, 0) ws (by omega), List.foldl_append]
            rfl
          have hstep' := Lib.hid hstep
          obtain ⟨ub, uo, rfl, hub, hc⟩ := (rb0.out.below (hB.mono (by omega))).elem wrC_len (by omega) (0, 0) (k := k) (by omega)
          generalize ws.getD k (0, 0) = x at *
          generalize (ws.take k).foldl _ V0 = V at *
          obtain ⟨xa, xv⟩ := x
          have hc0 : wr.cell? ⟨ub, uo + k * 2, none⟩ = some (.int .i64 xa) := hc 0 _ rfl
          have hc1 : wr.cell? ⟨ub, uo + k * 2 + 1, none⟩ = some (.int .u8 xv) := hc 1 _ rfl
          have e0 := fun x : Ext wr => (x.blk kb).cell
          have e1 := fun x : Ext wr => x.cell hc0
          have e2 := fun x : Ext wr => x.cell hc1
          clear hstep hc hc0 hc1
          go_upto_region 12 with fail
          clear c0
          refine region_ext_tail 13 (by kernel_rfl) (by kernel_rfl) ?_
          simp only [List.take_succ_cons, List.take_zero, List.drop_succ_cons, List.drop_zero]
          repeat (go_big_quiet_step (fail))
          refine wpQuiet_nil ?_
          intro z
          go_wp2_with fail
          refine (write_any b xa xv V z.w (hV.out.call z.le)).mono ?_
          rintro e w2 ⟨rfl, V2, F2⟩
          have hB2 := (hB.trans (z.le.mono (by have := hB.size; omega))).trans (F2.below (by have := hB.size; have := z.le.size; omega) (fun k hk e => by omega))
          have V2' := Lib.hid V2
          clear e0 e1 e2 hV F2 V2
          go_wp2_with fail
          go_roundw
          case rel => exact ⟨k + 1, by omega, by go_num, hB2, Lib.hid (by rw [hstep'.out]; exact V2'.out)⟩
          case measure => simp [intOf]; omega
        · obtain rfl : k = nw := by omega
          have hlt' : decide ((k : Int) < (k : Int)) = false := by simp
          have hV2 : Hid (SysIs wr b (ws.foldl (fun V x => writeF V x.1 x.2) V0)) := Lib.hid (by have := hV.out; rwa [← hws, List.take_length] at this)
          generalize ws.foldl (fun V x => writeF V x.1 x.2) V0 = V1 at *
          clear hV rb0 hws
          go_wp2_with fail
          clear hlt' c0
          have hB0 := hB
          have hV0 := hV2
          clear hB hV2 kb
          go_loopw [7] (fun u wr => ∃ k : Nat, k ≤ nh ∧ u = .int .i64 k ∧ Below (s + 1) w0 wr ∧ Hid (SysIs wr b ((hs.take k).foldl hugS V1))) (fun u _ => nh - (intOf u).toNat)
          case atStart => exact ⟨0, by omega, rfl, hB0, by simpa using hV0⟩
          case round =>
            clear hV0 hB0
            obtain ⟨k, hk, rfl, hB, hV⟩ := hrel
            have kb := k0.below hB (by omega)
            have c0 := kb.cell
            by_cases hlt : k < nh
            · have hlt' : decide ((k : Int) < (nh : Int)) = true := by simpa using hlt
              have hstep : (hs.take (k + 1)).foldl hugS V1 = hugS ((hs.take k).foldl hugS V1) (hs.getD k 0) := by
                rw [z_take 0 hs (by omega), List.foldl_append]
                rfl
              obtain ⟨ub, uo, rfl, hub, hc⟩ := (ri0.out.below (hB.mono (by omega))).at_ (k := k) (by omega)
              generalize hs.getD k 0 = x at *
              generalize (hs.take k).foldl hugS V1 = V at *
              have hstep' : Hid ((hs.take (k + 1)).foldl hugS V1 = if 0 ≤ x ∧ x < 64 then (Go.Pol.joinF V (x * 16)).2 else V) := Lib.hid hstep
              clear hstep
              by_cases c1 : 0 ≤ x
              · have d1 : decide (0 ≤ x) = true := by simpa using c1
                by_cases c2 : x < 64
                · have d2 : decide (x < 64) = true := by simpa using c2
                  have hst := hstep'.out
                  rw [if_pos ⟨c1, c2⟩] at hst
                  have hst' := Lib.hid hst
                  have hw16 : wrap64 (x * 16) = x * 16 := by unfold wrap64; omega
                  have HJ := Lib.hid (vjoin_any b (x * 16) V wr hV.out)
                  clear hst hstep'
                  go_wp2_with fail
                  refine HJ.out.mono ?_
                  rintro e w2 ⟨rfl, V2, F2⟩
                  have hB2 := hB.trans (F2.below (by have := hB.size; omega) (fun k hk e => by omega))
                  have V2' := Lib.hid V2
                  clear hV F2 V2 HJ
                  go_wp2_with fail
                  go_roundw
                  case rel => exact ⟨k + 1, by omega, by go_num, hB2, Lib.hid (by rw [hst'.out]; exact V2'.out)⟩
                  case measure => simp [intOf]; omega
                · have d2 : decide (x < 64) = false := by simpa using c2
                  have hst := hstep'.out
                  rw [if_neg (fun h => c2 h.2)] at hst
                  have hst' := Lib.hid hst
                  clear hst hstep'
                  go_wp2_with fail
                  go_roundw
                  case rel => exact ⟨k + 1, by omega, by go_num, hB, Lib.hid (by rw [hst'.out]; exact hV.out)⟩
                  case measure => simp [intOf]; omega
              · have d1 : decide (0 ≤ x) = false := by simpa using c1
                have hst := hstep'.out
                rw [if_neg (fun h => c1 h.1)] at hst
                have hst' := Lib.hid hst
                clear hst hstep'
                go_wp2_with fail
                go_roundw
                case rel => exact ⟨k + 1, by omega, by go_num, hB, Lib.hid (by rw [hst'.out]; exact hV.out)⟩
                case measure => simp [intOf]; omega
            · obtain rfl : k = nh := by omega
              have hlt' : decide ((k : Int) < (k : Int)) = false := by simp
              have hV2 : Hid (SysIs wr b (hs.foldl hugS V1)) := Lib.hid (by have := hV.out; rwa [← hhs, List.take_length] at this)
              have HP := Lib.hid (plan_any b Ar nr cr l _ wr hV2.out hl (by omega) hz ((rr0.out.below (hB.mono (by omega))).more (by have := hB.size; omega)))
              go_wp2_with fail
              refine HP.out.mono ?_
              rintro e w2 ⟨rfl, V2, F2⟩
              have hB2 := hb0.trans ((hB.trans (F2.below (by have := hB.size; omega) (fun k hk e => by omega))).mono (by omega))
              have V2' := Lib.hid V2
              clear HP hV2 F2 V2 hB
              go_wp2_with fail
              go_ret
              exact ⟨b, rfl, by rw [← hP'.out]; exact V2'.out, by omega, by rw [hs0]; exact hB2⟩
end Go.Proofs.YtefnnfcfigcikaaGreat
namespace Go.Pol
open Go Go.RowKit
theorem GoodV.lay {V : Vm} (h : GoodV V) (x : Int × Int) : GoodV (layS V x) := by
  unfold layS
  split
  · exact (h.bec _ _ _ _ _ (by omega)).bec _ _ _ _ _ (by omega)
  · exact h.bec _ _ _ _ _ (by omega)
theorem GoodV.hugS {V : Vm} (h : GoodV V) (g : Int) : GoodV (Go.Pol.hugS V g) := by
  unfold Go.Pol.hugS
  split
  · exact h.join _
  · exact h
theorem foldl_good {α : Type} {f : Vm → α → Vm} (hf : ∀ V x, GoodV V → GoodV (f V x)) : ∀ (l : List α) (V : Vm), GoodV V → GoodV (l.foldl f V)
  | [], _, h => h
  | x :: r, V, h => foldl_good hf r (f V x) (hf V x h)
theorem sysF_good (us hs ws l) : GoodV (sysF us hs ws l) :=
  GoodV.plan (foldl_good (fun _ x h => GoodV.hugS h x) hs _ (foldl_good (fun _ x h => h.write x.1 x.2) ws _ (foldl_good (fun _ x h => h.lay x) us newVm GoodV.new))) l
/-- the reference's system is handed back -/
def RefO (B : Nat) (V : Vm) (w : World) (e : Ending) (w' : World) : Prop := ∃ b, e = .returned (.pointer (some ⟨b, 0, none⟩)) ∧ RefIs w' B b V ∧ w.heap.size ≤ b ∧ Below w.heap.size w w'
end Go.Pol
namespace Go.Proofs.YtefnnfcfigcikaaGreat
open Go Go.Proofs Go.RowKit Go.Pol Go.Shelf
attribute [local go_sem] Oper.semAt_some Go.Pol.wide_fn Go.Pol.wide_depth Go.Pol.wide_fn' Go.Pol.wide_depth'

set_option maxRecDepth 100000 in
set_option maxHeartbeats 3200000 in
theorem mirror13_any (B0 : Nat) (As Ah Aw Ar : Option Addr) (ns cs nh ch nw cw nr cr : Nat) (us : List (Int × Int)) (hs : List Int) (ws : List (Int × Int)) (l : List Ru) (w : World)
    (hus : us.length = ns) (hhs : hs.length = nh) (hws : ws.length = nw) (hl : l.length = nr) (hm : ns ≤ 1000 ∧ nh ≤ 1000 ∧ nw ≤ 1000 ∧ nr ≤ 1000) (hz : Ar = none → cr = 0)
    (ru : RU w w.heap.size As us) (ri : RI w w.heap.size Ah hs) (rb : Rd w w.heap.size Aw (fl wrC ws)) (hB0 : B0 ≤ w.heap.size) (rr : Rd w B0 Ar (fl ruC l)) :
    Calls Tryz.prog 30 #[.agg #[.slice As ns cs, .slice Ah nh ch, .slice Aw nw cw, .slice Ar nr cr]] w (RefO B0 (sysF us hs ws l) w) := by
  obtain ⟨hm1, hm2, hm3, hm4⟩ := hm
  obtain ⟨P, hP⟩ : ∃ P, sysF us hs ws l = P := ⟨_, rfl⟩
  rw [hP]
  have hP' : Hid (planF (hs.foldl hugS (ws.foldl (fun V x => writeF V x.1 x.2) (us.foldl layS newVm))) l = P) := Lib.hid hP
  clear hP
  have HN := Lib.hid (fun W h => new6_any B0 W h)
  have hb0 := (Below.refl w.heap.size w).alloc (Nat.le_refl _) (.cells #[.slice As ns cs, .slice Ah nh ch, .slice Aw nw cw, .slice Ar nr cr] 58)
  have k0 := Blk.new w 58 #[.slice As ns cs, .slice Ah nh ch, .slice Aw nw cw, .slice Ar nr cr]
  have ru0 := Lib.hid (ru.below hb0)
  have ri0 := Lib.hid (ri.below hb0)
  have rb0 := Lib.hid (rb.below hb0)
  have rr0 := Lib.hid (rr.below (hb0.mono hB0))
  obtain ⟨s, hs0⟩ : ∃ s, w.heap.size = s := ⟨_, rfl⟩
  have hsz0 : (w.alloc (.cells #[.slice As ns cs, .slice Ah nh ch, .slice Aw nw cw, .slice Ar nr cr] 58)).heap.size = s + 1 := by rw [World.size_alloc, hs0]
  rw [hs0] at k0 hb0 ru0 ri0 rb0 hB0
  clear ru ri rb rr
  go_enter Tryz.func30, Tryz.ntmps30
  go_upto_region 1 with fail
  generalize w.alloc _ = w0 at *
  go_wp2_with fail
  unfold RNewO at HN
  refine (HN.out w0 (by omega)).mono ?_
  rintro e w1 ⟨b, rfl, V1, hbb, hb1⟩
  rw [hsz0] at hb1 hbb
  go_wp2_with fail
  go_loopw [5] (fun u wr => ∃ k : Nat, k ≤ ns ∧ u = .int .i64 k ∧ Below (s + 1) w0 wr ∧ Hid (RefIs wr B0 b ((us.take k).foldl layS newVm))) (fun u _ => ns - (intOf u).toNat)
  case atStart => exact ⟨0, by omega, rfl, hb1, Lib.hid (by simpa using V1)⟩
  case round =>
    clear V1 hb1 HN
    obtain ⟨k, hk, rfl, hB, hV⟩ := hrel
    have kb := k0.below hB (by omega)
    by_cases hlt : k < ns
    · have hlt' : decide ((k : Int) < (ns : Int)) = true := by simpa using hlt
      have hstep : (us.take (k + 1)).foldl layS newVm = layS ((us.take k).foldl layS newVm) (us.getD k (0, 0)) := by
        rw [z_take (0, 0) us (by omega), List.foldl_append]
        rfl
      have hstep' := Lib.hid hstep
      obtain ⟨ub, uo, rfl, hub, hc, hd⟩ := (ru0.out.below (hB.mono (by omega))).at_' (k := k) (by omega)
      have hget := Lib.hid (fun (W : World) (h : Below (s + 1) w0 W) => (ru0.out.below (h.mono (by omega))).at_' (k := k) (by omega))
      generalize us.getD k (0, 0) = x at *
      generalize (us.take k).foldl layS newVm = V at *
      obtain ⟨xa, xn⟩ := x
      simp only at hc hd
      have e0 := fun x : Ext wr => (x.blk kb).cell
      have e1 := fun x : Ext wr => x.cell hc
      have e2 := fun x : Ext wr => x.cell hd
      clear hstep hc hd
      have c0 := kb.cell
      go_upto_region 5 with fail
      clear c0
      refine region_ext_tail 13 (by kernel_rfl) (by kernel_rfl) ?_
      simp only [List.take_succ_cons, List.take_zero, List.drop_succ_cons, List.drop_zero]
      repeat (go_big_quiet_step (fail))
      refine wpQuiet_nil ?_
      intro z
      go_wp2_with fail
      refine (reserve6_any B0 b xa xn V z.w (hV.out.call z.le)).mono ?_
      rintro e w2 ⟨rfl, V2, F2⟩
      have hB2 := (hB.trans (z.le.mono (by have := hB.size; omega))).trans (F2.below (by have := hB.size; have := z.le.size; omega) (fun k hk e => by omega))
      have hst : Hid ((us.take (k + 1)).foldl layS newVm = if (bec V xa xn 0 0 1).1 = 0 then (bec (bec V xa xn 0 0 1).2 xa xn 2 1 2).2 else (bec V xa xn 0 0 1).2) := hstep'
      generalize bec V xa xn 0 0 1 = R at *
      obtain ⟨r, U⟩ := R
      simp only at V2 hst
      have hst' := hst.out
      have V2' := Lib.hid V2
      clear hstep' e0 e1 e2 hV F2 V2 hst
      by_cases hr : r = 0
      · rw [if_pos hr] at hst'
        have hst2 := Lib.hid hst'
        subst hr
        have kb2 := k0.below hB2 (by omega)
        obtain ⟨ub2, uo2, hu2, _, hc, hd⟩ := hget.out w2 hB2
        cases hu2
        try simp only at hc hd
        have e0 := fun x : Ext w2 => (x.blk kb2).cell
        have e1 := fun x : Ext w2 => x.cell hc
        have e2 := fun x : Ext w2 => x.cell hd
        clear hst' hc hd
        go_upto_region 6 with fail
        refine region_ext_tail 13 (by kernel_rfl) (by kernel_rfl) ?_
        simp only [List.take_succ_cons, List.take_zero, List.drop_succ_cons, List.drop_zero]
        repeat (go_big_quiet_step (fail))
        refine wpQuiet_nil ?_
        intro z2
        go_wp2_with fail
        refine (commit6_any B0 b xa xn U z2.w (V2'.out.call z2.le)).mono ?_
        rintro e w3 ⟨rfl, V3, F3⟩
        have hB3 := (hB2.trans (z2.le.mono (by have := hB2.size; omega))).trans (F3.below (by have := hB2.size; have := z2.le.size; omega) (fun k hk e => by omega))
        have V3' := Lib.hid V3
        clear e0 e1 e2 V3 F3
        go_wp2_with fail
        go_roundw
        case rel => exact ⟨k + 1, by omega, by go_num, hB3, Lib.hid (by rw [hst2.out]; exact V3'.out)⟩
        case measure => simp [intOf]; omega
      · rw [if_neg hr] at hst'
        have hr' : (r == 0) = false := by simpa using hr
        have hst2 := Lib.hid hst'
        clear hst'
        go_wp2_with fail
        go_roundw
        case rel => exact ⟨k + 1, by omega, by go_num, hB2, Lib.hid (by rw [hst2.out]; exact V2'.out)⟩
        case measure => simp [intOf]; omega
    · obtain rfl : k = ns := by omega
      have hlt' : decide ((k : Int) < (k : Int)) = false := by simp
      have hV2 : Hid (RefIs wr B0 b (us.foldl layS newVm)) := Lib.hid (by have := hV.out; rwa [← hus, List.take_length] at this)
      have c0 := kb.cell
      have hG0 : GoodV (us.foldl layS newVm) := foldl_good (fun V x h => h.lay x) us newVm GoodV.new
      generalize us.foldl layS newVm = V0 at *
      clear hV ru0 hus
      go_wp2_with fail
      clear hlt' c0
      have hB0 := hB
      have hV0 := hV2
      clear hB hV2 kb
      go_loopw [6] (fun u wr => ∃ k : Nat, k ≤ nw ∧ u = .int .i64 k ∧ Below (s + 1) w0 wr ∧ Hid (RefIs wr B0 b ((ws.take k).foldl (fun V x => writeF V x.1 x.2) V0))) (fun u _ => nw - (intOf u).toNat)
      case atStart => exact ⟨0, by omega, rfl, hB0, by simpa using hV0⟩
      case round =>
        clear hV0 hB0
        obtain ⟨k, hk, rfl, hB, hV⟩ := hrel
        have kb := k0.below hB (by omega)
        have c0 := kb.cell
        by_cases hlt : k < nw
        · have hlt' : decide ((k : Int) < (nw : Int)) = true := by simpa using hlt
          have hstep : (ws.take (k + 1)).foldl (fun V x => writeF V x.1 x.2) V0 = writeF ((ws.take k).foldl (fun V x => writeF V x.1 x.2) V0) (ws.getD k (0, 0)).1 (ws.getD k (0, 0)).2 := by
            rw [z_take (0, 0) ws (by omega), List.foldl_append]
            rfl
          have hstep' := Lib.hid hstep
          obtain ⟨ub, uo, rfl, hub, hc⟩ := (rb0.out.below (hB.mono (by omega))).elem wrC_len (by omega) (0, 0) (k := k) (by omega)
          generalize ws.getD k (0, 0) = x at *
          generalize (ws.take k).foldl _ V0 = V at *
          obtain ⟨xa, xv⟩ := x
          have hc0 : wr.cell? ⟨ub, uo + k * 2, none⟩ = some (.int .i64 xa) := hc 0 _ rfl
          have hc1 : wr.cell? ⟨ub, uo + k * 2 + 1, none⟩ = some (.int .u8 xv) := hc 1 _ rfl
          have e0 := fun x : Ext wr => (x.blk kb).cell
          have e1 := fun x : Ext wr => x.cell hc0
          have e2 := fun x : Ext wr => x.cell hc1
          clear hstep hc hc0 hc1
          go_upto_region 10 with fail
          clear c0
          refine region_ext_tail 13 (by kernel_rfl) (by kernel_rfl) ?_
          simp only [List.take_succ_cons, List.take_zero, List.drop_succ_cons, List.drop_zero]
          repeat (go_big_quiet_step (fail))
          refine wpQuiet_nil ?_
          intro z
          go_wp2_with fail
          refine (write6_any B0 b xa xv V z.w (hV.out.call z.le)).mono ?_
          rintro e w2 ⟨rfl, V2, F2⟩
          have hB2 := (hB.trans (z.le.mono (by have := hB.size; omega))).trans (F2.below (by have := hB.size; have := z.le.size; omega) (fun k hk e => by omega))
          have V2' := Lib.hid V2
          clear e0 e1 e2 hV F2 V2
          go_wp2_with fail
          go_roundw
          case rel => exact ⟨k + 1, by omega, by go_num, hB2, Lib.hid (by rw [hstep'.out]; exact V2'.out)⟩
          case measure => simp [intOf]; omega
        · obtain rfl : k = nw := by omega
          have hlt' : decide ((k : Int) < (k : Int)) = false := by simp
          have hV2 : Hid (RefIs wr B0 b (ws.foldl (fun V x => writeF V x.1 x.2) V0)) := Lib.hid (by have := hV.out; rwa [← hws, List.take_length] at this)
          have hG1 : GoodV (ws.foldl (fun V x => writeF V x.1 x.2) V0) := foldl_good (fun V x h => h.write x.1 x.2) ws V0 hG0
          generalize ws.foldl (fun V x => writeF V x.1 x.2) V0 = V1 at *
          have hGd := Lib.hid (fun k => foldl_good (fun V x h => GoodV.hugS h x) (hs.take k) V1 hG1)
          clear hV rb0 hws
          go_wp2_with fail
          clear hlt' c0
          have hB0 := hB
          have hV0 := hV2
          clear hB hV2 kb
          go_loopw [7] (fun u wr => ∃ k : Nat, k ≤ nh ∧ u = .int .i64 k ∧ Below (s + 1) w0 wr ∧ Hid (RefIs wr B0 b ((hs.take k).foldl hugS V1))) (fun u _ => nh - (intOf u).toNat)
          case atStart => exact ⟨0, by omega, rfl, hB0, by simpa using hV0⟩
          case round =>
            clear hV0 hB0
            obtain ⟨k, hk, rfl, hB, hV⟩ := hrel
            have kb := k0.below hB (by omega)
            have c0 := kb.cell
            by_cases hlt : k < nh
            · have hlt' : decide ((k : Int) < (nh : Int)) = true := by simpa using hlt
              have hstep : (hs.take (k + 1)).foldl hugS V1 = hugS ((hs.take k).foldl hugS V1) (hs.getD k 0) := by
                rw [z_take 0 hs (by omega), List.foldl_append]
                rfl
              obtain ⟨ub, uo, rfl, hub, hc⟩ := (ri0.out.below (hB.mono (by omega))).at_ (k := k) (by omega)
              generalize hs.getD k 0 = x at *
              have hGk := hGd.out k
              generalize (hs.take k).foldl hugS V1 = V at *
              have hstep' : Hid ((hs.take (k + 1)).foldl hugS V1 = if 0 ≤ x ∧ x < 64 then (Go.Pol.joinF V (x * 16)).2 else V) := Lib.hid hstep
              clear hstep
              by_cases c1 : 0 ≤ x
              · have d1 : decide (0 ≤ x) = true := by simpa using c1
                by_cases c2 : x < 64
                · have d2 : decide (x < 64) = true := by simpa using c2
                  have hst := hstep'.out
                  rw [if_pos ⟨c1, c2⟩] at hst
                  have hst' := Lib.hid hst
                  have hw16 : wrap64 (x * 16) = x * 16 := by unfold wrap64; omega
                  have HJ := Lib.hid (join6_any B0 b (x * 16) V wr hV.out hGk)
                  clear hst hstep'
                  go_wp2_with fail
                  refine HJ.out.mono ?_
                  rintro e w2 ⟨rfl, V2, F2⟩
                  have hB2 := hB.trans (F2.below (by have := hB.size; omega) (fun k hk e => by omega))
                  have V2' := Lib.hid V2
                  clear hV F2 V2 HJ
                  go_wp2_with fail
                  go_roundw
                  case rel => exact ⟨k + 1, by omega, by go_num, hB2, Lib.hid (by rw [hst'.out]; exact V2'.out)⟩
                  case measure => simp [intOf]; omega
                · have d2 : decide (x < 64) = false := by simpa using c2
                  have hst := hstep'.out
                  rw [if_neg (fun h => c2 h.2)] at hst
                  have hst' := Lib.hid hst
                  clear hst hstep'
                  go_wp2_with fail
                  go_roundw
                  case rel => exact ⟨k + 1, by omega, by go_num, hB, Lib.hid (by rw [hst'.out]; exact hV.out)⟩
                  case measure => simp [intOf]; omega
              · have d1 : decide (0 ≤ x) = false := by simpa using c1
                have hst := hstep'.out
                rw [if_neg (fun h => c1 h.1)] at hst
                have hst' := Lib.hid hst
                clear hst hstep'
                go_wp2_with fail
                go_roundw
                case rel => exact ⟨k + 1, by omega, by go_num, hB, Lib.hid (by rw [hst'.out]; exact hV.out)⟩
                case measure => simp [intOf]; omega
            · obtain rfl : k = nh := by omega
              have hlt' : decide ((k : Int) < (k : Int)) = false := by simp
              have hV2 : Hid (RefIs wr B0 b (hs.foldl hugS V1)) := Lib.hid (by have := hV.out; rwa [← hhs, List.take_length] at this)
              have HP := Lib.hid (plan6_any B0 b Ar nr cr l _ wr hV2.out hl hz (rr0.out.below (hB.mono (by omega))))
              go_wp2_with fail
              refine HP.out.mono ?_
              rintro e w2 ⟨rfl, V2, F2⟩
              have hB2 := hb0.trans ((hB.trans (F2.below (by have := hB.size; omega) (fun k hk e => by omega))).mono (by omega))
              have V2' := Lib.hid V2
              clear HP hV2 F2 V2 hB
              go_wp2_with fail
              go_ret
              exact ⟨b, rfl, by rw [← hP'.out]; exact V2'.out, by omega, by rw [hs0]; exact hB2⟩
end Go.Proofs.YtefnnfcfigcikaaGreat
namespace Go.Pol
open Go
def greatP (ns nh nw nr : Nat) : Bool := decide (60 < ns) || decide (70 < nh) || decide (100 < nw) || decide (55 < nr)
end Go.Pol
namespace Go.Proofs.YtefnnfcfigcikaaGreat
open Go Go.Proofs Go.RowKit Go.Pol Go.Shelf
attribute [local go_sem] Oper.semAt_some Go.Pol.wide_fn Go.Pol.wide_depth Go.Pol.wide_fn' Go.Pol.wide_depth'

theorem great13_any (As Ah Aw Ar : Option Addr) (ns cs nh ch nw cw nr cr : Nat) (w : World) :
    Calls Tryz.prog 29 #[.agg #[.slice As ns cs, .slice Ah nh ch, .slice Aw nw cw, .slice Ar nr cr]] w fun e w' => e = .returned (.bool (greatP ns nh nw nr)) ∧ Below w.heap.size w w' := by
  have hb0 := (Below.refl w.heap.size w).alloc (Nat.le_refl _) (.cells #[.slice As ns cs, .slice Ah nh ch, .slice Aw nw cw, .slice Ar nr cr] 58)
  have hG := Lib.hid (show greatP ns nh nw nr = (decide (60 < ns) || decide (70 < nh) || decide (100 < nw) || decide (55 < nr)) from rfl)
  generalize greatP ns nh nw nr = R at *
  by_cases h1 : 60 < ns
  · have d1 : decide ((60 : Int) < (ns : Int)) = true := by rw [decide_eq_true_eq]; omega
    have hR : Hid (true = R) := Lib.hid (by rw [hG.out, decide_eq_true h1]; simp)
    clear h1
    go_enter Tryz.func29, Tryz.ntmps29
    go_wp2_with fail
    go_ret
    exact ⟨z_ret_bool hR.out, hb0⟩
  have d1 : decide ((60 : Int) < (ns : Int)) = false := by rw [decide_eq_false_iff_not]; omega
  by_cases h2 : 70 < nh
  · have d2 : decide ((70 : Int) < (nh : Int)) = true := by rw [decide_eq_true_eq]; omega
    have hR : Hid (true = R) := Lib.hid (by rw [hG.out, decide_eq_true h2]; simp)
    clear h1 h2
    go_enter Tryz.func29, Tryz.ntmps29
    go_wp2_with fail
    go_ret
    exact ⟨z_ret_bool hR.out, hb0⟩
  have d2 : decide ((70 : Int) < (nh : Int)) = false := by rw [decide_eq_false_iff_not]; omega
  by_cases h3 : 100 < nw
  · have d3 : decide ((100 : Int) < (nw : Int)) = true := by rw [decide_eq_true_eq]; omega
    have hR : Hid (true = R) := Lib.hid (by rw [hG.out, decide_eq_true h3]; simp)
    clear h1 h2 h3
    go_enter Tryz.func29, Tryz.ntmps29
    go_wp2_with fail
    go_ret
    exact ⟨z_ret_bool hR.out, hb0⟩
  have d3 : decide ((100 : Int) < (nw : Int)) = false := by rw [decide_eq_false_iff_not]; omega
  by_cases h4 : 55 < nr
  · have d4 : decide ((55 : Int) < (nr : Int)) = true := by rw [decide_eq_true_eq]; omega
    have hR : Hid (true = R) := Lib.hid (by rw [hG.out, decide_eq_true h4]; simp)
    clear h1 h2 h3 h4
    go_enter Tryz.func29, Tryz.ntmps29
    go_wp2_with fail
    go_ret
    exact ⟨z_ret_bool hR.out, hb0⟩
  · have d4 : decide ((55 : Int) < (nr : Int)) = false := by rw [decide_eq_false_iff_not]; omega
    have hR : Hid (false = R) := Lib.hid (by rw [hG.out, decide_eq_false h1, decide_eq_false h2, decide_eq_false h3, decide_eq_false h4]; rfl)
    clear h1 h2 h3 h4
    go_enter Tryz.func29, Tryz.ntmps29
    go_wp2_with fail
    go_ret
    exact ⟨z_ret_bool hR.out, hb0⟩
end Go.Proofs.YtefnnfcfigcikaaGreat
namespace Go.Pol
open Go Go.Proofs Go.RowKit Go.ChangeShapes Go.WideShapes Go.Deep
theorem Rd.of_elem {α : Type} {enc : α → List Value} {sz : Nat} {w : World} {B b o : Nat} (hlen : ∀ x, (enc x).length = sz) (h0 : 0 < sz) (d : α) (us : List α) (hb : us ≠ [] → b < B)
    (h : ∀ k, k < us.length → ∀ (j : Nat) (v : Value), (enc (us.getD k d))[j]? = some v → w.cell? ⟨b, o + k * sz + j, none⟩ = some v) : Rd w B (some ⟨b, o, none⟩) (fl enc us) := fun i hi => by
  have hl := fl_len hlen us
  have hk : i / sz < us.length := Nat.div_lt_of_lt_mul (by rw [Nat.mul_comm, ← hl]; exact hi)
  have hj : i % sz < sz := Nat.mod_lt _ h0
  have hi2 : i / sz * sz + i % sz = i := Nat.div_add_mod' i sz
  have e := fl_at hlen d us (i / sz) hk (i % sz) hj
  rw [hi2] at e
  refine ⟨b, o, rfl, hb (fun h => by rw [h] at hk; simp at hk), ?_⟩
  have := h (i / sz) hk (i % sz) _ (e.symm.trans (List.getElem?_eq_getElem hi))
  rwa [Nat.add_assoc, hi2] at this
section
variable {H : Type} {enc : TypeId × Value → H} {P : Program} {w : World} {base : Nat} {held : Bool}
/-- bytes to be written that came in -/
theorem openW {t e : TypeId} {f0 f1 : Field} {fuel : Nat} {v : Value} {x : DataW H × List MemPlace} (ht : P.underlying t = some (.slice e)) (he : P.underlying e = some (.struct #[f0, f1])) (hone : oneCellFields P #[f0, f1] = true) (hC : P.cellsOf e = 2)
    (h0 : P.underlying f0.type = some (.int .i64)) (h1 : P.underlying f1.type = some (.int .u8))
    (h : DataW.trod enc P w base (fun _ => true) held fuel t [v] = some x) : ∃ (A : Option Addr) (n cap : Nat) (us : List (Int × Int)), v = .slice A n cap ∧ us.length = n ∧ n ≤ maxLen ∧ Rd w w.heap.size A (fl wrC us) := by
  rcases open_slice_fields ht he hone hC h with ⟨hcs, _⟩ | ⟨a, len, cap, m, D, Pl, hcs, _, hl, hm, hmm, _, hi⟩
  · simp only [List.cons.injEq, and_true] at hcs
    exact ⟨none, 0, 0, [], hcs, rfl, by unfold maxLen; omega, fun k hk => absurd hk (by simp [fl])⟩
  · simp only [List.cons.injEq, and_true] at hcs
    simp only [if_true] at hmm
    have each : ∀ i, i < len → ∃ p q : Int, w.cell? (a.add (i * 2)) = some (.int .i64 p) ∧ w.cell? (a.add (i * 2 + 1)) = some (.int .u8 q) := by
      intro i hil
      obtain ⟨ys, n, _, _, _, hf⟩ := hi i (by omega)
      obtain ⟨v0, y0, c0, _, t0⟩ := hf 0 f0 rfl
      obtain ⟨v1, y1, c1, _, t1⟩ := hf 1 f1 rfl
      obtain ⟨p, e0, _⟩ := DataW.trod_int h0 t0
      obtain ⟨q, e1, _⟩ := DataW.trod_int h1 t1
      simp only [List.cons.injEq, and_true] at e0 e1
      subst e0; subst e1
      exact ⟨p, q, c0, c1⟩
    obtain ⟨f, hf⟩ := Classical.axiomOfChoice (r := fun (i : Nat) (pq : Int × Int) => i < len → w.cell? (a.add (i * 2)) = some (.int .i64 pq.1) ∧ w.cell? (a.add (i * 2 + 1)) = some (.int .u8 pq.2)) (fun i => by
      by_cases hil : i < len
      · obtain ⟨p, q, c0, c1⟩ := each i hil
        exact ⟨(p, q), fun _ => ⟨c0, c1⟩⟩
      · exact ⟨(0, 0), fun h => absurd h hil⟩)
    by_cases hz : len = 0
    · subst hz
      exact ⟨some a, 0, cap, [], hcs, rfl, by omega, fun k hk => absurd hk (by simp [fl])⟩
    · obtain ⟨b, off, spot⟩ := a
      have hspot : spot = none := by
        obtain ⟨c0', _⟩ := hf 0 (by omega)
        simpa [Addr.add] using World.cell?_spot c0'
      subst hspot
      refine ⟨_, len, cap, (List.range len).map f, hcs, by simp, by omega, Rd.of_elem wrC_len (by omega) (0, 0) _ (fun _ => ?_) (fun k hk j v hj => ?_)⟩
      · obtain ⟨c0', _⟩ := hf 0 (by omega)
        rw [add_plain] at c0'
        exact World.block_lt_of_cell? _ _ c0'
      · have hk' : k < len := by simpa using hk
        obtain ⟨c0, c1⟩ := hf k hk'
        have e : ((List.range len).map f).getD k (0, 0) = f k := by simp [List.getD_eq_getElem?_getD, hk']
        rw [e] at hj
        rw [add_plain] at c0 c1
        match j, hj with
        | 0, hj => cases hj; exact c0
        | 1, hj => cases hj; rw [Nat.add_assoc]; exact c1
/-- rules that came in -/
theorem openR {t e : TypeId} {f0 f1 f2 f3 : Field} {fuel : Nat} {v : Value} {x : DataW H × List MemPlace} (ht : P.underlying t = some (.slice e)) (he : P.underlying e = some (.struct #[f0, f1, f2, f3])) (hone : oneCellFields P #[f0, f1, f2, f3] = true) (hC : P.cellsOf e = 4)
    (h0 : P.underlying f0.type = some (.int .i64)) (h1 : P.underlying f1.type = some (.int .i64)) (h2 : P.underlying f2.type = some (.int .i64)) (h3 : P.underlying f3.type = some (.int .i64))
    (h : DataW.trod enc P w base (fun _ => true) held fuel t [v] = some x) : ∃ (A : Option Addr) (n cap : Nat) (us : List Ru), v = .slice A n cap ∧ us.length = n ∧ n ≤ maxLen ∧ Rd w w.heap.size A (fl ruC us) ∧ (A = none → cap = 0) := by
  rcases open_slice_fields ht he hone hC h with ⟨hcs, _⟩ | ⟨a, len, cap, m, D, Pl, hcs, _, hl, hm, hmm, _, hi⟩
  · simp only [List.cons.injEq, and_true] at hcs
    exact ⟨none, 0, 0, [], hcs, rfl, by unfold maxLen; omega, fun k hk => absurd hk (by simp [fl]), fun _ => rfl⟩
  · simp only [List.cons.injEq, and_true] at hcs
    simp only [if_true] at hmm
    have each : ∀ i, i < len → ∃ p q r s : Int, w.cell? (a.add (i * 4)) = some (.int .i64 p) ∧ w.cell? (a.add (i * 4 + 1)) = some (.int .i64 q) ∧ w.cell? (a.add (i * 4 + 2)) = some (.int .i64 r) ∧ w.cell? (a.add (i * 4 + 3)) = some (.int .i64 s) := by
      intro i hil
      obtain ⟨ys, n, _, _, _, hf⟩ := hi i (by omega)
      obtain ⟨v0, y0, c0, _, t0⟩ := hf 0 f0 rfl
      obtain ⟨v1, y1, c1, _, t1⟩ := hf 1 f1 rfl
      obtain ⟨v2, y2, c2, _, t2⟩ := hf 2 f2 rfl
      obtain ⟨v3, y3, c3, _, t3⟩ := hf 3 f3 rfl
      obtain ⟨p, e0, _⟩ := DataW.trod_int h0 t0
      obtain ⟨q, e1, _⟩ := DataW.trod_int h1 t1
      obtain ⟨r, e2, _⟩ := DataW.trod_int h2 t2
      obtain ⟨s, e3, _⟩ := DataW.trod_int h3 t3
      simp only [List.cons.injEq, and_true] at e0 e1 e2 e3
      subst e0; subst e1; subst e2; subst e3
      exact ⟨p, q, r, s, c0, c1, c2, c3⟩
    obtain ⟨f, hf⟩ := Classical.axiomOfChoice (r := fun (i : Nat) (x : Ru) => i < len → w.cell? (a.add (i * 4)) = some (.int .i64 x.1) ∧ w.cell? (a.add (i * 4 + 1)) = some (.int .i64 x.2.1) ∧ w.cell? (a.add (i * 4 + 2)) = some (.int .i64 x.2.2.1) ∧ w.cell? (a.add (i * 4 + 3)) = some (.int .i64 x.2.2.2)) (fun i => by
      by_cases hil : i < len
      · obtain ⟨p, q, r, s, c⟩ := each i hil
        exact ⟨(p, q, r, s), fun _ => c⟩
      · exact ⟨(0, 0, 0, 0), fun h => absurd h hil⟩)
    by_cases hz : len = 0
    · subst hz
      exact ⟨some a, 0, cap, [], hcs, rfl, by omega, fun k hk => absurd hk (by simp [fl]), fun h => (by cases h)⟩
    · obtain ⟨b, off, spot⟩ := a
      have hspot : spot = none := by
        obtain ⟨c0', _⟩ := hf 0 (by omega)
        simpa [Addr.add] using World.cell?_spot c0'
      subst hspot
      refine ⟨_, len, cap, (List.range len).map f, hcs, by simp, by omega, Rd.of_elem ruC_len (by omega) ru0 _ (fun _ => ?_) (fun k hk j v hj => ?_), fun h => (by cases h)⟩
      · obtain ⟨c0', _⟩ := hf 0 (by omega)
        rw [add_plain] at c0'
        exact World.block_lt_of_cell? _ _ c0'
      · have hk' : k < len := by simpa using hk
        obtain ⟨c0, c1, c2, c3⟩ := hf k hk'
        have e : ((List.range len).map f).getD k ru0 = f k := by simp [List.getD_eq_getElem?_getD, hk']
        rw [e] at hj
        rw [add_plain] at c0 c1 c2 c3
        match j, hj with
        | 0, hj => cases hj; exact c0
        | 1, hj => cases hj; rw [Nat.add_assoc]; exact c1
        | 2, hj => cases hj; rw [Nat.add_assoc]; exact c2
        | 3, hj => cases hj; rw [Nat.add_assoc]; exact c3
end
end Go.Pol
namespace Go.Proofs.YtefnnfcfigcikaaGreat
open Go Go.Proofs Go.RowKit Go.Pol Go.ChangeShapes Go.WideShapes Go.Deep

theorem putStruct : ∃ f0 f1 : Field, Tryz.prog.underlying 140 = some (.struct #[f0, f1]) ∧ oneCellFields Tryz.prog #[f0, f1] = true ∧ f0.type = 2 ∧ f1.type = 5 := ⟨_, _, Tryz.underlying140, by kernel_rfl, rfl, rfl⟩
theorem ruStruct : ∃ f0 f1 f2 f3 : Field, Tryz.prog.underlying 178 = some (.struct #[f0, f1, f2, f3]) ∧ oneCellFields Tryz.prog #[f0, f1, f2, f3] = true ∧ f0.type = 3 ∧ f1.type = 3 ∧ f2.type = 3 ∧ f3.type = 3 := ⟨_, _, _, _, Tryz.underlying178, by kernel_rfl, rfl, rfl, rfl, rfl⟩
theorem mdCells : Tryz.prog.cellsOf 58 = 4 := by kernel_rfl
theorem putsCells : Tryz.prog.cellsOf 56 = 1 := by kernel_rfl
theorem rusCells : Tryz.prog.cellsOf 33 = 1 := by kernel_rfl
theorem plCells : Tryz.prog.cellsOf 35 = 1 := by kernel_rfl
section
variable {H : Type} {enc : TypeId × Value → H} {w : World} {base b0 : Nat} {held : Bool} {r : Reach} {v : Value} {d : DataW H} {p : List MemPlace}
set_option maxRecDepth 100000 in
/-- what a system is made of, as it came in -/
theorem openMade (hv : Value.okWide Tryz.prog w r b0 58 v) (h : DataW.Trod enc Tryz.prog w base (fun _ => true) held 58 v d p) :
    ∃ (A1 A2 A3 A4 : Option Addr) (n1 c1 n2 c2 n3 c3 n4 c4 : Nat) (us : List (Int × Int)) (hs : List Int) (ws : List (Int × Int)) (l : List Ru), v = .agg #[.slice A1 n1 c1, .slice A2 n2 c2, .slice A3 n3 c3, .slice A4 n4 c4] ∧ us.length = n1 ∧ RU w w.heap.size A1 us ∧
      hs.length = n2 ∧ RI w w.heap.size A2 hs ∧ ws.length = n3 ∧ Rd w w.heap.size A3 (fl wrC ws) ∧ l.length = n4 ∧ Rd w w.heap.size A4 (fl ruC l) ∧ (A4 = none → c4 = 0) := by
  obtain ⟨f0, f1, hs, hone, t0, t1⟩ := spStruct
  obtain ⟨p0, p1, hp, hpone, pt0, pt1⟩ := putStruct
  obtain ⟨r0, r1, r2, r3, hru, hrone, rt0, rt1, rt2, rt3⟩ := ruStruct
  obtain ⟨cs, rfl, hsz⟩ := okWide_struct Tryz.underlying58 hv
  obtain ⟨l⟩ := cs
  obtain ⟨fuel, hf⟩ := h
  obtain ⟨xs, m, _, hx, hl, hlen, hg⟩ := DataW.trod_struct Tryz.underlying58 hf
  rw [mdCells] at hsz
  match l, hsz with
  | [c0, c1, c2, c3], _ =>
    have g0 : DataW.trod enc Tryz.prog w base (fun _ => true) held m 42 [c0] = xs[0]? := by have := hg 0 _ rfl; simpa [Value.cells, spsCells] using this
    have g1 : DataW.trod enc Tryz.prog w base (fun _ => true) held m 50 [c1] = xs[1]? := by have := hg 1 _ rfl; simpa [Value.cells, spsCells, insCells] using this
    have g2 : DataW.trod enc Tryz.prog w base (fun _ => true) held m 56 [c2] = xs[2]? := by have := hg 2 _ rfl; simpa [Value.cells, spsCells, insCells, putsCells] using this
    have g3 : DataW.trod enc Tryz.prog w base (fun _ => true) held m 35 [c3] = xs[3]? := by have := hg 3 _ rfl; simpa [Value.cells, spsCells, insCells, putsCells, plCells] using this
    match xs, hlen with
    | [y0, y1, y2, y3], _ =>
      obtain ⟨A1, n1, k1, C, rfl, a1, a2, a3⟩ := openU Tryz.underlying42 hs hone (by kernel_rfl) (by rw [t0]; exact Tryz.underlying3) (by rw [t1]; exact Tryz.underlying3) (g0.trans rfl)
      obtain ⟨A2, n2, k2, Hu, rfl, d1, d2, d3, _⟩ := openI Tryz.underlying50 Tryz.underlying3 intCells (g1.trans rfl)
      obtain ⟨A3, n3, k3, W, rfl, e1, e2, e3⟩ := openW Tryz.underlying56 hp hpone (by kernel_rfl) (by rw [pt0]; exact Tryz.underlying2) (by rw [pt1]; exact Tryz.underlying5) (g2.trans rfl)
      have g3' : DataW.trod enc Tryz.prog w base (fun _ => true) held m 35 [c3] = some y3 := g3.trans rfl
      obtain ⟨zs, m2, _, hx2, hl2, hlen2, hg2⟩ := DataW.trod_struct Tryz.underlying35 g3'
      have g4 : DataW.trod enc Tryz.prog w base (fun _ => true) held m2 33 [c3] = zs[0]? := by have := hg2 0 _ rfl; simpa [Value.cells, rusCells] using this
      match zs, hlen2 with
      | [z0], _ =>
        obtain ⟨A4, n4, k4, L, rfl, u1, u2, u3, u4⟩ := openR Tryz.underlying33 hru hrone (by kernel_rfl) (by rw [rt0]; exact Tryz.underlying3) (by rw [rt1]; exact Tryz.underlying3) (by rw [rt2]; exact Tryz.underlying3) (by rw [rt3]; exact Tryz.underlying3) (g4.trans rfl)
        exact ⟨A1, A2, A3, A4, n1, k1, n2, k2, n3, k3, n4, k4, C, Hu, W, L, rfl, a1, a3, d1, d3, e1, e3, u1, u3, u4⟩
end
end Go.Proofs.YtefnnfcfigcikaaGreat
namespace Go.Pol
open Go Go.RowKit
/-- groups split one after the other: how many were, the first error, the system -/
def spF : List Int → Vm → Nat × Int × Vm
  | [], V => (0, 0, V)
  | g :: r, V => if (splitF V (wrap64 (g * 16))).1 = 0 then ((spF r (splitF V (wrap64 (g * 16))).2).1 + 1, (spF r (splitF V (wrap64 (g * 16))).2).2) else (0, splitF V (wrap64 (g * 16)))
/-- spans given back one after the other -/
def dcF : List Sp → Vm → Nat × Int × Vm
  | [], V => (0, 0, V)
  | x :: r, V => if (bec V x.1 x.2 3 2 1).1 = 0 then ((dcF r (bec V x.1 x.2 3 2 1).2).1 + 1, (dcF r (bec V x.1 x.2 3 2 1).2).2) else (0, bec V x.1 x.2 3 2 1)
/-- what Back does with the groups it was told of -/
def hbF (V : Vm) (G : List Int × Int) (ps : List Sp) : Nat × Nat × Int × Vm :=
  if G.2 ≠ 0 then (0, 0, G.2, V) else if (spF G.1 V).2.1 ≠ 0 then ((spF G.1 V).1, 0, (spF G.1 V).2) else ((spF G.1 V).1, dcF ps (spF G.1 V).2.2)
theorem spF_len : ∀ (l : List Int) (V : Vm), (spF l V).1 ≤ l.length
  | [], _ => Nat.le_refl _
  | g :: r, V => by
    unfold spF
    split
    · have := spF_len r (splitF V (wrap64 (g * 16))).2
      simp; omega
    · simp
theorem dcF_len : ∀ (l : List Sp) (V : Vm), (dcF l V).1 ≤ l.length
  | [], _ => Nat.le_refl _
  | x :: r, V => by
    unfold dcF
    split
    · have := dcF_len r (bec V x.1 x.2 3 2 1).2
      simp; omega
    · simp
theorem hbF_len (V : Vm) (G : List Int × Int) (ps : List Sp) : (hbF V G ps).1 ≤ G.1.length ∧ (hbF V G ps).2.1 ≤ ps.length := by
  unfold hbF
  split
  · simp
  · split
    · exact ⟨spF_len _ _, Nat.zero_le _⟩
    · exact ⟨spF_len _ _, dcF_len _ _⟩
theorem spF_good : ∀ (l : List Int) (V : Vm), GoodV V → GoodV (spF l V).2.2
  | [], _, h => h
  | g :: r, V, h => by
    unfold spF
    split
    · exact spF_good r _ (h.split _)
    · exact h.split _
theorem dcF_good : ∀ (l : List Sp) (V : Vm), GoodV V → GoodV (dcF l V).2.2
  | [], _, h => h
  | x :: r, V, h => by
    unfold dcF
    split
    · exact dcF_good r _ (h.bec _ _ _ _ _ (by omega))
    · exact h.bec _ _ _ _ _ (by omega)
theorem hbF_good {V : Vm} (h : GoodV V) (G : List Int × Int) (ps : List Sp) : GoodV (hbF V G ps).2.2.2 := by
  unfold hbF
  split
  · exact h
  · split
    · exact spF_good _ _ h
    · exact dcF_good _ _ (spF_good _ _ h)
theorem spF_step {gs : List Int} {V U : Vm} {k : Nat} (hk : k < gs.length) (h : spF gs V = (k + (spF (gs.drop k) U).1, (spF (gs.drop k) U).2)) :
    spF gs V = if (splitF U (wrap64 (gs.getD k 0 * 16))).1 = 0 then (k + 1 + (spF (gs.drop (k + 1)) (splitF U (wrap64 (gs.getD k 0 * 16))).2).1, (spF (gs.drop (k + 1)) (splitF U (wrap64 (gs.getD k 0 * 16))).2).2) else (k, splitF U (wrap64 (gs.getD k 0 * 16))) := by
  rw [h, drop_cons 0 gs k hk, spF]
  split
  · congr 1; omega
  · rfl
theorem dcF_step {gs : List Sp} {V U : Vm} {k : Nat} (hk : k < gs.length) (h : dcF gs V = (k + (dcF (gs.drop k) U).1, (dcF (gs.drop k) U).2)) :
    dcF gs V = if (bec U (gs.getD k (0, 0)).1 (gs.getD k (0, 0)).2 3 2 1).1 = 0 then (k + 1 + (dcF (gs.drop (k + 1)) (bec U (gs.getD k (0, 0)).1 (gs.getD k (0, 0)).2 3 2 1).2).1, (dcF (gs.drop (k + 1)) (bec U (gs.getD k (0, 0)).1 (gs.getD k (0, 0)).2 3 2 1).2).2) else (k, bec U (gs.getD k (0, 0)).1 (gs.getD k (0, 0)).2 3 2 1) := by
  rw [h, drop_cons (0, 0) gs k hk, dcF]
  split
  · congr 1; omega
  · rfl
end Go.Pol
namespace Go.Pol
open Go Go.Proofs Go.RowKit
/-- one group joined: the system, the groups joined so far, the first error -/
def hjS (s : Vm × List Int × Int) (g : Int) : Vm × List Int × Int :=
  ((joinF s.1 (wrap64 (g * 16))).2, if (joinF s.1 (wrap64 (g * 16))).1 = 0 then s.2.1 ++ [g] else s.2.1, if (joinF s.1 (wrap64 (g * 16))).1 = 0 then s.2.2 else if s.2.2 = 0 then (joinF s.1 (wrap64 (g * 16))).1 else s.2.2)
/-- what huge's Join does with the groups it was told of -/
def hjF (V : Vm) (G : List Int × Int) : Vm × List Int × Int := if G.2 ≠ 0 then (V, [], G.2) else G.1.foldl hjS (V, [], 0)
theorem hjS_kind : ∀ (l : List Int) (s : Vm × List Int × Int), KindOk s.1 → KindOk (l.foldl hjS s).1
  | [], _, h => h
  | _ :: r, _, h => hjS_kind r _ (h.join _)
theorem hjF_kind {V : Vm} (h : KindOk V) (G : List Int × Int) : KindOk (hjF V G).1 := by
  unfold hjF
  split
  · exact h
  · exact hjS_kind _ _ h
/-! a system without rules stays one -/
theorem Vm.ref_rules (V : Vm) (call : Nat) : (V.ref call).rf.rules = V.rf.rules := by
  show (refS V.rf call).rules = V.rf.rules
  unfold refS nextS
  repeat (first | rfl | split)
theorem makeF_rules (V : Vm) (a n : Int) (call : Nat) (pr : Pg → Bool) (f : Pg → Pg) : (makeF V a n call pr f).2.rf.rules = V.rf.rules := by
  unfold makeF
  split
  · rfl
  · split
    · rfl
    · split
      · exact V.ref_rules call
      · exact V.ref_rules call
theorem joinF_rules (V : Vm) (p : Int) : (joinF V p).2.rf.rules = V.rf.rules := by
  unfold joinF
  split
  · rfl
  · split
    · rfl
    · exact makeF_rules ..
theorem hjS_rules : ∀ (l : List Int) (s : Vm × List Int × Int), (l.foldl hjS s).1.rf.rules = s.1.rf.rules
  | [], _ => rfl
  | _ :: r, _ => (hjS_rules r _).trans (joinF_rules _ _)
/-- a list, an error, and a system that has become this -/
def JoinO (b : Nat) (r : Vm × List Int × Int) (w : World) (e : Ending) (w' : World) : Prop := ∃ (A : Option Addr) (cap : Nat), e = .returned (.tuple #[.slice A r.2.1.length cap, .int .i64 r.2.2]) ∧ RI w' w'.heap.size A r.2.1 ∧ (∀ g o, A = some ⟨g, o, none⟩ → w.heap.size ≤ g) ∧ SysIs w' b r.1 ∧ Far (fun k => k = b) w w'
end Go.Pol
namespace Go.Proofs.YtefnnfcfigcikaaGreat
open Go Go.Proofs Go.RowKit Go.Pol Go.Shelf
attribute [local go_sem] Oper.semAt_some Go.Pol.wide_fn Go.Pol.wide_depth Go.Pol.wide_fn' Go.Pol.wide_depth'

set_option maxRecDepth 100000 in
set_option maxHeartbeats 3200000 in
theorem hjoin_any (b : Nat) (least : Int) (S : Value) (C L : List Sp) (H : List Int) (V : Vm) (w : World) (hV : SysIs w b V) (hK : KindOk V) (hS : StIs w S C L H) :
    Calls Tryz.prog 25 #[.pointer (some ⟨b, 0, none⟩), S, .int .i64 least] w (JoinO b (hjF V (groupsA C L H least)) w) := by
  have HC := Lib.hid (fun W h => counts_any b V W h hK)
  have HG := Lib.hid (fun W h => groupsN_any S C L H least W h)
  have hV0 := Lib.hid hV
  have hS0 := Lib.hid hS
  have hbs := hV.lt
  obtain ⟨i0, hi, hz0, hz1, hz2⟩ := info_parts infoIn
  have hlen : Hid ((groupsA C L H least).1.length ≤ 64) := Lib.hid (by
    unfold groupsA
    split
    · simp
    · split
      · simp
      · rw [← outG_whole]
        unfold outG
        rw [List.length_map]
        exact Nat.le_trans (List.length_filter_le _ _) (filter_len_grps C L H wholeP))
  generalize groupsA C L H least = G at *
  obtain ⟨gs, er⟩ := G
  simp only at hlen
  obtain ⟨R, hR⟩ : ∃ R, hjF V (gs, er) = R := ⟨_, rfl⟩
  rw [hR]
  have hR' := Lib.hid hR
  obtain ⟨A1, A2, A3, n1, c1, n2, c2, n3, c3, rfl, _⟩ := hS.ex
  have hb0 := (Below.refl w.heap.size w).alloc (Nat.le_refl _) (.cells #[.slice A1 n1 c1, .slice A2 n2 c2, .slice A3 n3 c3] 52)
  have k0 := Blk.new w 52 #[.slice A1 n1 c1, .slice A2 n2 c2, .slice A3 n3 c3]
  have V0 := hV0.out.call hb0
  clear hS hR hV hK
  go_enter Tryz.func25, Tryz.ntmps25
  go_upto_region 1 with fail
  generalize w.alloc _ = w0 at *
  go_wp2_with fail
  refine (HC.out _ V0).mono ?_
  rintro e w1 ⟨⟨cs, hcs, rfl⟩, hb1⟩
  have B1 := hb0.trans (hb1.mono hb0.size)
  have k1 := k0.call hb1
  obtain ⟨q, hq⟩ : ∃ q, w1.heap.size = q := ⟨_, rfl⟩
  have hsz := hcs.size
  have kz := Blk.new w1 123 #[.int .i64 0, .int .i64 0, .int .i64 0, .int .i64 0, .int .i64 0]
  rw [hq] at kz
  have ht : (w1.alloc (.cells #[.int .i64 0, .int .i64 0, .int .i64 0, .int .i64 0, .int .i64 0] 123)).there q 0 cs.size := by rw [hsz]; exact z_there kz 0 5 (by simp)
  have hF2 := Far.puts (T := fun k => k = q) rfl cs.toList 0 w1 _ ((Far.refl _ w1).alloc (.cells #[.int .i64 0, .int .i64 0, .int .i64 0, .int .i64 0, .int .i64 0] 123))
  have hone := Go.all_oneCell_toArray (hcs.one)
  rw [Array.toArray_toList] at hone
  have hinf : (Tryz.prog.info? 123).map (·.size) = some cs.size := by rw [hsz]; exact infoVc
  clear kz HC
  go_upto_region 2 with (refine wpList_store_mid rfl 123 (.tmp 8) (.tmp 17) rfl q 0 cs rfl rfl ht hinf hone ?_)
  generalize World.setCells _ q 0 _ = w2 at *
  have hb2 := hF2.below (n := w1.heap.size) (Nat.le_refl _) (fun k hk e => by omega)
  have B2 := B1.trans (hb2.mono B1.size)
  have k2 := k1.call hb2
  have c2 := k2.cell
  have S2 := hS0.out.on B2
  clear hF2 ht hone hinf hcs hsz hb0 hb1 hb2 k0 k1
  go_wp2_with fail
  refine (HG.out _ S2).mono ?_
  rintro e w3 ⟨A, cap, rfl, hr, hfr, hb3⟩
  have B3 := B2.trans (hb3.mono B2.size)
  have V3 := Lib.hid (hV0.out.call B3)
  simp only at hr
  unfold hjF at hR'
  by_cases h0 : er = 0
  · subst h0
    have hR2 : Hid (gs.foldl hjS (V, [], 0) = R) := Lib.hid (by have := hR'.out; rwa [if_neg (by simp)] at this)
    obtain ⟨n, hn⟩ : ∃ n, gs.length = n := ⟨_, rfl⟩
    have hbB : b < w2.heap.size := by have := B2.size; omega
    simp only [hn] at hlen ⊢
    have hb3s := Lib.hid hb3.size
    clear HG S2 c2 k2 hR' B1 hb3 hS0
    go_wp2_with fail
    go_loopw [6, 7, 33] (fun v c i wr => ∃ (k : Nat) (l : List Int) (ec : Int) (U : Vm), k ≤ n ∧ i = .int .i64 k ∧ c = .int .i64 ec ∧ Hid ((gs.take k).foldl hjS (V, [], 0) = (U, l, ec)) ∧ l.length ≤ k ∧ wr.ownsRow w3.heap.size 3 1 v l.length (l.map (Value.int .i64)) ∧ Hid (SysIs wr b U) ∧ Far (fun k => k = b) w3 wr) (fun _ _ i _ => n - (intOf i).toNat)
    case atStart => exact ⟨0, [], 0, V, by omega, rfl, rfl, Lib.hid rfl, by simp, World.ownsRow_nil _ _ _ _, V3, Far.refl _ _⟩
    case round =>
      clear V3
      obtain ⟨k, l, ec, U, hk, rfl, rfl, hfl, hlk, hrow, hU, hF⟩ := hrel
      have hB3s := hb3s.out
      have hlen' := hlen.out
      by_cases hlt : k < n
      · have hlt' : decide ((k : Int) < (n : Int)) = true := by simpa using hlt
        have hts := take_snocI gs k (by omega)
        have hsn : (gs.take (k + 1)).foldl hjS (V, [], 0) = hjS (U, l, ec) (gs.getD k 0) := by rw [hts, List.foldl_append, hfl.out]; rfl
        obtain ⟨rb, ro, rfl, hrb, c5⟩ := hr.at_ (k := k) (by omega)
        have hrb2 := hfr rb ro rfl
        have d5 := hF.cell c5 (by show ¬ rb = b; omega)
        generalize gs.getD k 0 = x at *
        have hsn' : Hid ((gs.take (k + 1)).foldl hjS (V, [], 0) = ((Go.Pol.joinF U (wrap64 (x * 16))).2, if (Go.Pol.joinF U (wrap64 (x * 16))).1 = 0 then l ++ [x] else l, if (Go.Pol.joinF U (wrap64 (x * 16))).1 = 0 then ec else if ec = 0 then (Go.Pol.joinF U (wrap64 (x * 16))).1 else ec)) := Lib.hid hsn
        have HJ := Lib.hid (vjoin_any b (wrap64 (x * 16)) U wr hU.out)
        clear hts hsn c5
        go_wp2_with fail
        refine HJ.out.mono ?_
        rintro e w5 ⟨rfl, V5, F5⟩
        have V5' := Lib.hid V5
        have hrow5 := ownsRow_far hrow F5 (fun g hg h => by have := (hrow.lt g hg).1; omega)
        have hF5 := hF.trans F5
        have d6 := F5.cell d5 (by show ¬ rb = b; omega)
        generalize Go.Pol.joinF U (wrap64 (x * 16)) = J at *
        obtain ⟨je, jV⟩ := J
        simp only at hsn' V5'
        have hsn2 := hsn'.out
        clear HJ hU hrow hF F5 V5 hsn' d5
        by_cases hj : je = 0
        · subst hj
          rw [if_pos rfl, if_pos rfl] at hsn2
          have hsn3 := Lib.hid hsn2
          clear hsn2
          obtain ⟨ll, hll⟩ : ∃ ll, l.length = ll := ⟨_, rfl⟩
          rw [hll] at hrow5 hlk
          have kN := Blk.new w5 3 #[.int .i64 x]
          have hbN : Below w5.heap.size w5 (w5.alloc (.cells #[.int .i64 x] 3)) := (Below.refl _ _).alloc (Nat.le_refl _) _
          have hs5 := hF5.size
          go_wp2_with (refine wpList_append_own _ rfl (.tmp 44) (.tmp 46) 50 rfl w3.heap.size 3 i0 (.int .i64 0) 1 8 Tryz.underlying50 hi hz0 hz1 hz2 rfl (by decide) _ ll (l.map (Value.int .i64)) rfl (hrow5.alloc _) ⟨w5.heap.size, 0, none⟩ 1 1 [.int .i64 x] rfl rfl (news_i kN) ints_one (by unfold maxLen; omega) (by omega) (by simp; omega) ?_; intro v' w7 hown' hgrow _; rw [show l.map (Value.int .i64) ++ [Value.int .i64 x] = (l ++ [x]).map (Value.int .i64) by simp] at hown')
          go_roundw
          case rel =>
            have F7 : Far (fun k => w3.heap.size ≤ k) w5 w7 := (Far.of_below hbN).grown hgrow (fun g hg hlt => (hrow5.lt g hg).1)
            have F37 : Far (fun k => k = b) w3 w7 := hF5.trans' F7 (fun i hi h => by omega)
            refine ⟨k + 1, l ++ [x], ec, jV, by omega, by go_num, rfl, hsn3, by rw [List.length_append, List.length_singleton, hll]; omega, by rw [List.length_append, List.length_singleton, hll]; exact hown', ?_, ?_⟩
            · have F8 := (Far.of_below hbN).grown hgrow (T := fun k => Value.ownBlock _ = some k) (fun g hg _ => hg)
              exact Lib.hid (V5'.out.far F8 (fun h => by have := (hrow5.lt b h).1; omega) (fun _ _ _ _ _ _ g _ _ _ hc hg => hc.elim fun cr hcr => own_other hrow5 hg hcr (by decide)))
            · exact F37
          case measure => simp [intOf]; omega
        · have hj' : (je == 0) = false := by simpa using hj
          rw [if_neg hj, if_neg hj] at hsn2
          by_cases he : ec = 0
          · subst he
            rw [if_pos rfl] at hsn2
            have hsn3 := Lib.hid hsn2
            clear hsn2
            go_wp2_with fail
            go_roundw
            case rel => exact ⟨k + 1, l, je, jV, by omega, by go_num, rfl, hsn3, by omega, hrow5, V5', hF5⟩
            case measure => simp [intOf]; omega
          · have he' : (ec == 0) = false := by simpa using he
            rw [if_neg he] at hsn2
            have hsn3 := Lib.hid hsn2
            clear hsn2
            go_wp2_with fail
            go_roundw
            case rel => exact ⟨k + 1, l, ec, jV, by omega, by go_num, rfl, hsn3, by omega, hrow5, V5', hF5⟩
            case measure => simp [intOf]; omega
      · obtain rfl : k = n := by omega
        have hlt' : decide ((k : Int) < (k : Int)) = false := by simp
        have hR3 : R = (U, l, ec) := by rw [← hR2.out, ← hfl.out, List.take_of_length_le (by omega)]
        subst hR3
        obtain ⟨A', cap', rfl, hru, _, _, hfr2, _⟩ := own_Rd hrow
        have FF : Far (fun k => k = b) w wr := (Far.of_below B3).trans hF
        go_wp2_with fail
        go_ret2
        exact ⟨A', cap', rfl, hru, fun g o e => by have := hfr2 g o e; have := B3.size; omega, hU.out, FF⟩
  · have h0' : (er != 0) = true := by simpa using h0
    have hR2 := hR'.out
    rw [if_pos h0] at hR2
    subst hR2
    clear HG S2 c2 k2 hR' B1
    go_wp2_with fail
    go_ret2
    exact ⟨none, 0, rfl, RI.nil, fun _ _ h => (by cases h), V3.out, .of_below B3⟩
end Go.Proofs.YtefnnfcfigcikaaGreat
namespace Go.Pol
open Go
theorem splitG_spec (H : List Int) : ∀ (l o : List Int), l.Pairwise (· < ·) → o.Pairwise (· < ·) → (∀ g ∈ o, ∀ p ∈ l, g ≤ p / 16) →
    (l.foldl (stepS H) o).Pairwise (· < ·) ∧ ∀ g, g ∈ l.foldl (stepS H) o ↔ g ∈ o ∨ (g ∈ H ∧ ∃ p ∈ l, p / 16 = g)
  | [], o, _, ho, _ => ⟨ho, fun g => by simp⟩
  | p :: r, o, hl, ho, hle => by
    obtain ⟨hp, hr⟩ := List.pairwise_cons.1 hl
    rw [List.foldl_cons]
    by_cases hc : (decide (p / 16 ∈ H) && !decide (p / 16 ∈ o)) = true
    · have hs : stepS H o p = o ++ [p / 16] := by unfold stepS; rw [if_pos hc]
      simp only [Bool.and_eq_true, decide_eq_true_eq, Bool.not_eq_true', decide_eq_false_iff_not] at hc
      have ho2 : (o ++ [p / 16]).Pairwise (· < ·) := by
        rw [List.pairwise_append]
        refine ⟨ho, List.pairwise_singleton _ _, fun g hg q hq => ?_⟩
        rw [List.mem_singleton.1 hq]
        have h1 := hle g hg p (by simp)
        have h2 : g ≠ p / 16 := fun e => hc.2 (e ▸ hg)
        omega
      obtain ⟨h1, h2⟩ := splitG_spec H r (o ++ [p / 16]) hr ho2 (fun g hg q hq => by
        have hpq := hp q hq
        rcases List.mem_append.1 hg with h | h
        · exact hle g h q (by simp [hq])
        · rw [List.mem_singleton.1 h]; omega)
      rw [hs]
      refine ⟨h1, fun g => ?_⟩
      rw [h2 g]
      constructor
      · rintro (h | ⟨h, q, hq, e⟩)
        · rcases List.mem_append.1 h with h | h
          · exact .inl h
          · rw [List.mem_singleton.1 h]; exact .inr ⟨hc.1, p, by simp, rfl⟩
        · exact .inr ⟨h, q, by simp [hq], e⟩
      · rintro (h | ⟨h, q, hq, e⟩)
        · exact .inl (by simp [h])
        · rcases List.mem_cons.1 hq with rfl | hq
          · exact .inl (by simp [e])
          · exact .inr ⟨h, q, hq, e⟩
    · have hs : stepS H o p = o := by unfold stepS; rw [if_neg hc]
      have hc2 : p / 16 ∈ H → p / 16 ∈ o := by
        intro h
        by_cases h2 : p / 16 ∈ o
        · exact h2
        · exact absurd (by simp [h, h2]) hc
      obtain ⟨h1, h2⟩ := splitG_spec H r o hr ho (fun g hg q hq => hle g hg q (by simp [hq]))
      rw [hs]
      refine ⟨h1, fun g => ?_⟩
      rw [h2 g]
      constructor
      · rintro (h | ⟨h, q, hq, e⟩)
        · exact .inl h
        · exact .inr ⟨h, q, by simp [hq], e⟩
      · rintro (h | ⟨h, q, hq, e⟩)
        · exact .inl h
        · rcases List.mem_cons.1 hq with rfl | hq
          · exact .inl (e ▸ hc2 (e ▸ h))
          · exact .inr ⟨h, q, hq, e⟩
theorem touch_iff {ps : List Sp} (h : Can ps) (g : Int) : 0 < grpF ps g ↔ ∃ p ∈ pagesOf ps, p / 16 = g := by
  rw [← cntP_pages h g]
  unfold cntP
  rw [show (0 : Int) = ((0 : Nat) : Int) from rfl, Int.ofNat_lt, List.countP_pos_iff]
  simp
theorem split_eq (C L : List Sp) (H : List Int) (ps : List Sp) : splitA C L H ps = splitB C L H ps := by
  by_cases h1 : chkH C L H = 0
  · by_cases h2 : chkS ps = 0
    · have hcan := chkS_zero.1 h2
      have : splitG H (pagesOf ps) = touchF ps H := by
        obtain ⟨a, b⟩ := splitG_spec H (pagesOf ps) [] (pages_lt hcan) .nil (fun _ h => by cases h)
        refine asc_eq a ((hugOk_lt (chkH_zero.1 h1).2.2.2.2).filter _) fun g => ?_
        show g ∈ (pagesOf ps).foldl (stepS H) [] ↔ g ∈ H.filter fun g => decide (0 < grpF ps g)
        rw [b g, List.mem_filter, decide_eq_true_eq, touch_iff hcan]
        simp
      simp only [splitA, splitB, this]
    · simp [splitA, splitB, h1, h2]
  · simp [splitA, splitB, h1]
theorem splitB_len (C L : List Sp) (H : List Int) (ps : List Sp) : (splitB C L H ps).1.length ≤ 64 := by
  unfold splitB
  by_cases h1 : chkH C L H = 0
  · rw [if_neg (by simp [h1])]
    split
    · simp
    · split
      · simp
      · exact Nat.le_trans (touchF_len _ _) (huge_len h1)
  · rw [if_pos h1]; simp
end Go.Pol
namespace Go.Pol
open Go Go.RowKit
/-- a run: its first page, its pages, their kind -/
abbrev Rn := Int × Int × Int
def rn0 : Rn := (0, 0, 0)
def rnC (x : Rn) : List Value := [.int .i64 x.1, .int .i64 x.2.1, .int .i64 x.2.2]
theorem rnC_len (x : Rn) : (rnC x).length = 3 := rfl
abbrev rnV (x : Rn) : Value := .agg #[.int .i64 x.1, .int .i64 x.2.1, .int .i64 x.2.2]
abbrev rnA (x : Rn) : Array Value := #[rnV x]
theorem rnC_one (us : List Rn) : ∀ u ∈ fl rnC us, u.oneCell' = true := by
  intro u hu
  simp only [fl, List.mem_flatMap, rnC, List.mem_cons, List.not_mem_nil, or_false] at hu
  obtain ⟨x, _, rfl | rfl | rfl⟩ := hu <;> rfl
def bumpR (l : List Rn) : List Rn := match l.reverse with
  | [] => []
  | x :: r => r.reverse ++ [(x.1, x.2.1 + 1, x.2.2)]
theorem bumpR_snoc (l : List Rn) (x : Rn) : bumpR (l ++ [x]) = l ++ [(x.1, x.2.1 + 1, x.2.2)] := by simp [bumpR]
theorem bumpR_len (l : List Rn) : (bumpR l).length = l.length := by
  unfold bumpR
  split
  · rename_i h; rw [List.reverse_eq_nil_iff] at h; rw [h]
  · rename_i x r h
    have : l = r.reverse ++ [x] := by rw [← List.reverse_reverse l, h, List.reverse_cons]
    rw [this]; simp
theorem bumpR_app (a t : List Rn) (ht : t ≠ []) : bumpR (a ++ t) = a ++ bumpR t ∧ bumpR t ≠ [] := by
  obtain ⟨l, x, rfl⟩ : ∃ l x, t = l ++ [x] := ⟨t.dropLast, t.getLast ht, (List.dropLast_concat_getLast ht).symm⟩
  rw [← List.append_assoc, bumpR_snoc, bumpR_snoc, List.append_assoc]
  exact ⟨rfl, by simp⟩
/-- the runs of the first pages -/
def vrunsL (V : Vm) : Nat → List Rn
  | 0 => []
  | k + 1 => if (V.pg k).kind = 0 then vrunsL V k else if 0 < k ∧ (V.pg (k - 1)).kind = (V.pg k).kind then bumpR (vrunsL V k) else vrunsL V k ++ [((k : Int), 1, (V.pg k).kind)]
theorem vrunsL_succ (V : Vm) (k : Nat) : vrunsL V (k + 1) = if (V.pg k).kind = 0 then vrunsL V k else if 0 < k ∧ (V.pg (k - 1)).kind = (V.pg k).kind then bumpR (vrunsL V k) else vrunsL V k ++ [((k : Int), 1, (V.pg k).kind)] := rfl
theorem vrunsL_len (V : Vm) : ∀ k, (vrunsL V k).length ≤ k
  | 0 => Nat.le_refl _
  | k + 1 => by
    have := vrunsL_len V k
    unfold vrunsL
    split
    · omega
    · split
      · rw [bumpR_len]; omega
      · rw [List.length_append, List.length_singleton]; omega
/-- a page where no run goes on -/
def bdy (V : Vm) (p : Nat) : Prop := p = 0 ∨ (V.pg (p - 1)).kind ≠ (V.pg p).kind ∨ 1024 ≤ p
theorem vruns_same {V : Vm} {p : Nat} {c : Int} (hb : p = 0 ∨ (V.pg (p - 1)).kind ≠ (V.pg p).kind) (hc : c ≠ 0) : ∀ m, (∀ q, p ≤ q → q < p + (m + 1) → (V.pg q).kind = c) → vrunsL V (p + (m + 1)) = vrunsL V p ++ [((p : Int), ((m + 1 : Nat) : Int), c)]
  | 0, h => by
    have h0 := h p (by omega) (by omega)
    rw [Nat.zero_add, vrunsL_succ, if_neg (by rw [h0]; exact hc), if_neg (by
      rintro ⟨h1, h2⟩
      rcases hb with h3 | h3
      · omega
      · exact h3 h2), h0]
    rfl
  | m + 1, h => by
    have ih := vruns_same hb hc m (fun q h1 h2 => h q h1 (by omega))
    have h0 := h (p + (m + 1)) (by omega) (by omega)
    have h1 := h (p + (m + 1) - 1) (by omega) (by omega)
    rw [show p + (m + 1 + 1) = p + (m + 1) + 1 by omega, vrunsL_succ, if_neg (by rw [h0]; exact hc), if_pos ⟨by omega, by rw [h0, h1]⟩, ih, bumpR_snoc]
    have e : ((m + 1 : Nat) : Int) + 1 = ((m + 1 + 1 : Nat) : Int) := by omega
    rw [← e]
theorem vruns_free {V : Vm} {p : Nat} : ∀ m, (∀ q, p ≤ q → q < p + m → (V.pg q).kind = 0) → vrunsL V (p + m) = vrunsL V p
  | 0, _ => rfl
  | m + 1, h => by
    rw [← Nat.add_assoc, vrunsL_succ, if_pos (h (p + m) (by omega) (by omega))]
    exact vruns_free m (fun q h1 h2 => h q h1 (by omega))
theorem vruns_pre {V : Vm} {q : Nat} (hb : q = 0 ∨ (V.pg (q - 1)).kind ≠ (V.pg q).kind) : ∀ m, ∃ t, vrunsL V (q + m) = vrunsL V q ++ t ∧ (0 < m → (V.pg (q + m - 1)).kind ≠ 0 → t ≠ [])
  | 0 => ⟨[], by simp, fun h => absurd h (by omega)⟩
  | m + 1 => by
    obtain ⟨t, h1, h2⟩ := vruns_pre hb m
    have e : q + (m + 1) - 1 = q + m := by omega
    rw [e]
    rw [← Nat.add_assoc, vrunsL_succ]
    by_cases hk : (V.pg (q + m)).kind = 0
    · rw [if_pos hk]
      exact ⟨t, h1, fun _ h => absurd hk h⟩
    · rw [if_neg hk]
      by_cases hs : 0 < q + m ∧ (V.pg (q + m - 1)).kind = (V.pg (q + m)).kind
      · rw [if_pos hs]
        have hm : 0 < m := by
          rcases Nat.eq_zero_or_pos m with h | h
          · subst h
            rcases hb with h3 | h3
            · omega
            · exact absurd hs.2 h3
          · exact h
        have ht := h2 hm (by rw [hs.2]; exact hk)
        obtain ⟨b1, b2⟩ := bumpR_app (vrunsL V q) t ht
        exact ⟨bumpR t, by rw [h1, b1], fun _ _ => b2⟩
      · rw [if_neg hs]
        exact ⟨t ++ [(((q + m : Nat) : Int), 1, (V.pg (q + m)).kind)], by rw [h1, List.append_assoc], fun _ _ => by simp⟩
theorem vruns_prefix {V : Vm} {q : Nat} (hb : bdy V q) (hq : q ≤ 1024) : vrunsL V q <+: vrunsL V 1024 := by
  by_cases h : q = 1024
  · rw [h]; exact List.prefix_refl _
  · obtain ⟨t, ht, _⟩ := vruns_pre (V := V) (q := q) (hb.elim .inl (fun h => h.elim .inr (fun h => by omega))) (1024 - q)
    rw [show q + (1024 - q) = 1024 by omega] at ht
    exact ⟨t, ht.symm⟩
/-- the first pages of huge groups -/
def hugL (V : Vm) : Nat → List Int
  | 0 => []
  | k + 1 => if k % 16 = 0 ∧ (V.pg k).huge = true then hugL V k ++ [(k : Int)] else hugL V k
theorem hugL_len (V : Vm) : ∀ k, (hugL V k).length ≤ k
  | 0 => Nat.le_refl _
  | k + 1 => by
    have := hugL_len V k
    unfold hugL
    split
    · rw [List.length_append, List.length_singleton]; omega
    · omega
/-- does a page have a byte that is not zero? -/
def nzB (g : Pg) : Bool := (List.range 64).any fun k => g.byt k != 0
/-- the pages with bytes -/
def datL (V : Vm) : Nat → List Nat
  | 0 => []
  | k + 1 => if nzB (V.pg k) = true then datL V k ++ [k] else datL V k
theorem datL_len (V : Vm) : ∀ k, (datL V k).length ≤ k
  | 0 => Nat.le_refl _
  | k + 1 => by
    have := datL_len V k
    unfold datL
    split
    · rw [List.length_append, List.length_singleton]; omega
    · omega
def bytL (g : Pg) : List Value := (List.range 64).map fun k => .int .u8 (g.byt k)
theorem bytL_len (g : Pg) : (bytL g).length = 64 := by simp [bytL]
def daC (V : Vm) (p : Nat) : List Value := .int .i64 p :: bytL (V.pg p)
theorem daC_len (V : Vm) (p : Nat) : (daC V p).length = 65 := by simp [daC, bytL_len]
theorem bytL_at (g : Pg) {k : Nat} (hk : k < 64) : (bytL g)[k]? = some (.int .u8 (g.byt k)) := by
  unfold bytL
  rw [List.getElem?_map, List.getElem?_range hk]; rfl
theorem bytL_one (g : Pg) : ∀ x ∈ bytL g, x.oneCell' = true := by
  intro x hx
  simp only [bytL, List.mem_map] at hx
  obtain ⟨k, _, rfl⟩ := hx
  rfl
theorem daC_one (V : Vm) (us : List Nat) : ∀ u ∈ fl (daC V) us, u.oneCell' = true := by
  intro u hu
  simp only [fl, List.mem_flatMap, daC, List.mem_cons] at hu
  obtain ⟨x, _, rfl | h⟩ := hu
  · rfl
  · exact bytL_one _ u h
/-- zero bytes are those of a page without any -/
theorem nzB_false {g : Pg} : nzB g = false ↔ ∀ k, k < 64 → g.byt k = 0 := by
  unfold nzB
  rw [Bool.eq_false_iff, Ne, List.any_eq_true]
  constructor
  · intro h k hk
    by_cases hz : g.byt k = 0
    · exact hz
    · exact absurd ⟨k, List.mem_range.2 hk, by simpa using hz⟩ h
  · rintro h ⟨k, hk, hz⟩
    rw [h k (List.mem_range.1 hk)] at hz
    simp at hz
end Go.Pol
