/- Merged texts. Walks of the reference of layer 5: what is wrong with a rule, with a plan; is a call refused; how many are. Walks of the reference of layer 5: is a call refused; how many are; is a state one. Walks of the reference of layer 5: is a state one; a plan begun; the next call. Walks of the reference of layer 6: is a page one; are pages of a kind; pages put anew. Walks of the reference of layer 6: a call counted, and perhaps refused; changes of pages. Walks of the reference of layer 6: Write, Join, Split, Plan, New. Walk of layer 13: Score. Walks of layer 13: the reference's Score, touched, Split. Walks of layer 13: the reference's touched, Split. Walks of layer 11 over a system: Lift. Walks of layer 11 over no system: Lift; how many guards a plan has. Walks of layer 11 over a system: what Place defers. Walks of the reference of layer 6: Plan, New. Walks of the reference of layer 6: the two regions of Save that draw their order, over any slots. -/
import Derived.Test.YtdepkmpilipolaaGreatA5
namespace Go.Pol
open Go Go.RowKit
/-- is a number in a range? -/
def inB (n a b : Int) : Bool := decide (a ≤ n) && decide (n ≤ b)
theorem inB_true {n a b : Int} : inB n a b = true ↔ a ≤ n ∧ n ≤ b := by simp [inB]
theorem inB_false {n a b : Int} : inB n a b = false ↔ ¬ (a ≤ n ∧ n ≤ b) := by rw [← inB_true]; simp
theorem rfd_step (l : List Ru) (k n : Int) (i : Nat) (h : i < l.length) : (l.drop i).any (fun x => x.1 == k && rfu x n) = ((l.getD i ru0).1 == k && rfu (l.getD i ru0) n || (l.drop (i + 1)).any (fun x => x.1 == k && rfu x n)) := by
  rw [Go.Pol.drop_cons ru0 l i h, List.any_cons]
end Go.Pol
namespace Go.Proofs.YtdepkmpilipolaaGreat
open Go Go.Proofs Go.RowKit Go.Pol Go.Shelf
attribute [local go_sem] Oper.semAt_some Go.Pol.wide_fn Go.Pol.wide_depth Go.Pol.wide_fn' Go.Pol.wide_depth'

theorem in_any (n a b : Int) (w : World) : Calls Tryz.prog 100 #[.int .i64 n, .int .i64 a, .int .i64 b] w fun e w' => e = .returned (.bool (inB n a b)) ∧ w = w' := by
  by_cases h1 : a ≤ n
  · have d1 : decide (a ≤ n) = true := by simpa using h1
    have hE : inB n a b = decide (n ≤ b) := by simp [inB, h1]
    rw [hE]
    clear hE h1
    go_enter Tryz.func100, Tryz.ntmps100
    go_wp2_with fail
    go_ret
    exact ⟨rfl, rfl⟩
  · have d1 : decide (a ≤ n) = false := by simpa using h1
    have hE : inB n a b = false := by simp [inB, h1]
    rw [hE]
    clear hE h1
    go_enter Tryz.func100, Tryz.ntmps100
    go_wp2_with fail
    go_ret
    exact ⟨rfl, rfl⟩
theorem rrule_any (x : Ru) (w : World) : Calls Tryz.prog 93 #[ruV x] w fun e w' => e = .returned (.int .i64 (ruleE x)) ∧ Below w.heap.size w w' := by
  obtain ⟨k, f, e, t⟩ := x
  have hb0 := (Below.refl w.heap.size w).alloc (Nat.le_refl _) (.cells #[.int .i64 k, .int .i64 f, .int .i64 e, .int .i64 t] 88)
  have k0 := Blk.new w 88 #[.int .i64 k, .int .i64 f, .int .i64 e, .int .i64 t]
  have c0 := k0.cell
  clear k0
  obtain ⟨R, hR⟩ : ∃ R, ruleE (k, f, e, t) = R := ⟨_, rfl⟩
  rw [hR]
  unfold ruleE at hR
  simp only at hR
  have H1 := Lib.hid (fun W => in_any k 0 6 W)
  have H2 := Lib.hid (fun W => in_any f 1 10000 W)
  have H3 := Lib.hid (fun W => in_any e 0 12 W)
  have H4 := Lib.hid (fun W => in_any t 0 1000 W)
  have hE : Hid ((inB k 0 6 = false → R = 2) ∧ (inB k 0 6 = true → (inB f 1 10000 && inB e 0 12 && inB t 0 1000) = false → R = 7) ∧
      (inB k 0 6 = true → inB f 1 10000 = true → inB e 0 12 = true → inB t 0 1000 = true → R = if e = 0 ∧ t ≠ 1 then 6 else 0)) := Lib.hid (by
    simp only [Bool.and_eq_false_iff, inB_false, inB_true]
    refine ⟨fun h => ?_, fun h h2 => ?_, fun h h2 h3 h4 => ?_⟩
    · rw [← hR, if_pos (by omega)]
    · rw [← hR, if_neg (by omega), if_pos (by omega)]
    · rw [← hR, if_neg (by omega), if_neg (by omega)])
  generalize inB k 0 6 = b1 at *
  generalize inB f 1 10000 = b2 at *
  generalize inB e 0 12 = b3 at *
  generalize inB t 0 1000 = b4 at *
  clear hR
  go_enter Tryz.func93, Tryz.ntmps93
  go_wp2_with fail
  refine (H1.out _).mono ?_
  rintro e9 w9 ⟨rfl, rfl⟩
  cases b1 with
  | false =>
    have hr := hE.out.1 rfl
    subst hr
    go_wp2_with fail
    go_ret
    exact ⟨rfl, hb0⟩
  | true =>
    have hE2 := Lib.hid (hE.out.2.1 rfl)
    have hE3 := Lib.hid (hE.out.2.2 rfl)
    clear hE H1
    go_wp2_with fail
    refine (H2.out _).mono ?_
    rintro e9 w9 ⟨rfl, rfl⟩
    cases b2 with
    | false =>
      have hr := hE2.out rfl
      subst hr
      go_wp2_with fail
      go_ret
      exact ⟨rfl, hb0⟩
    | true =>
      have hE4 := Lib.hid (hE3.out rfl)
      clear hE3 H2
      go_wp2_with fail
      refine (H3.out _).mono ?_
      rintro e9 w9 ⟨rfl, rfl⟩
      cases b3 with
      | false =>
        have hr := hE2.out rfl
        subst hr
        go_wp2_with fail
        go_ret
        exact ⟨rfl, hb0⟩
      | true =>
        have hE5 := Lib.hid (hE4.out rfl)
        clear hE4 H3
        go_wp2_with fail
        refine (H4.out _).mono ?_
        rintro e9 w9 ⟨rfl, rfl⟩
        cases b4 with
        | false =>
          have hr := hE2.out rfl
          subst hr
          go_wp2_with fail
          go_ret
          exact ⟨rfl, hb0⟩
        | true =>
          have hr := hE5.out rfl
          clear hE5 hE2 H4
          by_cases c9 : e = 0
          · subst c9
            by_cases c10 : t = 1
            · have d10 : (t != 1) = false := by simpa using c10
              rw [if_neg (by omega)] at hr
              subst hr
              clear c10
              go_wp2_with fail
              go_ret
              exact ⟨rfl, hb0⟩
            · have d10 : (t != 1) = true := by simpa using c10
              rw [if_pos ⟨rfl, c10⟩] at hr
              subst hr
              clear c10
              go_wp2_with fail
              go_ret
              exact ⟨rfl, hb0⟩
          · have d9 : (e == 0) = false := by simpa using c9
            rw [if_neg (by omega)] at hr
            subst hr
            clear c9
            go_wp2_with fail
            go_ret
            exact ⟨rfl, hb0⟩
set_option maxRecDepth 100000 in
theorem rplanCheck_any (A : Option Addr) (n cap : Nat) (l : List Ru) (w : World) (hn : l.length = n) (hr : Rd w w.heap.size A (fl ruC l)) :
    Calls Tryz.prog 77 #[.agg #[.slice A n cap]] w fun e w' => e = .returned (.tuple #[.int .i64 (chkR l).1, .int .i64 (chkR l).2]) ∧ Below w.heap.size w w' := by
  have hb0 := (Below.refl w.heap.size w).alloc (Nat.le_refl _) (.cells #[.slice A n cap] 25)
  have k0 := Blk.new w 25 #[.slice A n cap]
  have c0 := k0.cell
  have r0 := hr.on_ hb0
  obtain ⟨R, hR⟩ : ∃ R, chkR l = R := ⟨_, rfl⟩
  rw [hR]
  obtain ⟨ri, re⟩ := R
  unfold chkR at hR
  have hn' := Lib.hid hn
  by_cases h50 : 50 < n
  · have d1 : decide (50 < (n : Int)) = true := by rw [decide_eq_true_eq]; omega
    have hE : Hid ((ri, re) = (0, 3)) := Lib.hid (by rw [← hR, if_pos (by omega)])
    clear hR hr r0 k0 hn h50
    go_enter Tryz.func77, Tryz.ntmps77
    go_wp2_with fail
    go_ret2
    have h := hE.out
    simp only [Prod.mk.injEq] at h
    exact ⟨by rw [h.1, h.2]; rfl, hb0⟩
  · have d1 : decide (50 < (n : Int)) = false := by rw [decide_eq_false_iff_not]; omega
    rw [if_neg (by omega)] at hR
    have hR' := Lib.hid hR
    clear hR hr hn
    obtain ⟨s, hs⟩ : ∃ s, w.heap.size = s := ⟨_, rfl⟩
    have HR := Lib.hid (fun x W => rrule_any x W)
    have hs' := Lib.hid hs
    go_enter Tryz.func77, Tryz.ntmps77
    go_upto_region 3 with fail
    generalize w.alloc (.cells #[.slice A n cap] 25) = w0 at *
    rw [hs] at hb0 k0 c0
    try simp only [hs]
    clear hs
    have k0' := Lib.hid k0
    clear k0
    go_wp2_with fail
    go_loopw [4] (fun u wr => ∃ i : Nat, i ≤ n ∧ u = .int .i64 i ∧ Hid (badF i (l.drop i) = (ri, re)) ∧ Below w0.heap.size w0 wr) (fun u _ => n - (intOf u).toNat)
    case atStart => exact ⟨0, by omega, rfl, Lib.hid hR'.out, Below.refl _ _⟩
    case round =>
      clear hR' c0
      obtain ⟨i, hi, rfl, hR, hB⟩ := hrel
      have kr := k0'.out.call hB
      have cr := kr.cell
      by_cases hlt : i < n
      · have hlt' : decide ((i : Int) < (n : Int)) = true := by simpa using hlt
        have hst := badF_step l i (by have := hn'.out; omega)
        rw [hR.out] at hst
        obtain ⟨b, o, rfl, hb, hc⟩ := (r0.on_ hB).elem ruC_len (by omega) ru0 (k := i) (by have := hn'.out; omega)
        generalize l.getD i ru0 = x at *
        have hcl := HR.out x
        obtain ⟨k, f, e, t⟩ := x
        have x0 := hc 0 _ rfl
        have x1 := hc 1 _ rfl
        have x2 := hc 2 _ rfl
        have x3 := hc 3 _ rfl
        simp only [Nat.add_zero] at x0
        generalize ruleE (k, f, e, t) = er at *
        have hst' := Lib.hid hst
        have hcl' := Lib.hid hcl
        have hin : (i : Int) < (n : Int) := by omega
        clear hc hst hcl
        by_cases he : er = 0
        · subst he
          have hst2 : Hid (badF (i + 1) (l.drop (i + 1)) = (ri, re)) := Lib.hid (by rw [hst'.out, if_neg (by simp)])
          clear hst'
          go_wp2_with fail
          refine (hcl'.out _).mono ?_
          rintro e9 w1 ⟨rfl, hb1⟩
          go_wp2_with fail
          go_roundw
          case rel => exact ⟨i + 1, by omega, by go_num, hst2, hB.trans (hb1.mono hB.size)⟩
          case measure => simp [intOf]; omega
        · have he' : (er != 0) = true := by simpa using he
          have hst2 : Hid ((ri, re) = ((i : Int), er)) := Lib.hid (by rw [hst'.out, if_pos he])
          clear hst' he
          go_wp2_with fail
          refine (hcl'.out _).mono ?_
          rintro e9 w1 ⟨rfl, hb1⟩
          go_wp2_with fail
          go_ret2
          have h := hst2.out
          simp only [Prod.mk.injEq] at h
          exact ⟨by rw [h.1, h.2]; rfl, by rw [hs'.out]; exact hb0.trans ((hB.trans (hb1.mono hB.size)).mono (by have := hb0.size; have := hs'.out; omega))⟩
      · obtain rfl : i = n := by omega
        have hlt' : decide ((i : Int) < (i : Int)) = false := by simp
        have hE : (0, 0) = (ri, re) := by
          have := hR.out
          rw [List.drop_of_length_le (by have := hn'.out; omega)] at this
          exact this
        simp only [Prod.mk.injEq] at hE
        obtain ⟨rfl, rfl⟩ := hE
        go_wp2_with fail
        go_ret2
        exact ⟨rfl, by rw [hs'.out]; exact hb0.trans (hB.mono (by have := hb0.size; have := hs'.out; omega))⟩
end Go.Proofs.YtdepkmpilipolaaGreat
namespace Go.Pol
open Go Go.RowKit
/-- a rule's call, as the reference looks for it -/
theorem rfu_ref {x : Ru} {n : Int} (hf : x.2.1 ≤ n) (he : x.2.2.1 ≠ 0) :
    rfu x n = ((x.2.1 + (n - x.2.1) / x.2.2.1 * x.2.2.1 == n) && (decide (x.2.2.2 = 0) || decide ((n - x.2.1) / x.2.2.1 < x.2.2.2))) := by
  have hm : (x.2.1 + (n - x.2.1) / x.2.2.1 * x.2.2.1 == n) = decide ((n - x.2.1) % x.2.2.1 = 0) := by
    rw [Bool.eq_iff_iff, beq_iff_eq, decide_eq_true_eq]
    have := Int.mul_ediv_add_emod (n - x.2.1) x.2.2.1
    rw [Int.mul_comm] at this
    omega
  unfold rfu
  rw [if_neg he, hm, decide_eq_true hf, Bool.true_and]
end Go.Pol
namespace Go.Proofs.YtdepkmpilipolaaGreat
open Go Go.Proofs Go.RowKit Go.Pol Go.Shelf
attribute [local go_sem] Oper.semAt_some Go.Pol.wide_fn Go.Pol.wide_depth Go.Pol.wide_fn' Go.Pol.wide_depth'

set_option maxHeartbeats 1600000 in
theorem refuses_any (x : Ru) (k n : Int) (w : World) (hx : ruleE x = 0) (hn : 1 ≤ n ∧ n ≤ 1000000) :
    Calls Tryz.prog 108 #[ruV x, .int .i64 k, .int .i64 n] w fun e w' => e = .returned (.bool (x.1 == k && rfu x n)) ∧ Below w.heap.size w w' := by
  obtain ⟨_, h1, h2, h3, h4⟩ := ruleE_zero.1 hx
  have hrf := fun a b => rfu_ref (x := x) (n := n) a b
  have hlow : n < x.2.1 → rfu x n = false := fun h => by unfold rfu; rw [decide_eq_false (by omega)]; rfl
  have hzero : x.2.1 ≤ n → x.2.2.1 = 0 → rfu x n = (n == x.2.1) := fun h h' => by
    unfold rfu; rw [decide_eq_true h, if_pos h', Bool.true_and]; rw [Bool.eq_iff_iff]; simp
  obtain ⟨xk, f, e, t⟩ := x
  simp only at h1 h2 h3 h4 hrf hlow hzero
  generalize rfu (xk, f, e, t) n = R at *
  have hb0 := (Below.refl w.heap.size w).alloc (Nat.le_refl _) (.cells #[.int .i64 xk, .int .i64 f, .int .i64 e, .int .i64 t] 88)
  have k0 := Blk.new w 88 #[.int .i64 xk, .int .i64 f, .int .i64 e, .int .i64 t]
  have c0 := k0.cell
  by_cases c1 : xk = k
  · subst c1
    have d1 : (xk != xk) = false := by simp
    by_cases c2 : n < f
    · have d2 : decide (n < f) = true := by simpa using c2
      have hE := Lib.hid (hlow c2)
      clear hrf hlow hzero hx h1 h2 h3 h4 c2 k0
      go_enter Tryz.func108, Tryz.ntmps108
      go_wp2_with fail
      go_ret
      exact ⟨z_ret_bool (by simp [hE.out]), hb0⟩
    · have d2 : decide (n < f) = false := by simpa using c2
      by_cases c3 : e = 0
      · subst c3
        have hE := Lib.hid (hzero (by omega) rfl)
        clear hrf hlow hzero hx h1 h2 h3 h4 c2 k0
        go_enter Tryz.func108, Tryz.ntmps108
        go_wp2_with fail
        go_ret
        exact ⟨z_ret_bool (by simp [hE.out]), hb0⟩
      · have d3 : (e == 0) = false := by simpa using c3
        have hE := hrf (by omega) c3
        obtain ⟨q, hq⟩ : ∃ q, (n - f) / e = q := ⟨_, rfl⟩
        have hq0 : 0 ≤ q := by rw [← hq]; exact Int.ediv_nonneg (by omega) (by omega)
        have hqe : q * e ≤ n - f := by rw [← hq]; exact Int.ediv_mul_le _ c3
        have hqe0 : 0 ≤ q * e := Int.mul_nonneg hq0 (by omega)
        have w1 : IntKind.i64.wrap (n - f) = n - f := by rw [IntKind.wrap_i64]; omega
        have w1' : wrap64 (n - f) = n - f := by unfold wrap64; omega
        have tq : Int.tdiv (n - f) e = q := by rw [Int.tdiv_eq_ediv_of_nonneg (by omega)]; exact hq
        have hqn : q ≤ n - f := by
          rw [← hq]
          exact Int.ediv_le_self _ (by omega)
        have w2 : wrap64 q = q := by unfold wrap64; omega
        have w3 : IntKind.i64.wrap (q * e) = q * e := by rw [IntKind.wrap_i64]; omega
        have w3' : wrap64 (q * e) = q * e := by unfold wrap64; omega
        have w4 : IntKind.i64.wrap (f + q * e) = f + q * e := by rw [IntKind.wrap_i64]; omega
        have w4' : wrap64 (f + q * e) = f + q * e := by unfold wrap64; omega
        rw [hq] at hE
        have hE' := Lib.hid hE
        have hne : e ≠ 0 := c3
        have hem1 : ¬ e = -1 := by omega
        clear hrf hlow hzero hx h1 h2 h3 h4 c2 k0 hq hqe hqe0 hqn hq0 hE c3
        by_cases c5 : f + q * e = n
        · have d5 : (f + q * e == n) = true := by simpa using c5
          by_cases c4 : t = 0
          · subst c4
            have hE2 : Hid (true = R) := Lib.hid (by rw [hE'.out, d5]; rfl)
            clear hE' c5
            go_enter Tryz.func108, Tryz.ntmps108
            go_wp2_with fail
            go_ret
            exact ⟨z_ret_bool (by simp [← hE2.out]), hb0⟩
          · have d4 : (t == 0) = false := by simpa using c4
            have hE2 : Hid (decide (q < t) = R) := Lib.hid (by rw [hE'.out, d5, decide_eq_false c4]; rfl)
            clear hE' c5 c4
            go_enter Tryz.func108, Tryz.ntmps108
            go_wp2_with fail
            go_ret
            exact ⟨z_ret_bool (by simp [← hE2.out]), hb0⟩
        · have d5 : (f + q * e == n) = false := by simpa using c5
          have hE2 : Hid (false = R) := Lib.hid (by rw [hE'.out, d5]; rfl)
          clear hE' c5
          go_enter Tryz.func108, Tryz.ntmps108
          go_wp2_with fail
          go_ret
          exact ⟨z_ret_bool (by simp [← hE2.out]), hb0⟩
  · have d1 : (xk != k) = true := by simpa using c1
    have d2 : (xk == k) = false := by simpa using c1
    clear hrf hlow hzero hx h1 h2 h3 h4 k0
    go_enter Tryz.func108, Tryz.ntmps108
    go_wp2_with fail
    go_ret
    exact ⟨z_ret_bool (by simp), hb0⟩
set_option maxRecDepth 100000 in
set_option maxHeartbeats 1600000 in
theorem rrefused_any (A : Option Addr) (n cap : Nat) (l : List Ru) (k nn : Int) (w : World) (hn : l.length = n) (hm : n ≤ 1000) (hok : ∀ x ∈ l, ruleE x = 0) (hnn : 1 ≤ nn ∧ nn ≤ 1000000) (hr : Rd w w.heap.size A (fl ruC l)) :
    Calls Tryz.prog 102 #[.agg #[.slice A n cap], .int .i64 k, .int .i64 nn] w fun e w' => e = .returned (.bool (rfd l k nn)) ∧ Below w.heap.size w w' := by
  have hb0 := (Below.refl w.heap.size w).alloc (Nat.le_refl _) (.cells #[.slice A n cap] 25)
  have k0 := Blk.new w 25 #[.slice A n cap]
  have r0 := hr.on_ hb0
  have HR := Lib.hid (fun (i : Nat) (hi : i < n) W => refuses_any (l.getD i ru0) k nn W (hok _ (z_getD_mem (by omega))) hnn)
  have hst := Lib.hid (fun i h => rfd_step l k nn i h)
  obtain ⟨R, hR⟩ : ∃ R, rfd l k nn = R := ⟨_, rfl⟩
  rw [hR]
  have hR' : Hid (l.any (fun x => x.1 == k && rfu x nn) = R) := Lib.hid hR
  have hn' := Lib.hid hn
  clear hR hr hn hok
  obtain ⟨s, hs⟩ : ∃ s, w.heap.size = s := ⟨_, rfl⟩
  have hs' := Lib.hid hs
  go_enter Tryz.func102, Tryz.ntmps102
  go_upto_region 1 with fail
  generalize w.alloc (.cells #[.slice A n cap] 25) = w0 at *
  rw [hs] at hb0 k0
  try simp only [hs]
  have k0' := Lib.hid k0
  clear k0 hs
  go_wp2_with fail
  go_loopw [7] (fun u wr => ∃ i : Nat, i ≤ n ∧ u = .int .i64 i ∧ Hid ((l.drop i).any (fun x => x.1 == k && rfu x nn) = R) ∧ Below w0.heap.size w0 wr) (fun u _ => n - (intOf u).toNat)
  case atStart => exact ⟨0, by omega, rfl, hR', Below.refl _ _⟩
  case round =>
    clear hR'
    obtain ⟨i, hi, rfl, hR, hB⟩ := hrel
    have kr := k0'.out.call hB
    have cr := kr.cell
    by_cases hlt : i < n
    · have hlt' : decide ((i : Int) < (n : Int)) = true := by simpa using hlt
      have hin : (i : Int) < (n : Int) := by omega
      have hs2 := hst.out i (by have := hn'.out; omega)
      rw [hR.out] at hs2
      have HRi := Lib.hid (HR.out i hlt)
      obtain ⟨b, o, rfl, hb, hc⟩ := (r0.on_ hB).elem ruC_len (by omega) ru0 (k := i) (by have := hn'.out; omega)
      generalize l.getD i ru0 = x at *
      obtain ⟨xk, f, e, t⟩ := x
      have x0 := hc 0 _ rfl
      have x1 := hc 1 _ rfl
      have x2 := hc 2 _ rfl
      have x3 := hc 3 _ rfl
      simp only [Nat.add_zero] at x0
      generalize ((xk, f, e, t).1 == k && rfu (xk, f, e, t) nn) = B at *
      have hs3 := Lib.hid hs2
      clear hc hs2 hR
      cases B with
      | true =>
        go_wp2_with fail
        refine (HRi.out _).mono ?_
        rintro e9 w1 ⟨rfl, hb1⟩
        go_wp2_with fail
        go_ret
        exact ⟨z_ret_bool (by rw [hs3.out]; rfl), by rw [hs'.out]; exact hb0.trans ((hB.trans (hb1.mono hB.size)).mono (by have := hb0.size; have := hs'.out; omega))⟩
      | false =>
        go_wp2_with fail
        refine (HRi.out _).mono ?_
        rintro e9 w1 ⟨rfl, hb1⟩
        go_wp2_with fail
        go_roundw
        case rel => exact ⟨i + 1, by omega, by go_num, Lib.hid (by rw [hs3.out]; rfl), hB.trans (hb1.mono hB.size)⟩
        case measure => simp [intOf]; omega
    · obtain rfl : i = n := by omega
      have hlt' : decide ((i : Int) < (i : Int)) = false := by simp
      have hE := hR.out
      rw [List.drop_of_length_le (by have := hn'.out; omega)] at hE
      have hE' : Hid (false = R) := Lib.hid hE
      clear hE hR
      go_wp2_with fail
      go_ret
      exact ⟨z_ret_bool hE'.out, by rw [hs'.out]; exact hb0.trans (hB.mono (by have := hb0.size; have := hs'.out; omega))⟩
set_option maxRecDepth 100000 in
set_option maxHeartbeats 1600000 in
theorem rhits_any (A : Option Addr) (n cap : Nat) (l : List Ru) (k : Int) (lim : Nat) (w : World) (hn : l.length = n) (hn1 : n ≤ 1000) (hok : ∀ x ∈ l, ruleE x = 0) (hl : lim ≤ 1000000) (hr : Rd w w.heap.size A (fl ruC l)) :
    Calls Tryz.prog 107 #[.agg #[.slice A n cap], .int .i64 k, .int .i64 lim] w fun e w' => e = .returned (.int .i64 (hitN l k lim)) ∧ Below w.heap.size w w' := by
  have hb0 := (Below.refl w.heap.size w).alloc (Nat.le_refl _) (.cells #[.slice A n cap] 25)
  have k0 := Blk.new w 25 #[.slice A n cap]
  have r0 := hr.on_ hb0
  have HR := Lib.hid (fun (i : Nat) (hi : i < lim) W (h : Rd W W.heap.size A (fl ruC l)) => rrefused_any A n cap l k ((i : Int) + 1) W hn hn1 hok ⟨by omega, by omega⟩ h)
  have hst := Lib.hid (fun i => show hitN l k (i + 1) = hitN l k i + if rfd l k ((i : Int) + 1) = true then 1 else 0 from rfl)
  have hbd := Lib.hid (fun i => hitN_bound l k i)
  have h00 : hitN l k 0 = 0 := rfl
  have h00' := Lib.hid h00
  clear hr hn hok h00
  obtain ⟨s, hs⟩ : ∃ s, w.heap.size = s := ⟨_, rfl⟩
  have hs' := Lib.hid hs
  generalize hitN l k = F at *
  go_enter Tryz.func107, Tryz.ntmps107
  go_upto_region 1 with fail
  generalize w.alloc (.cells #[.slice A n cap] 25) = w0 at *
  rw [hs] at hb0 k0
  try simp only [hs]
  have k0' := Lib.hid k0
  clear k0 hs
  go_wp2_with fail
  go_loopw [7, 8] (fun u v wr => ∃ (i : Nat) (c : Int), i ≤ lim ∧ u = .int .i64 c ∧ v = .int .i64 ((i : Int) + 1) ∧ Hid (c = F i) ∧ Below w0.heap.size w0 wr) (fun _ v _ => lim + 1 - (intOf v).toNat)
  case atStart => exact ⟨0, 0, by omega, rfl, rfl, Lib.hid h00'.out.symm, Below.refl _ _⟩
  case round =>
    obtain ⟨i, c, hi, rfl, rfl, hc, hB⟩ := hrel
    have kr := k0'.out.call hB
    have cr := kr.cell
    by_cases hlt : i < lim
    · have hlt' : decide ((i : Int) + 1 ≤ (lim : Int)) = true := by rw [decide_eq_true_eq]; omega
      have HRi := Lib.hid (HR.out i hlt wr (r0.on_ hB))
      have hs2 := hst.out i
      rw [← hc.out] at hs2
      have hcb := hbd.out i
      rw [← hc.out] at hcb
      generalize rfd l k ((i : Int) + 1) = B at *
      have hs3 := Lib.hid hs2
      have hwi : wrap64 ((i : Int) + 1 + 1) = (((i + 1 : Nat) : Int)) + 1 := by unfold wrap64; omega
      clear hs2 hc
      cases B with
      | true =>
        have hwc : wrap64 (c + 1) = c + 1 := by unfold wrap64; omega
        go_wp2_with fail
        refine HRi.out.mono ?_
        rintro e9 w1 ⟨rfl, hb1⟩
        go_wp2_with fail
        go_roundw
        case rel => exact ⟨i + 1, c + 1, by omega, rfl, rfl, Lib.hid (by rw [hs3.out]; rfl), hB.trans (hb1.mono hB.size)⟩
        case measure => simp [intOf]; omega
      | false =>
        go_wp2_with fail
        refine HRi.out.mono ?_
        rintro e9 w1 ⟨rfl, hb1⟩
        go_wp2_with fail
        go_roundw
        case rel => exact ⟨i + 1, c, by omega, rfl, rfl, Lib.hid (by rw [hs3.out]; simp), hB.trans (hb1.mono hB.size)⟩
        case measure => simp [intOf]; omega
    · obtain rfl : i = lim := by omega
      have hlt' : decide ((i : Int) + 1 ≤ (i : Int)) = false := by rw [decide_eq_false_iff_not]; omega
      go_wp2_with fail
      go_ret
      exact ⟨z_ret_int hc.out, by rw [hs'.out]; exact hb0.trans (hB.mono (by have := hb0.size; have := hs'.out; omega))⟩
end Go.Proofs.YtdepkmpilipolaaGreat
namespace Go.Proofs.YtdepkmpilipolaaGreat
open Go Go.Proofs Go.RowKit Go.Pol Go.Shelf
attribute [local go_sem] Oper.semAt_some Go.Pol.wide_fn Go.Pol.wide_depth Go.Pol.wide_fn' Go.Pol.wide_depth'

set_option maxRecDepth 100000 in
set_option maxHeartbeats 1600000 in
theorem rcheckState_any (A : Option Addr) (n cap : Nat) (S : Rf) (w : World) (hS : RfOk S) (hn : S.rules.length = n) (hr : Rd w w.heap.size A (fl ruC S.rules)) :
    Calls Tryz.prog 101 #[rfV (.slice A n cap) S.calls S.hits] w fun e w' => e = .returned (.int .i64 0) ∧ Below w.heap.size w w' := by
  obtain ⟨l, cs, hs⟩ := S
  obtain ⟨h1, h2, h3⟩ := hS
  simp only at h1 h2 h3 hn hr
  simp only
  obtain ⟨hlen, hok⟩ := chkR_zero.1 h1
  have hn50 : n ≤ 50 := by omega
  have HC := Lib.hid (fun W h => rplanCheck_any A n cap l W hn h)
  rw [h1] at HC
  generalize (chkR l).1 = ci at *
  have hb0 := (Below.refl w.heap.size w).alloc (Nat.le_refl _) (.cells (rfC (.slice A n cap) cs hs).toArray 51)
  have k0 := Blk.new w 51 (rfC (.slice A n cap) cs hs).toArray
  have r0 := hr.on_ hb0
  obtain ⟨s, hsz⟩ : ∃ s, w.heap.size = s := ⟨_, rfl⟩
  have hh2 := Lib.hid h2
  have hh3 := Lib.hid h3
  have hok' := Lib.hid hok
  have hn' := Lib.hid hn
  clear hr h1 h2 h3 hok hn
  unfold rfV rfC
  unfold rfC at hb0 k0 r0
  go_enter Tryz.func101, Tryz.ntmps101
  go_upto_region 1 with fail
  generalize w.alloc _ = w0 at *
  rw [hsz] at hb0 k0
  try simp only [hsz]
  have hsz' := Lib.hid hsz
  clear hsz
  have c0 := k0.cell
  go_wp2_with fail
  refine (HC.out _ r0).mono ?_
  rintro e w1 ⟨rfl, hb1⟩
  have k1 : Blk w1 s 51 (rfC (.slice A n cap) cs hs).toArray := k0.call hb1
  have r1 := r0.on_ hb1
  have B1 := hb0.trans (hb1.mono (by have := hb0.size; have := hsz'.out; omega))
  clear c0 k0 r0 hb0 hb1 HC
  go_wp2_with fail
  go_loopw [5] (fun u wr => ∃ j : Nat, j ≤ 7 ∧ u = .int .i64 j ∧ wr = w1) (fun u _ => 7 - (intOf u).toNat)
  case atStart => exact ⟨0, by omega, rfl, rfl⟩
  case round =>
    obtain ⟨j, hj, rfl, hw⟩ := hrel
    have hw' := hw.symm
    clear hw
    subst hw'
    by_cases hlt : j < 7
    · have hlt' : decide ((j : Int) < 7) = true := by simp; omega
      have hin : (j : Int) < 7 := by omega
      have hca := hh2.out j hlt
      have hcell := (k1.cell (1 + j)).trans (rfC_calls (.slice A n cap) cs hs hlt)
      have HI := in_any (cs j) 0 1000000 w1
      rw [inB_true.2 hca] at HI
      have HI' := Lib.hid HI
      generalize cs j = m at *
      clear HI hca
      go_wp2_with fail
      refine HI'.out.mono ?_
      rintro e9 w9 ⟨rfl, rfl⟩
      go_wp2_with fail
      go_roundw
      case rel => exact ⟨j + 1, by omega, by go_num, trivial⟩
      case measure => simp [intOf]; omega
    · obtain rfl : j = 7 := by omega
      have hlt' : decide (((7 : Nat) : Int) < 7) = false := by simp
      go_wp2_with fail
      go_loopw [6] (fun u wr => ∃ j : Nat, j ≤ 7 ∧ u = .int .i64 j ∧ Below w1.heap.size w1 wr) (fun u _ => 7 - (intOf u).toNat)
      case atStart => exact ⟨0, by omega, rfl, Below.refl _ _⟩
      case round =>
        clear hlt hj hlt'
        obtain ⟨j, hj, rfl, hB⟩ := hrel
        by_cases hlt : j < 7
        · have hlt' : decide ((j : Int) < 7) = true := by simp; omega
          have hin : (j : Int) < 7 := by omega
          have hca := hh2.out j hlt
          have hhi := hh3.out j hlt
          have kr := k1.call hB
          have hcell := (kr.cell (8 + j)).trans (rfC_hits (.slice A n cap) cs hs hlt)
          rw [hhi] at hcell
          have hcellc := (kr.cell (1 + j)).trans (rfC_calls (.slice A n cap) cs hs hlt)
          obtain ⟨m, hm⟩ : ∃ m : Nat, cs j = (m : Int) := ⟨(cs j).toNat, by omega⟩
          rw [hm] at hcell hca hcellc
          simp only [Int.toNat_natCast] at hcell
          have G := Lib.hid (fun z : Ext wr => Ext.call (x := z) (rhits_any A n cap l (j : Int) m z.w hn'.out (by omega) hok'.out (by omega) ((r1.on_ hB).on_ z.le)))
          generalize hitN l (j : Int) m = H at *
          have d3 : (H != H) = false := by simp
          have z0 := fun z : Ext wr => z.cell (show wr.cell? ⟨s, 0, none⟩ = some (.slice A n cap) from (kr.cell 0).trans rfl)
          have zh := fun z : Ext wr => z.cell hcell
          have zc := fun z : Ext wr => z.cell hcellc
          clear hhi hm hcell hcellc kr
          go_upto_region 12 with fail
          refine region_ext (by kernel_rfl) (by kernel_rfl) ?_
          repeat (go_big_quiet_step ((go_at_call 107; exact G.out _)))
          refine wpQuiet_nil ?_
          rintro w2 ⟨⟨_, hw2⟩, rfl⟩
          clear z0 zh zc
          go_wp2_with fail
          go_roundw
          case rel => exact ⟨j + 1, by omega, by go_num, hB.trans (hw2.mono hB.size)⟩
          case measure => simp [intOf]; omega
        · obtain rfl : j = 7 := by omega
          have hlt' : decide (((7 : Nat) : Int) < 7) = false := by simp
          go_wp2_with fail
          go_ret
          exact ⟨rfl, by rw [hsz'.out]; exact B1.trans (hB.mono (by have := B1.size; have := hsz'.out; omega))⟩
/-- what the reference's Start hands back: the rules are those that came -/
def RStartO (v : Value) (l : List Ru) (w : World) (e : Ending) (w' : World) : Prop :=
  e = .returned (.tuple #[if (chkR l).2 = 0 then rfV v (fun _ => 0) (fun _ => 0) else rfV (.slice none 0 0) (fun _ => 0) (fun _ => 0), .int .i64 (chkR l).2]) ∧ Below w.heap.size w w'
set_option maxRecDepth 100000 in
set_option maxHeartbeats 1600000 in
theorem rstart_any (A : Option Addr) (n cap : Nat) (l : List Ru) (w : World) (hn : l.length = n) (hr : Rd w w.heap.size A (fl ruC l)) :
    Calls Tryz.prog 54 #[.agg #[.slice A n cap]] w (RStartO (.slice A n cap) l w) := by
  have HC := Lib.hid (fun W h => rplanCheck_any A n cap l W hn h)
  have hb0 := (Below.refl w.heap.size w).alloc (Nat.le_refl _) (.cells #[.slice A n cap] 25)
  have k0 := Blk.new w 25 #[.slice A n cap]
  unfold RStartO
  generalize hR : chkR l = R at *
  obtain ⟨ri, re⟩ := R
  simp only at HC ⊢
  clear hR hn
  obtain ⟨s, hs⟩ : ∃ s, w.heap.size = s := ⟨_, rfl⟩
  have hs' := Lib.hid hs
  have hb1 := hb0.alloc (by simp) (.cells (rfC (.slice none 0 0) (fun _ => 0) (fun _ => 0)).toArray 51)
  have k1 := k0.alloc (.cells (rfC (.slice none 0 0) (fun _ => 0) (fun _ => 0)).toArray 51)
  have b1 := Blk.new (w.alloc (.cells #[.slice A n cap] 25)) 51 (rfC (.slice none 0 0) (fun _ => 0) (fun _ => 0)).toArray
  rw [World.size_alloc, hs] at b1
  rw [hs] at k1
  unfold rfC at b1 k1 hb1
  go_enter Tryz.func54, Tryz.ntmps54
  go_upto_region 1 with fail
  generalize (w.alloc (.cells #[.slice A n cap] 25)).alloc _ = w1 at *
  have r1 := hr.on_ hb1
  have c1 := k1.cell
  clear k0 hb0 hr hs
  go_wp2_with fail
  refine (HC.out _ r1).mono ?_
  rintro e w2 ⟨rfl, hb2⟩
  have k2 := k1.call hb2
  have c2 := k2.cell
  have b2 := b1.call hb2
  have B2 := hb1.trans (hb2.mono hb1.size)
  clear r1 c1 k1 b1 hb1 hb2 HC
  by_cases he : re = 0
  · subst he
    go_wp2_with (refine wpList_store_mid rfl 51 (.tmp 2) (.tmp 16) rfl (s + 1) 0 (rfC (.slice A n cap) (fun _ => 0) (fun _ => 0)).toArray rfl rfl (z_there b2 0 15 (by simp)) infoRf (Go.all_oneCell_toArray (rfC_one rfl _ _)) ?_)
    have k4 := Blk.puts (g := s + 1) (t := 51) (w := w2) (cs := #[]) (rfC (.slice A n cap) (fun _ => 0) (fun _ => 0)) 0 w2 _ b2
    rw [putA_all (by rfl)] at k4
    have hF4 := Far.puts (T := fun k => k = s + 1) rfl (rfC (.slice A n cap) (fun _ => 0) (fun _ => 0)) 0 w2 w2 (Far.refl _ _)
    generalize (w2).setCells (s + 1) 0 (rfC (.slice A n cap) (fun _ => 0) (fun _ => 0)) = w4 at *
    have hl4 := run_loadVar_mid (P := Tryz.prog) w4 (s + 1) 0 51 (rfC (.slice A n cap) (fun _ => 0) (fun _ => 0)) _ (fun j v hj => by rw [Nat.zero_add, k4.cell]; simpa using hj) Tryz.underlying51 rfl infoRf
    have hB4 : Below w.heap.size w2 w4 := hF4.below (by have := B2.size; omega) (fun k hk e => by have := hs'.out; omega)
    refine bodyPost_ret (v := .tuple #[rfV (.slice A n cap) (fun _ => 0) (fun _ => 0), .int .i64 0]) ?_ rfl ?_
    · exact z_results_cell_tmp Tryz.results54 rfl hl4
    exact ⟨rfl, B2.trans hB4⟩
  · have he' : (re != 0) = true := by simpa using he
    go_wp2_with (refine wpList_store_mid rfl 51 (.tmp 2) (.tmp 13) rfl (s + 1) 0 (rfC (.slice none 0 0) (fun _ => 0) (fun _ => 0)).toArray rfl rfl (z_there b2 0 15 (by simp)) infoRf (Go.all_oneCell_toArray (rfC_one rfl _ _)) ?_)
    have k4 := Blk.puts (g := s + 1) (t := 51) (w := w2) (cs := #[]) (rfC (.slice none 0 0) (fun _ => 0) (fun _ => 0)) 0 w2 _ b2
    rw [putA_all (by rfl)] at k4
    have hF4 := Far.puts (T := fun k => k = s + 1) rfl (rfC (.slice none 0 0) (fun _ => 0) (fun _ => 0)) 0 w2 w2 (Far.refl _ _)
    generalize (w2).setCells (s + 1) 0 (rfC (.slice none 0 0) (fun _ => 0) (fun _ => 0)) = w4 at *
    have hl4 := run_loadVar_mid (P := Tryz.prog) w4 (s + 1) 0 51 (rfC (.slice none 0 0) (fun _ => 0) (fun _ => 0)) _ (fun j v hj => by rw [Nat.zero_add, k4.cell]; simpa using hj) Tryz.underlying51 rfl infoRf
    have hB4 : Below w.heap.size w2 w4 := hF4.below (by have := B2.size; omega) (fun k hk e => by have := hs'.out; omega)
    refine bodyPost_ret (v := .tuple #[rfV (.slice none 0 0) (fun _ => 0) (fun _ => 0), .int .i64 re]) ?_ rfl ?_
    · exact z_results_cell_tmp Tryz.results54 rfl hl4
    exact ⟨rfl, B2.trans hB4⟩
/-- what the reference's Next hands back -/
def RNextO (v : Value) (S : Rf) (k : Nat) (w : World) (e : Ending) (w' : World) : Prop :=
  (S.calls k = 1000000 ∧ e = .returned (.tuple #[rfV (.slice none 0 0) (fun _ => 0) (fun _ => 0), .bool false, .int .i64 3]) ∧ Below w.heap.size w w') ∨
  (S.calls k ≠ 1000000 ∧ e = .returned (.tuple #[rfV v (nextS S k).calls (nextS S k).hits, .bool (nextB S k), .int .i64 0]) ∧ Below w.heap.size w w')
set_option maxRecDepth 100000 in
set_option maxHeartbeats 1600000 in
theorem rnextR_any (A : Option Addr) (n cap : Nat) (S : Rf) (k : Nat) (w : World) (hS : RfOk S) (hk : k < 7) (hn : S.rules.length = n) (hr : Rd w w.heap.size A (fl ruC S.rules)) :
    Calls Tryz.prog 94 #[rfV (.slice A n cap) S.calls S.hits, .int .i64 k] w (RNextO (.slice A n cap) S k w) := by
  obtain ⟨h1, h2, h3⟩ := hS
  obtain ⟨hlen, hok⟩ := chkR_zero.1 h1
  have hn50 : n ≤ 50 := by omega
  have hck := h2 k hk
  have HC := Lib.hid (fun W h => rcheckState_any A n cap S W ⟨h1, h2, h3⟩ hn h)
  have HI := Lib.hid (fun W => in_any (k : Int) 0 6 W)
  rw [inB_true.2 (by omega)] at HI
  obtain ⟨Q, hQ⟩ : ∃ Q, RNextO (.slice A n cap) S k w = Q := ⟨_, rfl⟩
  rw [hQ]
  have hQ1 := Lib.hid (fun (h : S.calls k = 1000000) w' (hb : Below w.heap.size w w') => show Q (.returned (.tuple #[rfV (.slice none 0 0) (fun _ => 0) (fun _ => 0), .bool false, .int .i64 3])) w' by rw [← hQ]; exact .inl ⟨h, rfl, hb⟩)
  have hQ2 := Lib.hid (fun (h : S.calls k ≠ 1000000) w' (hb : Below w.heap.size w w') => show Q (.returned (.tuple #[rfV (.slice A n cap) (nextS S k).calls (nextS S k).hits, .bool (nextB S k), .int .i64 0])) w' by rw [← hQ]; exact .inr ⟨h, rfl, hb⟩)
  unfold nextS nextB at hQ2
  have HR := Lib.hid (fun (hc : S.calls k ≠ 1000000) W h => rrefused_any A n cap S.rules (k : Int) (S.calls k + 1) W hn (by omega) hok ⟨by omega, by omega⟩ h)
  have hcell := Lib.hid (rfC_calls (.slice A n cap) S.calls S.hits hk)
  have hset := Lib.hid (fun v (x : Int) => rfC_setC v S.calls S.hits hk x)
  have hseth := Lib.hid (fun v cs (x : Int) => rfC_setH v cs S.hits hk x)
  have hhk : 0 ≤ S.hits k ∧ S.hits k ≤ 1000000 := by
    have := hitN_bound S.rules k (S.calls k).toNat
    rw [← h3 k hk] at this
    omega
  obtain ⟨l, cs, hs⟩ := S
  simp only at hcell hset hseth hQ1 hQ2 HR HC hr hn hck hhk
  clear hQ h1 h2 h3 hlen hok hn
  have hb0 := ((Below.refl w.heap.size w).alloc (Nat.le_refl _) (.cells (rfC (.slice A n cap) cs hs).toArray 51)).alloc (by simp) (.cells (rfC (.slice none 0 0) (fun _ => 0) (fun _ => 0)).toArray 51)
  have k0 := (Blk.new w 51 (rfC (.slice A n cap) cs hs).toArray).alloc (.cells (rfC (.slice none 0 0) (fun _ => 0) (fun _ => 0)).toArray 51)
  have b0 := Blk.new (w.alloc (.cells (rfC (.slice A n cap) cs hs).toArray 51)) 51 (rfC (.slice none 0 0) (fun _ => 0) (fun _ => 0)).toArray
  obtain ⟨s, hsz⟩ : ∃ s, w.heap.size = s := ⟨_, rfl⟩
  rw [World.size_alloc, hsz] at b0
  rw [hsz] at k0
  have hwb : ∀ g o, A = some ⟨g, o, none⟩ → l ≠ [] → g < s := fun g o e hne => by
    cases l with
    | nil => exact absurd rfl hne
    | cons x r =>
      obtain ⟨b, o', e', hb, _⟩ := hr 0 (by rw [fl_len ruC_len]; simp)
      rw [e] at e'; cases e'; omega
  unfold rfV rfC at HC ⊢
  simp only at HC ⊢
  unfold rfC at hb0 k0 b0
  have r0 := hr.on_ hb0
  go_enter Tryz.func94, Tryz.ntmps94
  go_upto_region 1 with fail
  generalize (w.alloc _).alloc _ = w0 at *
  rw [hsz] at hb0
  try simp only [hsz]
  have hsz' := Lib.hid hsz
  clear hsz hr
  have c0 := k0.cell
  go_wp2_with fail
  refine (HC.out _ r0).mono ?_
  rintro e w1 ⟨rfl, hb1⟩
  have k1 : Blk w1 s 51 (rfC (.slice A n cap) cs hs).toArray := k0.call hb1
  have b1 := b0.call hb1
  have r1 := r0.on_ hb1
  have B1 := hb0.trans (hb1.mono (by have := hb0.size; have := hsz'.out; omega))
  clear c0 k0 b0 r0 hb0 hb1 HC
  have hin : (k : Int) < 7 := by omega
  have ck := (k1.cell (1 + k)).trans hcell.out
  go_wp2_with fail
  refine (HI.out _).mono ?_
  rintro e9 w9 ⟨rfl, rfl⟩
  by_cases hc : cs k = 1000000
  · have hQ3 := Lib.hid (hQ1.out hc)
    rw [hc] at ck
    clear hQ2 HR hc
    go_upto_region 7 with fail
    go_wp2_with (refine wpList_store_mid rfl 51 (.tmp 4) (.tmp 29) rfl (s + 1) 0 (rfC (.slice none 0 0) (fun _ => 0) (fun _ => 0)).toArray rfl rfl (z_there b1 0 15 (by simp)) infoRf (Go.all_oneCell_toArray (rfC_one rfl _ _)) ?_)
    have k4 := Blk.puts (g := s + 1) (t := 51) (w := w1) (cs := #[]) (rfC (.slice none 0 0) (fun _ => 0) (fun _ => 0)) 0 w1 _ b1
    rw [putA_all (by rfl)] at k4
    have hF4 := Far.puts (T := fun k => k = s + 1) rfl (rfC (.slice none 0 0) (fun _ => 0) (fun _ => 0)) 0 w1 w1 (Far.refl _ _)
    generalize (w1).setCells (s + 1) 0 (rfC (.slice none 0 0) (fun _ => 0) (fun _ => 0)) = w4 at *
    have hl4 := run_loadVar_mid (P := Tryz.prog) w4 (s + 1) 0 51 (rfC (.slice none 0 0) (fun _ => 0) (fun _ => 0)) _ (fun j v hj => by rw [Nat.zero_add, k4.cell]; simpa using hj) Tryz.underlying51 rfl infoRf
    have hB4 : Below w.heap.size w1 w4 := hF4.below (by have := B1.size; have := hsz'.out; omega) (fun k hk e => by have := hsz'.out; omega)
    refine bodyPost_ret (v := .tuple #[rfV (.slice none 0 0) (fun _ => 0) (fun _ => 0), .bool false, .int .i64 3]) ?_ rfl ?_
    · exact z_results_cell_tmp2 Tryz.results94 rfl hl4
    rw [← hsz'.out] at B1
    exact hQ3.out _ (B1.trans hB4)
  · have d3 : (cs k == 1000000) = false := by simpa using hc
    have hQ3 := Lib.hid (hQ2.out hc)
    have HR' := Lib.hid (HR.out hc)
    have hw1 : IntKind.i64.wrap (cs k + 1) = cs k + 1 := by rw [IntKind.wrap_i64]; omega
    have hw2 : IntKind.i64.wrap (hs k + 1) = hs k + 1 := by rw [IntKind.wrap_i64]; omega
    have hup : ∀ (f : Nat → Int) x, upN f k x k = x := fun f x => by simp [upN]
    have hup' := Lib.hid hup
    have f1 := k1.frozen
    clear hQ2 hQ1 HR hup hc
    go_upto_region 9 with fail
    have k4 := k1.set_ (1 + k) (.int .i64 (cs k + 1))
    rw [hset.out] at k4
    have hF4 : Far (fun k => k = s) w1 (w1.setCell ⟨s, 1 + k, none⟩ (.int .i64 (cs k + 1))) := Far.setCell (T := fun k => k = s) (p := ⟨s, 1 + k, none⟩) (Far.refl _ _) (fun _ => rfl) _
    generalize w1.setCell ⟨s, 1 + k, none⟩ (.int .i64 (cs k + 1)) = w4 at *
    have c4 := (k4.cell (1 + k)).trans (rfC_calls (.slice A n cap) (upN cs k (cs k + 1)) hs hk)
    rw [hup'.out] at c4
    have c40 : w4.cell? ⟨s, 0, none⟩ = some (.slice A n cap) := (k4.cell 0).trans rfl
    have r4 : Rd w4 w4.heap.size A (fl ruC l) := (r1.keepR hF4 (fun b o e hne => by have := hwb b o e hne; show ¬ b = s; omega)).more hF4.size
    have z0 := fun z : Ext w4 => z.cell c40
    have z1 := fun z : Ext w4 => z.cell c4
    have G := Lib.hid (fun z : Ext w4 => Ext.call (x := z) (HR'.out z.w (r4.on_ z.le)))
    have b4 := hF4.blk b1 (by show ¬ s + 1 = s; omega)
    generalize rfd l (k : Int) (cs k + 1) = bb at *
    clear c4 c40 HR' k1 b1 r1 r4 f1 ck
    refine region_ext (by kernel_rfl) (by kernel_rfl) ?_
    repeat (go_big_quiet_step ((go_at_call 102; exact G.out _)))
    refine wpQuiet_nil ?_
    rintro w5 ⟨⟨_, hw5⟩, rfl⟩
    have k5 := k4.call hw5
    have b5 := b4.call hw5
    have hF5 : Far (fun k => k = s) w1 w5 := hF4.trans (.of_below hw5)
    clear z0 z1 G k4 b4 hw5 hF4
    cases bb with
    | true =>
      simp only [if_true] at hQ3
      have c5 := (k5.cell (8 + k)).trans (rfC_hits (.slice A n cap) (upN cs k (cs k + 1)) hs hk)
      have f5 := k5.frozen
      go_upto_region 12 with fail
      have k6 := k5.set_ (8 + k) (.int .i64 (hs k + 1))
      rw [hseth.out] at k6
      have b6 := b5.far (p := ⟨s, 8 + k, none⟩) (by show s + 1 ≠ s; omega) (.int .i64 (hs k + 1))
      have hF6 : Far (fun k => k = s) w1 (w5.setCell ⟨s, 8 + k, none⟩ (.int .i64 (hs k + 1))) := hF5.setCell (p := ⟨s, 8 + k, none⟩) (fun _ => rfl) _
      generalize w5.setCell ⟨s, 8 + k, none⟩ (.int .i64 (hs k + 1)) = w6 at *
      clear c5 f5 k5 b5 hF5
      generalize upN hs k (hs k + 1) = hs2 at *
      generalize upN cs k (cs k + 1) = cs2 at *
      have hrng : World.rangeAt w6 s 0 (rfC (.slice A n cap) cs2 hs2) := fun j v hj => by rw [Nat.zero_add, (k6).cell]; simpa using hj
      go_wp2_with (first
        | (refine wpList_load_mid rfl 51 (.tmp 2) rfl s 0 rfl (rfC (.slice A n cap) cs2 hs2) _ hrng Tryz.underlying51 rfl infoRf ?_)
        | (refine wpList_store_mid rfl 51 (.tmp 4) (.tmp 54) rfl (s + 1) 0 (rfC (.slice A n cap) cs2 hs2).toArray rfl rfl (z_there b6 0 15 (by simp)) infoRf (Go.all_oneCell_toArray (rfC_one rfl _ _)) ?_))
      have k7 := Blk.puts (g := s + 1) (t := 51) (w := w6) (cs := #[]) (rfC (.slice A n cap) cs2 hs2) 0 w6 _ b6
      rw [putA_all (by rfl)] at k7
      have hF7 := Far.puts (T := fun k => k = s ∨ k = s + 1) (.inr rfl) (rfC (.slice A n cap) cs2 hs2) 0 w1 w6 ((hF6).mono (fun _ _ h => .inl h))
      generalize (w6).setCells (s + 1) 0 (rfC (.slice A n cap) cs2 hs2) = w7 at *
      have hl7 := run_loadVar_mid (P := Tryz.prog) w7 (s + 1) 0 51 (rfC (.slice A n cap) cs2 hs2) _ (fun j v hj => by rw [Nat.zero_add, k7.cell]; simpa using hj) Tryz.underlying51 rfl infoRf
      have hB7 : Below w.heap.size w1 w7 := hF7.below (by have := B1.size; have := hsz'.out; omega) (fun k hk e => by have := hsz'.out; omega)
      rw [← hsz'.out] at B1
      refine bodyPost_ret (v := .tuple #[rfV (.slice A n cap) cs2 hs2, .bool true, .int .i64 0]) ?_ rfl ?_
      · exact z_results_cell_tmp2 Tryz.results94 rfl hl7
      exact hQ3.out _ (B1.trans hB7)
    | false =>
      simp only [Bool.false_eq_true, if_false] at hQ3
      generalize upN cs k (cs k + 1) = cs2 at *
      have hrng : World.rangeAt w5 s 0 (rfC (.slice A n cap) cs2 hs) := fun j v hj => by rw [Nat.zero_add, (k5).cell]; simpa using hj
      go_wp2_with (first
        | (refine wpList_load_mid rfl 51 (.tmp 2) rfl s 0 rfl (rfC (.slice A n cap) cs2 hs) _ hrng Tryz.underlying51 rfl infoRf ?_)
        | (refine wpList_store_mid rfl 51 (.tmp 4) (.tmp 54) rfl (s + 1) 0 (rfC (.slice A n cap) cs2 hs).toArray rfl rfl (z_there b5 0 15 (by simp)) infoRf (Go.all_oneCell_toArray (rfC_one rfl _ _)) ?_))
      have k7 := Blk.puts (g := s + 1) (t := 51) (w := w5) (cs := #[]) (rfC (.slice A n cap) cs2 hs) 0 w5 _ b5
      rw [putA_all (by rfl)] at k7
      have hF7 := Far.puts (T := fun k => k = s ∨ k = s + 1) (.inr rfl) (rfC (.slice A n cap) cs2 hs) 0 w1 w5 ((hF5).mono (fun _ _ h => .inl h))
      generalize (w5).setCells (s + 1) 0 (rfC (.slice A n cap) cs2 hs) = w7 at *
      have hl7 := run_loadVar_mid (P := Tryz.prog) w7 (s + 1) 0 51 (rfC (.slice A n cap) cs2 hs) _ (fun j v hj => by rw [Nat.zero_add, k7.cell]; simpa using hj) Tryz.underlying51 rfl infoRf
      have hB7 : Below w.heap.size w1 w7 := hF7.below (by have := B1.size; have := hsz'.out; omega) (fun k hk e => by have := hsz'.out; omega)
      rw [← hsz'.out] at B1
      refine bodyPost_ret (v := .tuple #[rfV (.slice A n cap) cs2 hs, .bool false, .int .i64 0]) ?_ rfl ?_
      · exact z_results_cell_tmp2 Tryz.results94 rfl hl7
      exact hQ3.out _ (B1.trans hB7)
end Go.Proofs.YtdepkmpilipolaaGreat
namespace Go.Pol
open Go Go.RowKit
def pageB (p : Int) : Bool := decide (0 ≤ p) && decide (p < 1024)
theorem pageB_true {p : Int} : pageB p = true ↔ 0 ≤ p ∧ p < 1024 := by simp [pageB]
theorem pageB_false {p : Int} : pageB p = false ↔ ¬ (0 ≤ p ∧ p < 1024) := by rw [← pageB_true]; simp
end Go.Pol
namespace Go.Proofs.YtdepkmpilipolaaGreat
open Go Go.Proofs Go.RowKit Go.Pol Go.Shelf
attribute [local go_sem] Oper.semAt_some Go.Pol.wide_fn Go.Pol.wide_depth Go.Pol.wide_fn' Go.Pol.wide_depth'

theorem wpList_value {P : Program} {ops : Array Oper} {rest : List Oper} {op : Oper} {a : Act} {w : World} {Q : Exit → Act → World → Prop} {v : Value} (d : Nat) (hgd : op.guard = none) (hd : op.dst = some d)
    (hr : (execOp a.eval op).run P w = .ok (.value v) w) (h : wpList P ops Q rest (a.put (some d) v) w) : wpList P ops Q (op :: rest) a w :=
  wpList_plain hgd fun K hK => by
    unfold Oper.wp
    rw [hr]
    show K (a.put op.dst v) w
    rw [hd]
    exact hK _ _ h
theorem page_any (p : Int) (w : World) : Calls Tryz.prog 78 #[.int .i64 p] w fun e w' => e = .returned (.bool (pageB p)) ∧ w = w' := by
  by_cases h1 : 0 ≤ p
  · have d1 : decide (0 ≤ p) = true := by simpa using h1
    have hE : pageB p = decide (p < 1024) := by simp [pageB, h1]
    rw [hE]
    clear hE h1
    go_enter Tryz.func78, Tryz.ntmps78
    go_wp2_with fail
    go_ret
    exact ⟨rfl, rfl⟩
  · have d1 : decide (0 ≤ p) = false := by simpa using h1
    have hE : pageB p = false := by simp [pageB, h1]
    rw [hE]
    clear hE h1
    go_enter Tryz.func78, Tryz.ntmps78
    go_wp2_with fail
    go_ret
    exact ⟨rfl, rfl⟩
set_option maxRecDepth 100000 in
set_option maxHeartbeats 1600000 in
theorem kinds_any (B b a n : Nat) (kd : Int) (V : Vm) (w : World) (hV : RefIs w B b V) (hn : a + n ≤ 1024) :
    Calls Tryz.prog 79 #[.pointer (some ⟨b, 0, none⟩), .int .i64 a, .int .i64 n, .int .i64 kd] w fun e w' => e = .returned (.bool (allP V a n (fun g => g.kind == kd))) ∧ w = w' := by
  obtain ⟨R, hR⟩ : ∃ R, allP V a n (fun g => g.kind == kd) = R := ⟨_, rfl⟩
  rw [hR]
  have hR' := Lib.hid hR
  obtain ⟨cs, A, m, cap, hk, hc, _⟩ := hV.ex
  have hkd := Lib.hid (fun p h => (hk.cell p).trans (hc.kind p h))
  clear hR hk hc hV
  have hwn : wrap64 ((a : Int) + (n : Int)) = ((a + n : Nat) : Int) := by unfold wrap64; omega
  go_enter Tryz.func79, Tryz.ntmps79
  go_wp2_with fail
  go_loopw [9] (fun u wr => ∃ i : Nat, i ≤ n ∧ u = .int .i64 ((a + i : Nat) : Int) ∧ Hid (∀ q, a ≤ q → q < a + i → ((V.pg q).kind == kd) = true) ∧ wr = w) (fun u _ => a + n - (intOf u).toNat)
  case atStart => exact ⟨0, by omega, rfl, Lib.hid (fun _ _ _ => by omega), rfl⟩
  case round =>
    obtain ⟨i, hi, rfl, hA, hw⟩ := hrel
    have hw' := hw.symm
    clear hw
    subst hw'
    by_cases hlt : i < n
    · obtain ⟨p, hp⟩ : ∃ p, a + i = p := ⟨_, rfl⟩
      have hlt' : decide ((p : Int) < (a : Int) + (n : Int)) = true := by rw [decide_eq_true_eq]; omega
      have hpl : (p : Int) < 1024 := by omega
      have hcell := hkd.out p (by omega)
      have hws : wrap64 ((p : Int) + 1) = ((p + 1 : Nat) : Int) := by unfold wrap64; omega
      rw [hp]
      have hp' := Lib.hid hp
      clear hp
      by_cases hv : (V.pg p).kind = kd
      · have hv' : ((V.pg p).kind != kd) = false := by simpa using hv
        have hA2 : Hid (∀ q, a ≤ q → q < a + (i + 1) → ((V.pg q).kind == kd) = true) := Lib.hid (fun q h1 h2 => by
          by_cases e : q = p
          · subst e; simpa using hv
          · exact hA.out q h1 (by have := hp'.out; omega))
        clear hA hv
        go_wp2_with fail
        go_roundw
        case rel => exact ⟨i + 1, by omega, by rw [show ((p : Int) + 1) = ((a + (i + 1) : Nat) : Int) by have := hp'.out; omega], hA2, trivial⟩
        case measure => have := hp'.out; simp [intOf]; omega
      · have hv' : ((V.pg p).kind != kd) = true := by simpa using hv
        have hRf : Hid (false = R) := Lib.hid (by
          rw [← hR'.out]
          symm
          rw [Bool.eq_false_iff]
          intro h
          have := allP_iff.1 h p (by have := hp'.out; omega) (by have := hp'.out; omega)
          exact hv (by simpa using this))
        clear hA hv
        go_wp2_with fail
        go_ret
        exact ⟨z_ret_bool hRf.out, rfl⟩
    · obtain rfl : i = n := by omega
      have hlt' : decide (((a + i : Nat) : Int) < (a : Int) + (i : Int)) = false := by simp
      have hRt : Hid (true = R) := Lib.hid (by rw [← hR'.out]; exact (allP_iff.2 hA.out).symm)
      clear hA
      go_wp2_with fail
      go_ret
      exact ⟨z_ret_bool hRt.out, rfl⟩
set_option maxRecDepth 100000 in
set_option maxHeartbeats 1600000 in
theorem set_any (B b a n : Nat) (kd : Int) (V : Vm) (w : World) (hV : RefIs w B b V) (hn : a + n ≤ 1024) (hh : ∀ q, a ≤ q → q < a + n → (V.pg q).huge = false) :
    Calls Tryz.prog 81 #[.pointer (some ⟨b, 0, none⟩), .int .i64 a, .int .i64 n, .int .i64 kd] w fun e w' => e = .returned (.tuple #[]) ∧ RefIs w' B b (V.eachP a n (fun _ => newPg kd)) ∧ Far (fun k => k = b) w w' := by
  have hV' := Lib.hid hV
  have hh' := Lib.hid hh
  have hwn : wrap64 ((a : Int) + (n : Int)) = ((a + n : Nat) : Int) := by unfold wrap64; omega
  clear hV hh
  go_enter Tryz.func81, Tryz.ntmps81
  go_wp2_with fail
  go_loopw [8] (fun u wr => ∃ i : Nat, i ≤ n ∧ u = .int .i64 ((a + i : Nat) : Int) ∧ Hid (RefIs wr B b (V.eachP a i (fun _ => newPg kd))) ∧ Far (fun k => k = b) w wr) (fun u _ => a + n - (intOf u).toNat)
  case atStart => exact ⟨0, by omega, rfl, Lib.hid (by rw [Vm.eachP_zero]; exact hV'.out), Far.refl _ _⟩
  case round =>
    obtain ⟨i, hi, rfl, hR, hF⟩ := hrel
    by_cases hlt : i < n
    · obtain ⟨p, hp⟩ : ∃ p, a + i = p := ⟨_, rfl⟩
      have hlt' : decide ((p : Int) < (a : Int) + (n : Int)) = true := by rw [decide_eq_true_eq]; omega
      have hpl : (p : Int) < 1024 := by omega
      have hws : wrap64 ((p : Int) + 1) = ((p + 1 : Nat) : Int) := by unfold wrap64; omega
      have hput := Lib.hid (hR.out.put (p := p) (by omega) (by
        show (if a ≤ p ∧ p < a + i then newPg kd else V.pg p).huge = false
        rw [if_neg (by omega)]; exact hh'.out p (by omega) (by omega)) kd)
      have hes : Hid (V.eachP a (i + 1) (fun _ => newPg kd) = (V.eachP a i (fun _ => newPg kd)).setP p (newPg kd)) := Lib.hid (by rw [Vm.eachP_succ, hp])
      rw [hp]
      have hp' := Lib.hid hp
      clear hp
      obtain ⟨cs, A, m, cap, hk, hc, _⟩ := hR.out.ex
      have hcell := (hk.cell p).trans (hc.kind p (by omega))
      have hfr := hk.frozen
      have hcs := hc.size
      have k2 := hk.set_ p (.int .i64 kd)
      obtain ⟨Z, hZ⟩ : ∃ Z, (List.replicate 64 (Value.int .u8 0)).toArray = Z := ⟨_, rfl⟩
      have hZl : List.replicate 64 (Value.int .u8 0) = Z.toList := by rw [← hZ]
      have hZs : Z.size = 64 := by rw [← hZ]; simp
      rw [hZl] at hput
      have ht : (wr.setCell ⟨b, p, none⟩ (.int .i64 kd)).there b (1088 + p * 64) Z.size := z_there k2 (1088 + p * 64) Z.size (by rw [Array.size_setIfInBounds]; omega)
      have hinf : (Tryz.prog.info? 74).map (·.size) = some Z.size := by rw [hZs]; exact infoKinds
      have hone : Z.all (·.oneCell') = true := by rw [← hZ]; exact Go.all_oneCell_toArray (fun x hx => by rw [List.eq_of_mem_replicate hx]; rfl)
      have hZ' := Lib.hid hZ
      clear hR hk hc k2 hZl hZs hZ
      go_upto_region 4 with fail
      generalize wr.setCell ⟨b, p, none⟩ _ = w2 at *
      go_wp2_with (first
        | (refine wpList_value (v := .agg Z) 25 rfl rfl ?hbb ?_)
        | (refine wpList_store_mid rfl 74 (.tmp 28) (.tmp 25) rfl b (1088 + p * 64) Z rfl rfl ht hinf hone ?_))
      case hbb =>
        rw [← hZ'.out]
        rfl
      generalize w2.setCells b (1088 + p * 64) _ = w3 at *
      go_roundw
      case rel => exact ⟨i + 1, by omega, by rw [show ((p : Int) + 1) = ((a + (i + 1) : Nat) : Int) by have := hp'.out; omega], Lib.hid (by rw [hes.out]; exact hput.out.1), hF.trans hput.out.2⟩
      case measure => have := hp'.out; simp [intOf]; omega
    · obtain rfl : i = n := by omega
      have hlt' : decide (((a + i : Nat) : Int) < (a : Int) + (i : Int)) = false := by simp
      go_wp2_with fail
      go_end0
      exact ⟨rfl, hR.out, hF⟩
end Go.Proofs.YtdepkmpilipolaaGreat
namespace Go.Pol
open Go Go.RowKit
/-- the reference's system afterwards, and nothing else of what was -/
def RefTo (B b : Nat) (V : Vm) (w w' : World) : Prop := RefIs w' B b V ∧ Far (fun k => k = b) w w'
end Go.Pol
namespace Go.Proofs.YtdepkmpilipolaaGreat
open Go Go.Proofs Go.RowKit Go.Pol Go.Shelf
attribute [local go_sem] Oper.semAt_some Go.Pol.wide_fn Go.Pol.wide_depth Go.Pol.wide_fn' Go.Pol.wide_depth'

set_option maxHeartbeats 1600000 in
theorem refRefused_any (B b k : Nat) (V : Vm) (w : World) (hV : RefIs w B b V) (hk : k < 7) :
    Calls Tryz.prog 80 #[.pointer (some ⟨b, 0, none⟩), .int .i64 k] w fun e w' => e = .returned (.bool (refB V.rf k)) ∧ RefTo B b (V.ref k) w w' := by
  have hV' := Lib.hid hV
  obtain ⟨cs, A, n, cap, hk0, hc, hn, hr, hB, hok⟩ := hV.ex
  have hbl := hk0.lt
  have HN := Lib.hid (rnextR_any A n cap V.rf k w hok hk hn.1 (hr.more (by omega)))
  have hrng : w.rangeAt b 66624 (rfC (.slice A n cap) V.rf.calls V.rf.hits) := fun j v hj => by
    have hj15 : j < 15 := (List.getElem?_eq_some_iff.1 hj).1
    rw [hk0.cell, hc.rf j hj15]; exact hj
  have hok' := Lib.hid hok
  have hr' := Lib.hid hr
  have hn' := Lib.hid hn
  have hrl := Lib.hid (show refB V.rf k = if V.rf.calls k = 1000000 then false else nextB V.rf k from rfl)
  have hrs := Lib.hid (show V.ref k = { V with rf := if V.rf.calls k = 1000000 then V.rf else nextS V.rf k } from rfl)
  unfold RNextO at HN
  generalize refB V.rf k = R at *
  generalize V.ref k = V2 at *
  clear hc hr hn hok hV
  go_enter Tryz.func80, Tryz.ntmps80
  go_wp2_with (first
    | (refine wpList_load_mid rfl 51 (.tmp 11) rfl b 66624 rfl (rfC (.slice A n cap) V.rf.calls V.rf.hits) _ hrng Tryz.underlying51 rfl infoRf ?_))
  clear hrng
  refine HN.out.mono ?_
  rintro e w1 hN
  rcases hN with ⟨hc, rfl, hb1⟩ | ⟨hc, rfl, hb1⟩
  · rw [if_pos hc] at hrl hrs
    have hV1 := hV'.out.call hb1
    have hE := Lib.hid (And.intro hrl.out hrs.out)
    clear hrl hrs hc HN hk0 hok'
    unfold rfV rfC
    go_wp2_with fail
    go_ret
    obtain ⟨e1, e2⟩ := hE.out
    rw [e1, e2]
    have hbz := (Below.refl w1.heap.size w1).alloc (Nat.le_refl _) (.cells (rfC (.slice none 0 0) (fun _ => 0) (fun _ => 0)).toArray 51)
    unfold rfC at hbz
    exact ⟨rfl, hV1.call hbz, .of_below (hb1.trans (hbz.mono hb1.size))⟩
  · rw [if_neg hc] at hrl hrs
    have hS2 : RfOk (nextS V.rf k) := nextS_ok hok'.out hk hc
    have hbz := (Below.refl w1.heap.size w1).alloc (Nat.le_refl _) (.cells (rfC (.slice A n cap) (nextS V.rf k).calls (nextS V.rf k).hits).toArray 51)
    have hb2 := hb1.trans (hbz.mono hb1.size)
    have hput := hV'.out.putRf (nextS V.rf k) A n cap hb2 hn'.out.1 hn'.out.2 (hr'.out.keepB (T := fun _ => False) (Far.of_below hb2) (fun _ h => h.elim)) hS2
    have k9 := hk0.call hb2
    have hcs9 : cs.size = 66639 := by
      obtain ⟨cs9, _, _, _, k8, h8, _⟩ := hV'.out.ex
      have e : cs9 = cs := by unfold Blk at k8 hk0; rw [k8] at hk0; injection hk0 with h; injection h with h
      rw [← e]; exact h8.size
    have hE := Lib.hid (And.intro hrl.out hrs.out)
    have kz := Blk.new w1 51 (rfC (.slice A n cap) (nextS V.rf k).calls (nextS V.rf k).hits).toArray
    clear hrl hrs hc HN hk0 hok' hS2 hb2 hb1 hr' hn'
    generalize (nextS V.rf k).calls = cs2 at *
    generalize (nextS V.rf k).hits = hs2 at *
    have hput' := Lib.hid hput
    clear hput
    rw [← hE.out.1]
    rw [← hE.out.2] at hput'
    clear hE hV'
    unfold rfC at hbz k9 hput' kz
    unfold rfV rfC
    obtain ⟨s, hs⟩ : ∃ s, w1.heap.size = s := ⟨_, rfl⟩
    rw [hs] at kz
    go_upto_region 2 with fail
    generalize w1.alloc _ = w2 at *
    clear hs hbz
    have cz := kz.cell
    have ht : w2.there b 66624 (rfC (.slice A n cap) cs2 hs2).toArray.size := z_there k9 66624 15 (by omega)
    have hone := Go.all_oneCell_toArray (rfC_one (v := .slice A n cap) rfl cs2 hs2)
    clear hcs9 k9 kz
    have hput2 : Hid (RefIs (w2.setCells b 66624 (rfC (.slice A n cap) cs2 hs2)) B b V2 ∧ Far (fun k => k = b) w (w2.setCells b 66624 (rfC (.slice A n cap) cs2 hs2))) := hput'
    clear hput'
    go_wp2_with (refine wpList_store_mid rfl 51 (.tmp 23) (.tmp 21) rfl b 66624 (rfC (.slice A n cap) cs2 hs2).toArray ?hxx ?hyy ht infoRf hone ?_)
    case hxx => rfl
    case hyy => rfl
    generalize w2.setCells b 66624 _ = w4 at *
    go_ret
    exact ⟨rfl, hput2.out.1, hput2.out.2⟩
set_option maxRecDepth 100000 in
set_option maxHeartbeats 1600000 in
theorem change_any (B b : Nat) (a n fr tk : Int) (call : Nat) (V : Vm) (w : World) (hV : RefIs w B b V) (hk : call < 7) :
    Calls Tryz.prog 55 #[.pointer (some ⟨b, 0, none⟩), .int .i64 a, .int .i64 n, .int .i64 fr, .int .i64 tk, .int .i64 call] w fun e w' => e = .returned (.int .i64 (bec V a n call fr tk).1) ∧ RefTo B b (bec V a n call fr tk).2 w w' := by
  have hV' := Lib.hid hV
  obtain ⟨R, hR⟩ : ∃ R, bec V a n call fr tk = R := ⟨_, rfl⟩
  rw [hR]
  unfold bec makeF at hR
  have HP := Lib.hid (fun W => page_any a W)
  by_cases c1 : n < 1
  · have d1 : decide (n < 1) = true := by simpa using c1
    rw [if_pos (.inl c1)] at hR
    subst hR
    clear HP hV
    go_enter Tryz.func55, Tryz.ntmps55
    go_wp2_with fail
    go_ret
    exact ⟨rfl, hV'.out, Far.refl _ _⟩
  have d1 : decide (n < 1) = false := by simpa using c1
  by_cases c2 : 0 ≤ a ∧ a < 1024
  · rw [pageB_true.2 c2] at HP
    have w1 : IntKind.i64.wrap (1024 - a) = 1024 - a := by rw [IntKind.wrap_i64]; omega
    by_cases c3 : 1024 - a < n
    · have d3 : decide (1024 - a < n) = true := by simpa using c3
      rw [if_pos (by omega)] at hR
      subst hR
      clear hV
      go_enter Tryz.func55, Tryz.ntmps55
      go_wp2_with fail
      refine (HP.out _).mono ?_
      rintro e9 w9 ⟨rfl, rfl⟩
      go_wp2_with fail
      go_ret
      exact ⟨rfl, hV'.out, Far.refl _ _⟩
    · have d3 : decide (1024 - a < n) = false := by simpa using c3
      rw [if_neg (by omega)] at hR
      obtain ⟨aa, rfl⟩ : ∃ aa : Nat, a = (aa : Int) := ⟨a.toNat, by omega⟩
      obtain ⟨nn, rfl⟩ : ∃ nn : Nat, n = (nn : Int) := ⟨n.toNat, by omega⟩
      simp only [Int.toNat_natCast] at hR
      have hsum : aa + nn ≤ 1024 := by omega
      have HK := Lib.hid (kinds_any B b aa nn fr V w hV hsum)
      have HRf := Lib.hid (refRefused_any B b call V w hV hk)
      have HSt := Lib.hid (fun (hh : ∀ q, aa ≤ q → q < aa + nn → (V.pg q).huge = false) W (h : RefIs W B b (V.ref call)) => set_any B b aa nn tk (V.ref call) W h hsum hh)
      obtain ⟨cs, A, m, cap, hkb, hc, _⟩ := hV.ex
      have hhg := Lib.hid (fun p (h : p < 1024) => (hkb.cell (1024 + p / 16)).trans (hc.huge p h))
      clear hkb hc hV
      cases hkd : allP V aa nn (fun g => g.kind == fr) with
      | false =>
        rw [hkd] at HK
        have hf : allP V aa nn (fun g => g.kind == fr && !g.huge) = false := by
          rw [Bool.eq_false_iff]
          intro h
          rw [Bool.eq_false_iff] at hkd
          exact hkd (allP_iff.2 fun q h1 h2 => by have := allP_iff.1 h q h1 h2; rw [Bool.and_eq_true] at this; exact this.1)
        rw [if_pos hf] at hR
        subst hR
        clear HRf HSt hhg hf hkd c3
        go_enter Tryz.func55, Tryz.ntmps55
        go_wp2_with fail
        refine (HP.out _).mono ?_
        rintro e9 w9 ⟨rfl, rfl⟩
        go_wp2_with fail
        refine HK.out.mono ?_
        rintro e9 w9 ⟨rfl, rfl⟩
        go_wp2_with fail
        go_ret
        exact ⟨rfl, hV'.out, Far.refl _ _⟩
      | true =>
        rw [hkd] at HK
        have hkd' := Lib.hid hkd
        have hR' := Lib.hid hR
        clear hkd hR c3
        go_enter Tryz.func55, Tryz.ntmps55
        go_wp2_with fail
        refine (HP.out _).mono ?_
        rintro e9 w9 ⟨rfl, rfl⟩
        go_wp2_with fail
        refine HK.out.mono ?_
        rintro e9 w9 ⟨rfl, rfl⟩
        go_wp2_with fail
        go_loopw [13] (fun u wr => ∃ i : Nat, i ≤ nn ∧ u = .int .i64 ((aa + i : Nat) : Int) ∧ Hid (∀ q, aa ≤ q → q < aa + i → (V.pg q).huge = false) ∧ wr = w) (fun u _ => aa + nn - (intOf u).toNat)
        case atStart => exact ⟨0, by omega, rfl, Lib.hid (fun _ _ _ => by omega), rfl⟩
        case round =>
          obtain ⟨i, hi, rfl, hA, hw⟩ := hrel
          have hw' := hw.symm
          clear hw
          subst hw'
          by_cases hlt : i < nn
          · obtain ⟨p, hp⟩ : ∃ p, aa + i = p := ⟨_, rfl⟩
            have hlt' : decide ((p : Int) < (aa : Int) + (nn : Int)) = true := by rw [decide_eq_true_eq]; omega
            have hpl : (p : Int) < 1024 := by omega
            have hdv : Int.tdiv (p : Int) 16 = ((p / 16 : Nat) : Int) := by rw [Int.tdiv_eq_ediv_of_nonneg (by omega)]; omega
            have hdl : ((p / 16 : Nat) : Int) < 64 := by omega
            have hcell := hhg.out p (by omega)
            rw [hp]
            have hp' := Lib.hid hp
            clear hp
            cases hv : (V.pg p).huge with
            | false =>
              rw [hv] at hcell
              have hA2 : Hid (∀ q, aa ≤ q → q < aa + (i + 1) → (V.pg q).huge = false) := Lib.hid (fun q h1 h2 => by
                by_cases e : q = p
                · subst e; exact hv
                · exact hA.out q h1 (by have := hp'.out; omega))
              clear hA hv
              go_wp2_with fail
              go_roundw
              case rel => exact ⟨i + 1, by omega, by rw [show ((p : Int) + 1) = ((aa + (i + 1) : Nat) : Int) by have := hp'.out; omega], hA2, trivial⟩
              case measure => have := hp'.out; simp [intOf]; omega
            | true =>
              rw [hv] at hcell
              have hRf : Hid ((9, V) = R) := Lib.hid (by
                have hr := hR'.out
                rw [if_pos (by
                  rw [Bool.eq_false_iff]
                  intro h
                  have := allP_iff.1 h p (by have := hp'.out; omega) (by have := hp'.out; omega)
                  rw [hv] at this; simp at this)] at hr
                exact hr)
              clear hA hv
              go_wp2_with fail
              go_ret
              rw [← hRf.out]
              exact ⟨rfl, hV'.out, Far.refl _ _⟩
          · obtain rfl : i = nn := by omega
            have hlt' : decide (((aa + i : Nat) : Int) < (aa : Int) + (i : Int)) = false := by simp
            have hR2 : Hid ((if refB V.rf call = true then (60, V.ref call) else (0, (V.ref call).eachP aa i (fun _ => newPg tk))) = R) := Lib.hid (by
              have hr := hR'.out
              rw [if_neg (by
                rw [Bool.not_eq_false]
                exact allP_iff.2 fun q h1 h2 => by
                  rw [hA.out q h1 h2, allP_iff.1 hkd'.out q h1 h2]; rfl)] at hr
              exact hr)
            have HS2 := Lib.hid (HSt.out hA.out)
            generalize refB V.rf call = rb at *
            generalize V.ref call = V2 at *
            clear hA HSt hR' hkd'
            go_wp2_with fail
            refine HRf.out.mono ?_
            rintro e1 w1 ⟨rfl, V1, F1⟩
            cases rb with
            | true =>
              have hR3 := hR2.out
              rw [if_pos rfl] at hR3
              subst hR3
              clear HS2 hR2
              go_wp2_with fail
              go_ret
              exact ⟨rfl, V1, F1⟩
            | false =>
              have hR3 := hR2.out
              rw [if_neg (by decide)] at hR3
              subst hR3
              clear hR2
              go_wp2_with fail
              refine (HS2.out _ V1).mono ?_
              rintro e2 w2 ⟨rfl, V3, F3⟩
              go_wp2_with fail
              go_ret
              exact ⟨rfl, V3, F1.trans F3⟩
  · rw [pageB_false.2 c2] at HP
    rw [if_pos (by omega)] at hR
    subst hR
    clear hV
    go_enter Tryz.func55, Tryz.ntmps55
    go_wp2_with fail
    refine (HP.out _).mono ?_
    rintro e9 w9 ⟨rfl, rfl⟩
    go_wp2_with fail
    go_ret
    exact ⟨rfl, hV'.out, Far.refl _ _⟩
theorem reserve6_any (B b : Nat) (a n : Int) (V : Vm) (w : World) (hV : RefIs w B b V) :
    Calls Tryz.prog 29 #[.pointer (some ⟨b, 0, none⟩), .int .i64 a, .int .i64 n] w fun e w' => e = .returned (.int .i64 (bec V a n 0 0 1).1) ∧ RefTo B b (bec V a n 0 0 1).2 w w' := by
  have HC := Lib.hid (change_any B b a n 0 1 0 V w hV (by decide))
  clear hV
  generalize bec V a n 0 0 1 = R at *
  go_enter Tryz.func29, Tryz.ntmps29
  go_wp2_with fail
  refine HC.out.mono ?_
  rintro e w1 ⟨rfl, h1, h2⟩
  go_wp2_with fail
  go_ret
  exact ⟨rfl, h1, h2⟩
theorem commit6_any (B b : Nat) (a n : Int) (V : Vm) (w : World) (hV : RefIs w B b V) :
    Calls Tryz.prog 30 #[.pointer (some ⟨b, 0, none⟩), .int .i64 a, .int .i64 n] w fun e w' => e = .returned (.int .i64 (bec V a n 2 1 2).1) ∧ RefTo B b (bec V a n 2 1 2).2 w w' := by
  have HC := Lib.hid (change_any B b a n 1 2 2 V w hV (by decide))
  clear hV
  generalize bec V a n 2 1 2 = R at *
  go_enter Tryz.func30, Tryz.ntmps30
  go_wp2_with fail
  refine HC.out.mono ?_
  rintro e w1 ⟨rfl, h1, h2⟩
  go_wp2_with fail
  go_ret
  exact ⟨rfl, h1, h2⟩
end Go.Proofs.YtdepkmpilipolaaGreat
namespace Go.Pol
open Go Go.RowKit
/-- pages of huge groups are committed; pages that are not have no bytes; kinds are kinds -/
structure GoodV (V : Vm) : Prop where
  kinds : KindOk V
  hug : ∀ p, p < 1024 → (V.pg p).huge = true → (V.pg p).kind = 2
  byt : ∀ p, p < 1024 → (V.pg p).kind ≠ 2 → ∀ k, (V.pg p).byt k = 0
theorem GoodV.of_pg {V U : Vm} (h : GoodV V) (e : U.pg = V.pg) : GoodV U := ⟨fun p hp => by rw [e]; exact h.kinds p hp, fun p hp => by rw [e]; exact h.hug p hp, fun p hp => by rw [e]; exact h.byt p hp⟩
theorem GoodV.eachP {V : Vm} (h : GoodV V) (a n : Nat) (f : Pg → Pg) (hk : ∀ p, p < 1024 → a ≤ p → p < a + n → 0 ≤ (f (V.pg p)).kind ∧ (f (V.pg p)).kind ≤ 3 ∧ ((f (V.pg p)).huge = true → (f (V.pg p)).kind = 2) ∧ ((f (V.pg p)).kind ≠ 2 → ∀ k, (f (V.pg p)).byt k = 0)) : GoodV (V.eachP a n f) := by
  have e : ∀ p, (V.eachP a n f).pg p = if a ≤ p ∧ p < a + n then f (V.pg p) else V.pg p := fun p => rfl
  refine ⟨fun p hp => ?_, fun p hp => ?_, fun p hp => ?_⟩
  · rw [e]
    split
    · rename_i h1; exact ⟨(hk p hp h1.1 h1.2).1, (hk p hp h1.1 h1.2).2.1⟩
    · exact h.kinds p hp
  · rw [e]
    split
    · rename_i h1; exact (hk p hp h1.1 h1.2).2.2.1
    · exact h.hug p hp
  · rw [e]
    split
    · rename_i h1; exact (hk p hp h1.1 h1.2).2.2.2
    · exact h.byt p hp
theorem GoodV.make {V : Vm} (h : GoodV V) (a n : Int) (call : Nat) (pr : Pg → Bool) (f : Pg → Pg) (hf : ∀ p, p < 1024 → pr (V.pg p) = true → 0 ≤ (f (V.pg p)).kind ∧ (f (V.pg p)).kind ≤ 3 ∧ ((f (V.pg p)).huge = true → (f (V.pg p)).kind = 2) ∧ ((f (V.pg p)).kind ≠ 2 → ∀ k, (f (V.pg p)).byt k = 0)) :
    GoodV (makeF V a n call pr f).2 := by
  unfold makeF
  split
  · exact h
  · split
    · exact h
    · rename_i hp
      rw [Bool.not_eq_false] at hp
      split
      · exact h.of_pg rfl
      · exact (h.of_pg (U := V.ref call) rfl).eachP _ _ _ (fun p hp2 h1 h2 => hf p hp2 (allP_iff.1 hp p h1 h2))
theorem GoodV.bec {V : Vm} (h : GoodV V) (a n : Int) (call : Nat) (fr tk : Int) (ht : 0 ≤ tk ∧ tk ≤ 3) : GoodV (bec V a n call fr tk).2 :=
  h.make a n call _ _ (fun p _ _ => ⟨ht.1, ht.2, fun h => (by cases h), fun _ _ => rfl⟩)
theorem GoodV.split {V : Vm} (h : GoodV V) (p : Int) : GoodV (splitF V p).2 := by
  unfold splitF
  split
  · exact h
  · refine h.make _ _ _ _ _ (fun q hq hk => ?_)
    have hb := h.kinds q hq
    exact ⟨hb.1, hb.2, fun h => (by cases h), h.byt q hq⟩
theorem GoodV.new : GoodV newVm := ⟨fun p _ => by show (0 : Int) ≤ 0 ∧ (0 : Int) ≤ 3; omega, fun p _ h => (by cases h), fun p _ _ k => rfl⟩
theorem GoodV.plan {V : Vm} (h : GoodV V) (l : List Ru) : GoodV (planF V l) := by
  unfold planF
  split
  · exact h.of_pg rfl
  · exact h
end Go.Pol
namespace Go.Proofs.YtdepkmpilipolaaGreat
open Go Go.Proofs Go.RowKit Go.Pol Go.Shelf
attribute [local go_sem] Oper.semAt_some Go.Pol.wide_fn Go.Pol.wide_depth Go.Pol.wide_fn' Go.Pol.wide_depth'

/-- the three counts -/
structure Cnt3 (w W : World) (s D : Nat) (X : Nat → Prop) (a b c : Int) : Prop where
  k1 : Blk W (s + 1) 3 #[.int .i64 a]
  k2 : Blk W (s + 2) 3 #[.int .i64 b]
  k3 : Blk W (s + 3) 3 #[.int .i64 c]
  below : Below s w W
  size : D ≤ W.heap.size
  own : ∀ k, X k → D ≤ k
theorem Cnt3.far {w A B : World} {s D D0 : Nat} {X : Nat → Prop} {a b c : Int} (h : Cnt3 w A s D X a b c) (hf : Far (fun k => False ∨ X k ∨ k = D0 ∨ k = D0 + 1) A B) (hD : s + 4 ≤ D) (h0 : D ≤ D0) : Cnt3 w B s D X a b c := by
  have hn : ∀ k, k < D → ¬ (False ∨ X k ∨ k = D0 ∨ k = D0 + 1) := by
    rintro k hk (h' | h' | h' | h')
    · exact h'
    · have := h.own k h'; omega
    · omega
    · omega
  exact ⟨hf.blk h.k1 (hn _ (by omega)), hf.blk h.k2 (hn _ (by omega)), hf.blk h.k3 (hn _ (by omega)), h.below.trans (hf.below (by have := h.size; omega) (fun k hk => hn k (by omega))), Nat.le_trans h.size hf.size, h.own⟩
theorem Cnt3.new {w W : World} {s D : Nat} {X X' : Nat → Prop} {a b c : Int} (h : Cnt3 w W s D X a b c) (hX : ∀ k, X' k → X k ∨ W.heap.size ≤ k) : Cnt3 w W s D X' a b c :=
  ⟨h.k1, h.k2, h.k3, h.below, h.size, fun k hk => (hX k hk).elim (h.own k) (fun h' => by have := h.size; omega)⟩
theorem Cnt3.later {w A B : World} {s D D2 : Nat} {X : Nat → Prop} {a b c : Int} (h : Cnt3 w A s D X a b c) (hb : Below A.heap.size A B) (hD : D2 ≤ B.heap.size) (hs4 : s + 4 ≤ D) : Cnt3 w B s D2 (fun _ => False) a b c :=
  ⟨h.k1.call hb, h.k2.call hb, h.k3.call hb, h.below.trans (hb.mono (by have := h.size; omega)), hD, fun _ h => h.elim⟩

end Go.Proofs.YtdepkmpilipolaaGreat
namespace Go.Proofs.YtdepkmpilipolaaGreat
open Go Go.Proofs Go.RowKit Go.Pol Go.Shelf
attribute [local go_sem] Oper.semAt_some Go.Pol.wide_fn Go.Pol.wide_depth Go.Pol.wide_fn' Go.Pol.wide_depth'

theorem StIs.parts {w : World} {A1 A2 A3 : Option Addr} {n1 c1 n2 c2 n3 c3 : Nat} {C L : List Sp} {H : List Int} (h : StIs w (.agg #[.slice A1 n1 c1, .slice A2 n2 c2, .slice A3 n3 c3]) C L H) : RU w w.heap.size A1 C ∧ RU w w.heap.size A2 L ∧ RI w w.heap.size A3 H := by
  obtain ⟨_, _, _, _, _, _, _, _, _, e, _, _, u, _, _, v, _, _, z⟩ := h.ex
  cases e
  exact ⟨u, v, z⟩
end Go.Proofs.YtdepkmpilipolaaGreat
namespace Go.Proofs.YtdepkmpilipolaaGreat
open Go Go.Proofs Go.RowKit Go.Pol Go.Shelf
attribute [local go_sem] Oper.semAt_some Go.Pol.wide_fn Go.Pol.wide_depth Go.Pol.wide_fn' Go.Pol.wide_depth'

def IntsNC (r : List Int × Int) (w : World) (e : Ending) (w' : World) : Prop := ∃ (A : Option Addr) (cap : Nat), e = .returned (.tuple #[.slice A r.1.length cap, .int .i64 r.2]) ∧ RI w' w'.heap.size A r.1 ∧ (∀ b o, A = some ⟨b, o, none⟩ → w.heap.size ≤ b) ∧ r.1.length ≤ cap ∧ Below w.heap.size w w'
theorem IntsNC.e {r : List Int × Int} {w : World} {e : Ending} {w' : World} (h : IntsNC r w e w') : IntsE r w e w' := by
  obtain ⟨A, cap, h1, h2, _, _, h4⟩ := h
  exact ⟨A, cap, h1, h2, h4⟩
end Go.Proofs.YtdepkmpilipolaaGreat
namespace Go.Pol
open Go Go.RowKit
/-- one guard is lifted -/
def lftStep (S : List Sp × Int × Vm) (x : Sp) : List Sp × Int × Vm :=
  (if (bec S.2.2 x.1 x.2 4 3 1).1 = 0 then S.1 else S.1 ++ [x], if (bec S.2.2 x.1 x.2 4 3 1).1 = 0 then S.2.1 else if S.2.1 = 0 then (bec S.2.2 x.1 x.2 4 3 1).1 else S.2.1, (bec S.2.2 x.1 x.2 4 3 1).2)
/-- what Lift does -/
def liftG (V : Vm) (ck : Int) (G : List Sp) : List Sp × Int × Vm := if ck = 0 then G.foldl lftStep ([], 0, V) else ([], ck, V)
/-- spans and an error are handed back, the system changed -/
def SpanSys (b : Nat) (r : List Sp × Int × Vm) (w : World) (e : Ending) (w' : World) : Prop :=
  ∃ (A : Option Addr) (cap : Nat), e = .returned (.tuple #[.slice A r.1.length cap, .int .i64 r.2.1]) ∧ RU w' w'.heap.size A r.1 ∧ (∀ g o, A = some ⟨g, o, none⟩ → w.heap.size ≤ g) ∧ r.1.length ≤ maxLen ∧ SysIs w' b r.2.2 ∧ Far (fun k => k = b) w w'
end Go.Pol
namespace Go.Proofs.YtdepkmpilipolaaGreat
open Go Go.Proofs Go.RowKit Go.Pol Go.Shelf
attribute [local go_sem] Oper.semAt_some Go.Pol.wide_fn Go.Pol.wide_depth Go.Pol.wide_fn' Go.Pol.wide_depth'

set_option maxRecDepth 100000 in
set_option maxHeartbeats 3200000 in
theorem lift_any (b : Nat) (pg n f bk ev : Int) (V : Vm) (w : World) (hV : SysIs w b V) (hK : KindOk V) (hGl : (guardsF pg n f bk ev).length ≤ 512) :
    Calls Tryz.prog 14 #[.pointer (some ⟨b, 0, none⟩), planV pg n f bk ev] w (SpanSys b (liftG V (chkG pg n f bk ev) (guardsF pg n f bk ev)) w) := by
  obtain ⟨j0, hj, hy0, hy1, hy2⟩ := infoSp_parts
  have hb0 := (Below.refl w.heap.size w).alloc (Nat.le_refl _) (.cells (planC pg n f bk ev) 31)
  have k0 := Blk.new w 31 (planC pg n f bk ev)
  have HA := Lib.hid (fun W h => askG_any b pg n f bk ev V W h hK)
  have V0 := hV.call hb0
  have hbw := hV.lt
  have c0 := k0.cell
  obtain ⟨R, hR⟩ : ∃ R, liftG V (chkG pg n f bk ev) (guardsF pg n f bk ev) = R := ⟨_, rfl⟩
  rw [hR]
  have hR' := Lib.hid hR
  unfold liftG at hR'
  generalize chkG pg n f bk ev = ck at *
  generalize guardsF pg n f bk ev = G at *
  unfold SpansOwn at HA
  obtain ⟨gn, hgn⟩ : ∃ gn, G.length = gn := ⟨_, rfl⟩
  rw [hgn] at HA hGl
  have hgn' := Lib.hid hgn
  clear hV hK hR hgn
  by_cases h0 : ck = 0
  case neg =>
    have h0' : (ck != 0) = true := by simpa using h0
    have hR2 : Hid (R = ([], ck, V)) := Lib.hid (by rw [← hR'.out, if_neg h0])
    clear hR' h0
    go_enter Tryz.func14, Tryz.ntmps14
    go_wp2_with fail
    refine (HA.out _ V0).mono ?_
    rintro e w1 ⟨A1, c1, rfl, g1, g2, g3, g4, g5, g6⟩
    have B1 := hb0.trans (g5.mono hb0.size)
    have V1 := V0.call g5
    clear HA V0
    go_wp2_with fail
    go_ret2
    rw [hR2.out]
    exact ⟨none, 0, rfl, RU.nil, fun _ _ h => (by cases h), by unfold maxLen; simp, V1, .of_below B1⟩
  case pos =>
    subst h0
    have hR2 : Hid (G.foldl lftStep ([], 0, V) = R) := Lib.hid (by rw [← hR'.out, if_pos rfl])
    clear hR'
    go_enter Tryz.func14, Tryz.ntmps14
    go_wp2_with fail
    refine (HA.out _ V0).mono ?_
    rintro e w1 ⟨A1, c1, rfl, g1, g2, g3, g4, g5, g6⟩
    have B1 := hb0.trans (g5.mono hb0.size)
    have V1 := Lib.hid (V0.call g5)
    have hs1 := B1.size
    have hA1 : ∀ g o, A1 = some ⟨g, o, none⟩ → ¬ g = b := fun g o e h => by have := g4 g o e; have := hb0.size; omega
    have g1' := Lib.hid g1
    have hgm : gn ≤ maxLen := by omega
    have hgm' := Lib.hid hgm
    have hA1' := Lib.hid hA1
    unfold maxLen at hgm
    have hB1 := Lib.hid B1
    clear HA V0 g1 g2 g3 g4 g5 g6 hA1 c0 k0 hb0 B1
    go_wp2_with fail
    go_loopw [4, 5, 21] (fun v4 v5 i wr => ∃ (k : Nat) (L : List Sp) (er : Int) (T : Vm), k ≤ gn ∧ i = .int .i64 k ∧ v5 = .int .i64 er ∧ L.length ≤ k ∧ Hid ((G.drop k).foldl lftStep (L, er, T) = R) ∧ wr.ownsRow w1.heap.size 64 2 v4 L.length (spCells L) ∧ Hid (SysIs wr b T) ∧ Far (fun k => k = b) w1 wr) (fun _ _ i _ => gn - (intOf i).toNat)
    case atStart => exact ⟨0, [], 0, V, by omega, rfl, rfl, by simp, Lib.hid (by simpa using hR2.out), World.ownsRow_nil _ _ _ _, V1, Far.refl _ _⟩
    case round =>
      clear V1
      obtain ⟨k, L, er, T, hk, rfl, rfl, hL, hfl, hrow, hT, hF⟩ := hrel
      have hs4 := hF.size
      have hbz := hT.out.lt
      by_cases hlt : k < gn
      · have hlt' : decide ((k : Int) < (gn : Int)) = true := by simpa using hlt
        obtain ⟨rb, ro, rfl, hrb, c5, c6⟩ := g1'.out.at_' (k := k) (by have := hgn'.out; omega)
        have hne := hA1'.out _ _ rfl
        have d5 := hF.cell c5 (by show ¬ rb = b; omega)
        have d6 := hF.cell c6 (by show ¬ rb = b; omega)
        have hsn := hfl.out
        rw [Go.Pol.drop_cons (0, 0) G k (by have := hgn'.out; omega), List.foldl_cons] at hsn
        generalize G.getD k (0, 0) = x at *
        obtain ⟨xa, xb⟩ := x
        rw [show lftStep (L, er, T) (xa, xb) = (if (bec T xa xb 4 3 1).1 = 0 then L else L ++ [(xa, xb)], if (bec T xa xb 4 3 1).1 = 0 then er else if er = 0 then (bec T xa xb 4 3 1).1 else er, (bec T xa xb 4 3 1).2) from rfl] at hsn
        simp only at d5 d6
        have hsn' := Lib.hid hsn
        have kx := Blk.new wr 64 #[.int .i64 xa, .int .i64 xb]
        have hbx : Below wr.heap.size wr (wr.alloc (.cells #[.int .i64 xa, .int .i64 xb] 64)) := (Below.refl _ _).alloc (Nat.le_refl _) _
        have cx := kx.cell
        obtain ⟨gx, hgx⟩ : ∃ gx, wr.heap.size = gx := ⟨_, rfl⟩
        rw [hgx] at kx cx
        clear hsn c5 c6 hfl
        go_upto_region 7 with fail
        have Tx := Lib.hid (hT.out.call hbx)
        have rowx := ownsRow_call hrow hbx
        have hFx : Far (fun k => k = b) w1 _ := hF.trans (.of_below hbx)
        generalize wr.alloc _ = w5 at *
        try simp only [hgx]
        have HD := Lib.hid (unguard_any b xa xb T w5 Tx.out)
        clear hbx hT hrow hF d5 d6
        go_wp2_with fail
        refine HD.out.mono ?_
        rintro e w6 ⟨rfl, V6, F6⟩
        have V6' := Lib.hid V6
        have row6 := ownsRow_far rowx F6 (fun g hg h => by have := (rowx.lt g hg).1; omega)
        have hF6 := hFx.trans F6
        have kx6 := F6.blk kx (by show ¬ gx = b; omega)
        generalize bec T xa xb 4 3 1 = J at *
        obtain ⟨je, jV⟩ := J
        simp only at hsn' V6'
        have hsn2 := hsn'.out
        clear HD Tx rowx hFx F6 V6 hsn' kx cx
        by_cases hj2 : je = 0
        · subst hj2
          rw [if_pos rfl, if_pos rfl] at hsn2
          have hsn3 := Lib.hid hsn2
          clear hsn2
          go_wp2_with fail
          go_roundw
          case rel => exact ⟨k + 1, L, er, jV, by omega, by go_num, rfl, by omega, hsn3, row6, V6', hF6⟩
          case measure => simp [intOf]; omega
        · have hj' : (je != 0) = true := by simpa using hj2
          rw [if_neg hj2, if_neg hj2] at hsn2
          have hsn3 := Lib.hid hsn2
          have cx := kx6.cell
          have hs6 := hF6.size
          have hsc := Lib.hid (spCells_snoc L (xa, xb))
          have hlc := Lib.hid (spCells_len L)
          have kN := Blk.new w6 64 #[.int .i64 xa, .int .i64 xb]
          have hbN : Below w6.heap.size w6 (w6.alloc (.cells #[.int .i64 xa, .int .i64 xb] 64)) := (Below.refl _ _).alloc (Nat.le_refl _) _
          clear hsn2 hj2
          by_cases he : er = 0
          · subst he
            have hsn4 := hsn3.out
            rw [if_pos rfl] at hsn4
            have hsn5 := Lib.hid hsn4
            clear hsn3 hsn4
            go_wp2_with (refine wpList_append_own _ rfl (.tmp 33) (.tmp 35) 22 rfl w1.heap.size 64 j0 (.agg #[.int .i64 0, .int .i64 0]) 2 16 Tryz.underlying22 hj hy0 hy1 hy2 rfl (by decide) _ L.length (spCells L) rfl (row6.alloc _) ⟨w6.heap.size, 0, none⟩ 1 1 [.int .i64 xa, .int .i64 xb] rfl rfl (news_two kN) news_one2 (by unfold maxLen; omega) (by omega) (by simp; omega) ?_; intro v' w7 hown' hgrow _; rw [← hsc.out] at hown')
            go_roundw
            case rel =>
              have F7 : Far (fun k => w1.heap.size ≤ k) w6 w7 := (Far.of_below hbN).grown hgrow (fun g hg hlt => (row6.lt g hg).1)
              have F37 : Far (fun k => k = b) w1 w7 := hF6.trans' F7 (fun i hi h => by omega)
              have F8 := (Far.of_below hbN).grown hgrow (T := fun k => Value.ownBlock _ = some k) (fun g hg _ => hg)
              exact ⟨k + 1, L ++ [(xa, xb)], _, jV, by omega, by go_num, rfl, by rw [List.length_append]; exact Nat.succ_le_succ hL, hsn5, by rw [List.length_append]; exact hown', Lib.hid (V6'.out.far F8 (fun h => by have := (row6.lt b h).1; omega) (fun _ _ _ _ _ _ g _ _ _ hc hg => hc.elim fun cr hcr => own_other row6 hg hcr (by decide))), F37⟩
            case measure => simp [intOf]; omega
          · have he' : (er == 0) = false := by simpa using he
            have hsn4 := hsn3.out
            rw [if_neg he] at hsn4
            have hsn5 := Lib.hid hsn4
            clear hsn3 hsn4 he
            go_wp2_with (refine wpList_append_own _ rfl (.tmp 33) (.tmp 35) 22 rfl w1.heap.size 64 j0 (.agg #[.int .i64 0, .int .i64 0]) 2 16 Tryz.underlying22 hj hy0 hy1 hy2 rfl (by decide) _ L.length (spCells L) rfl (row6.alloc _) ⟨w6.heap.size, 0, none⟩ 1 1 [.int .i64 xa, .int .i64 xb] rfl rfl (news_two kN) news_one2 (by unfold maxLen; omega) (by omega) (by simp; omega) ?_; intro v' w7 hown' hgrow _; rw [← hsc.out] at hown')
            go_roundw
            case rel =>
              have F7 : Far (fun k => w1.heap.size ≤ k) w6 w7 := (Far.of_below hbN).grown hgrow (fun g hg hlt => (row6.lt g hg).1)
              have F37 : Far (fun k => k = b) w1 w7 := hF6.trans' F7 (fun i hi h => by omega)
              have F8 := (Far.of_below hbN).grown hgrow (T := fun k => Value.ownBlock _ = some k) (fun g hg _ => hg)
              exact ⟨k + 1, L ++ [(xa, xb)], _, jV, by omega, by go_num, rfl, by rw [List.length_append]; exact Nat.succ_le_succ hL, hsn5, by rw [List.length_append]; exact hown', Lib.hid (V6'.out.far F8 (fun h => by have := (row6.lt b h).1; omega) (fun _ _ _ _ _ _ g _ _ _ hc hg => hc.elim fun cr hcr => own_other row6 hg hcr (by decide))), F37⟩
            case measure => simp [intOf]; omega
      · obtain rfl : k = gn := by omega
        have hlt' : decide ((k : Int) < (k : Int)) = false := by simp
        have hR3 : Hid (R = (L, er, T)) := Lib.hid (by rw [← hfl.out, List.drop_of_length_le (by have := hgn'.out; omega)]; rfl)
        obtain ⟨A5, cap5, rfl, hru5, _, _, hfr5, _⟩ := own_RU hrow rfl
        have FF := (Far.of_below hB1.out).trans hF
        clear hR2 hfl
        go_wp2_with fail
        go_ret2
        rw [hR3.out]
        exact ⟨A5, cap5, rfl, hru5, fun g o e => by have := hfr5 g o e; omega, by have := hgm'.out; show L.length ≤ maxLen; omega, hT.out, FF⟩
end Go.Proofs.YtdepkmpilipolaaGreat
namespace Go.Pol
open Go Go.RowKit
/-- the error that is to be handed back -/
def ErS (g : Nat) (x : Int) (W : World) : Prop := W.cell? ⟨g, 0, none⟩ = some (.int .i64 x) ∧ True
end Go.Pol
namespace Go.Proofs.YtdepkmpilipolaaGreat
open Go Go.Proofs Go.RowKit Go.Pol Go.Shelf
attribute [local go_sem] Oper.semAt_some Go.Pol.wide_fn Go.Pol.wide_depth Go.Pol.wide_fn' Go.Pol.wide_depth'

theorem guardsF_len (pg n f bk ev : Int) : (guardsF pg n f bk ev).length ≤ 512 := by
  by_cases h : chkG pg n f bk ev = 0
  · exact (guards_set (chkG_zero.1 h)).1.len
  · unfold guardsF; rw [if_neg h]; exact Nat.zero_le _
set_option maxHeartbeats 800000 in
theorem liftNil_any (pg n f bk ev : Int) (w : World) :
    Calls Tryz.prog 14 #[.pointer none, planV pg n f bk ev] w fun e w' => e = .returned (.tuple #[.slice none 0 0, .int .i64 1]) ∧ Below w.heap.size w w' := by
  have hb0 := (Below.refl w.heap.size w).alloc (Nat.le_refl _) (.cells (planC pg n f bk ev) 31)
  have k0 := Blk.new w 31 (planC pg n f bk ev)
  have c0 := k0.cell
  have HA := Lib.hid (fun W => askNil_any pg n f bk ev W)
  go_enter Tryz.func14, Tryz.ntmps14
  go_wp2_with fail
  refine (HA.out _).mono ?_
  rintro e w1 ⟨rfl, hb1⟩
  have B1 := hb0.trans (hb1.mono hb0.size)
  go_wp2_with fail
  go_ret2
  exact ⟨rfl, B1⟩
/-- the boxes that Place makes -/
theorem place_boxes (p : Value) (C : Array Value) (w : World) : ∃ w0 : World, w0 = (((w.alloc (.cells #[p] 34)).alloc (.cells C 31)).alloc (.cells #[.slice none 0 0] 22)).alloc (.cells #[.int .i64 0] 35) ∧
    w0.heap.size = w.heap.size + 4 ∧ Below w.heap.size w w0 ∧ Blk w0 w.heap.size 34 #[p] ∧ Blk w0 (w.heap.size + 1) 31 C ∧ Blk w0 (w.heap.size + 2) 22 #[.slice none 0 0] ∧ Blk w0 (w.heap.size + 3) 35 #[.int .i64 0] := by
  have e1 := World.size_alloc w (.cells #[p] 34)
  have e2 := World.size_alloc (w.alloc (.cells #[p] 34)) (.cells C 31)
  have e3 := World.size_alloc ((w.alloc (.cells #[p] 34)).alloc (.cells C 31)) (.cells #[.slice none 0 0] 22)
  have e4 := World.size_alloc (((w.alloc (.cells #[p] 34)).alloc (.cells C 31)).alloc (.cells #[.slice none 0 0] 22)) (.cells #[.int .i64 0] 35)
  have k1 := ((Blk.new w 34 #[p]).alloc (.cells C 31)).alloc (.cells #[.slice none 0 0] 22) |>.alloc (.cells #[.int .i64 0] 35)
  have k2 := ((Blk.new (w.alloc (.cells #[p] 34)) 31 C).alloc (.cells #[.slice none 0 0] 22)).alloc (.cells #[.int .i64 0] 35)
  have k3 := (Blk.new ((w.alloc (.cells #[p] 34)).alloc (.cells C 31)) 22 #[.slice none 0 0]).alloc (.cells #[.int .i64 0] 35)
  have k4 := Blk.new (((w.alloc (.cells #[p] 34)).alloc (.cells C 31)).alloc (.cells #[.slice none 0 0] 22)) 35 #[.int .i64 0]
  have hb := ((((Below.refl w.heap.size w).alloc (Nat.le_refl _) (.cells #[p] 34)).alloc (by omega) (.cells C 31)).alloc (by omega) (.cells #[.slice none 0 0] 22)).alloc (by omega) (.cells #[.int .i64 0] 35)
  rw [e1] at k2
  rw [e2, e1] at k3
  rw [e3, e2, e1] at k4
  exact ⟨_, rfl, by omega, hb, k1, k2, k3, k4⟩
set_option maxRecDepth 100000 in
set_option maxHeartbeats 800000 in
theorem placeNil_any (pg n f bk ev : Int) (w : World) :
    Calls Tryz.prog 8 #[.pointer none, planV pg n f bk ev] w fun e w' => e = .returned (.tuple #[.slice none 0 0, .int .i64 1]) ∧ Below w.heap.size w w' := by
  have HA := Lib.hid (fun W => askNil_any pg n f bk ev W)
  obtain ⟨w0, hw0, hsz, hB0, k1, k2, k3, k4⟩ := place_boxes (.pointer none) (planC pg n f bk ev) w
  obtain ⟨s, hs⟩ : ∃ s, w.heap.size = s := ⟨_, rfl⟩
  rw [hs] at k1 k2 k3 k4
  go_enter_defers Tryz.func8, Tryz.ntmps8
  go_upto_region 1 with fail
  unfold planC at hw0
  try simp only [hs]
  rw [← hw0]
  have c1 := k1.cell
  have c2 := k2.cell
  clear hw0
  go_wp2_with fail
  refine (HA.out _).mono ?_
  rintro e w1 ⟨rfl, hb1⟩
  have k51 := k4.call hb1
  have k41 := k3.call hb1
  have B1 := hB0.trans (hb1.mono hB0.size)
  have f5 := k51.frozen
  have c5 := k51.cell
  have hb2 : Below w.heap.size w (w1.setCell ⟨s + 1 + 1 + 1, 0, none⟩ (.int .i64 1)) := B1.setCell (p := ⟨s + 1 + 1 + 1, 0, none⟩) (by show w.heap.size ≤ s + 1 + 1 + 1; omega) _
  have F2 : Far (fun k => k = s + 3) w1 (w1.setCell ⟨s + 3, 0, none⟩ (.int .i64 1)) := Far.setCell (T := fun k => k = s + 3) (p := ⟨s + 3, 0, none⟩) (Far.refl _ _) (fun _ => rfl) _
  have k52 := k51.set_ 0 (.int .i64 1)
  have k42 := F2.blk k41 (by show ¬ s + 2 = s + 3; omega)
  clear HA c1 c2 k1 k2 k3 k4 hB0 hb1 k41 k51 F2 B1
  go_upto_region 2 with fail
  generalize w1.setCell _ _ = w2 at *
  clear c5 f5
  have c5 := k52.cell
  go_upto_region 3 with fail
  clear c5
  refine wp_noPanic ?_
  refine wp_region_T (ErS (s + 1 + 1 + 1) 1) [2] (by kernel_rfl) ?_
  have kd4 := k42.drew
  have kd5 := k52.drew
  have hBd := (hb2).drew
  generalize (w2).drew = wd at *
  have hS : ErS (s + 1 + 1 + 1) 1 wd := ⟨kd5.cell 0, trivial⟩
  have fz4 := kd4.frozen
  refine' wpAnyT_take (i := 0) (v := _) ?hiT0 (by kernel_rfl) ?hQT0 (Or.inl ⟨?hwT0, ?hyT0⟩) hS ?reT0
  case hiT0 => (simp only [List.getElem?_toArray, List.getElem?_cons_zero]; rfl)
  case hQT0 => exact fun _ _ _ h => h
  case hwT0 => rfl
  case hyT0 => (intro wS hSw; obtain ⟨_, _⟩ := hSw; go_simp; (try with_reducible rfl))
  try simp only [Act.put, List.setIfInBounds_toArray, List.set_cons_zero, List.set_cons_succ]
  refine wpAnyT_ready (rs := [1]) (by kernel_rfl) (by simp) ?_
  refine' AllReadyT.cons ?hi1 (fun K hK => ?st1) AllReadyT.nil
  case hi1 => (simp only [List.getElem?_toArray, List.getElem?_cons_succ, List.getElem?_cons_zero]; rfl)
  have z4 := kd4.cell
  go_simp
  refine hK.out _ _ (fun _ => ⟨((Far.setCell (T := fun k => k = s + 2) (p := ⟨s + 1 + 1, 0, none⟩) (Far.refl _ wd) (fun _ => rfl) (.slice none 0 0)).cell (kd5.cell 0) (by show ¬ s + 3 = s + 2; omega)), trivial⟩) (fun _ => ?_)
  clear hK K fz4 z4 hS
  have Fx : Far (fun k => k = s + 2) wd (wd.setCell ⟨s + 2, 0, none⟩ (.slice none 0 0)) := Far.setCell (T := fun k => k = s + 2) (p := ⟨s + 2, 0, none⟩) (Far.refl _ _) (fun _ => rfl) _
  have ke4 := kd4.set_ 0 (.slice none 0 0)
  have ke5 := Fx.blk kd5 (by show ¬ s + 3 = s + 2; omega)
  have hBe : Below w.heap.size w (wd.setCell ⟨s + 1 + 1, 0, none⟩ (.slice none 0 0)) := hBd.setCell (p := ⟨s + 1 + 1, 0, none⟩) (by show w.heap.size ≤ s + 1 + 1; omega) _
  generalize wd.setCell _ _ = we at *
  try simp only [Act.put, List.setIfInBounds_toArray, List.set_cons_zero, List.set_cons_succ]
  have fz5 := ke5.frozen
  have z5 := ke5.cell
  refine wpAnyT_ready (rs := [2]) (by kernel_rfl) (by simp) ?_
  refine' AllReadyT.cons ?hi2 (fun K hK => ?st2) AllReadyT.nil
  case hi2 => (simp only [List.getElem?_toArray, List.getElem?_cons_succ, List.getElem?_cons_zero]; rfl)
  go_simp
  refine hK.out _ _ (fun h => by cases h) (fun _ => ?_)
  clear hK K fz5 z5
  have Fy : Far (fun k => k = s + 3) we (we.setCell ⟨s + 3, 0, none⟩ (.int .i64 1)) := Far.setCell (T := fun k => k = s + 3) (p := ⟨s + 3, 0, none⟩) (Far.refl _ _) (fun _ => rfl) _
  have kf5 := ke5.set_ 0 (.int .i64 1)
  have kf4 := Fy.blk ke4 (by show ¬ s + 2 = s + 3; omega)
  have hend : Below w.heap.size w (we.setCell ⟨s + 1 + 1 + 1, 0, none⟩ (.int .i64 1)) := hBe.setCell (p := ⟨s + 1 + 1 + 1, 0, none⟩) (by show w.heap.size ≤ s + 1 + 1 + 1; omega) _
  generalize we.setCell _ _ = wf at *
  try simp only [Act.put, List.setIfInBounds_toArray, List.set_cons_zero, List.set_cons_succ]
  refine wpAnyT_done (by kernel_rfl) ?_ _
  refine noPanic_normal ?_
  have c4 := kf4.cell
  have c5 := kf5.cell
  go_wp2_with fail
  refine ⟨_, ?_, rfl, hend⟩
  simp [results, Tryz.results8, go_sem, c4, c5]
end Go.Proofs.YtdepkmpilipolaaGreat
namespace Go.Pol
open Go Go.RowKit
/-- the deferred calls are made one after the other -/
theorem leaves_inv {P : Program} {fn : Func} {tmps : Array Value} {R : Ending → World → Prop} (I : List Deferred → World → Prop)
    (hfin : ∀ w, I [] w → ∃ v, (results fn tmps).run P w = .ok v w ∧ R (.returned v) w)
    (hstep : ∀ d ds w, I (d :: ds) w → ∃ fv cap f args, d.target = .fn fv cap ∧ (invoke d.target d.args).run P w = .ok (.enter f args) w ∧ CallsD P f args .returning w (fun e u' w' => u' = .returning ∧ ((∃ v, e = .returned v) ∧ I ds w'))) :
    ∀ ds w, I ds w → Leaves P fn tmps R ds .returning w
  | [], w, h => hfin w h
  | d :: ds, w, h => by
    obtain ⟨fv, cap, f, args, ht, hi, hc⟩ := hstep d ds w h
    refine ⟨by simp, fv, cap, f, args, ht, hi, hc.mono ?_⟩
    rintro e u' w' ⟨rfl, ⟨v, rfl⟩, hI⟩
    exact leaves_inv I hfin hstep ds w' hI
end Go.Pol
namespace Go.Proofs.YtdepkmpilipolaaGreat
open Go Go.Proofs Go.RowKit Go.Pol Go.Shelf
attribute [local go_sem] Oper.semAt_some Go.Pol.wide_fn Go.Pol.wide_depth Go.Pol.wide_fn' Go.Pol.wide_depth'

set_option maxRecDepth 100000 in
set_option maxHeartbeats 800000 in
/-- nothing is to be undone -/
theorem place1Ok_any (p0 p1 p2 p3 : Nat) (w : World) (k0 : Blk w p0 35 #[.int .i64 0]) :
    CallsD Tryz.prog 34 #[.pointer (some ⟨p0, 0, none⟩), .pointer (some ⟨p1, 0, none⟩), .pointer (some ⟨p2, 0, none⟩), .pointer (some ⟨p3, 0, none⟩)] .returning w fun e u' w' => u' = .returning ∧ ((∃ v, e = .returned v) ∧ w' = w) := by
  have c0 := k0.cell
  go_enter_d Tryz.func34, Tryz.ntmps34
  go_wp2_with fail
  exact ⟨rfl, _, by simp [results, Tryz.results34, go_sem]; rfl, ⟨_, rfl⟩, rfl⟩
set_option maxRecDepth 100000 in
set_option maxHeartbeats 800000 in
/-- a guard is taken away again -/
theorem place1Un_any (b p0 p1 p2 p3 : Nat) (er xa xb : Int) (V : Vm) (w : World) (hV : SysIs w b V) (he : er ≠ 0) (k0 : Blk w p0 35 #[.int .i64 er]) (k1 : Blk w p1 34 #[.pointer (some ⟨b, 0, none⟩)]) (k2 : Blk w p2 64 #[.int .i64 xa, .int .i64 xb])
    (h0 : (bec V xa xb 4 3 1).1 = 0) :
    CallsD Tryz.prog 34 #[.pointer (some ⟨p0, 0, none⟩), .pointer (some ⟨p1, 0, none⟩), .pointer (some ⟨p2, 0, none⟩), .pointer (some ⟨p3, 0, none⟩)] .returning w fun e u' w' => u' = .returning ∧ ((∃ v, e = .returned v) ∧ SysTo b (bec V xa xb 4 3 1).2 w w') := by
  have c0 := k0.cell
  have c1 := k1.cell
  have c2 := k2.cell
  have he' : (er != 0) = true := by simpa using he
  have HD := Lib.hid (unguard_any b xa xb V w hV)
  rw [h0] at HD
  generalize (bec V xa xb 4 3 1).2 = J at *
  clear he hV h0
  go_enter_d Tryz.func34, Tryz.ntmps34
  go_wp2_with fail
  refine HD.out.mono ?_
  rintro e w1 ⟨rfl, hS⟩
  clear HD
  go_wp2_with fail
  exact ⟨rfl, _, by simp [results, Tryz.results34, go_sem]; rfl, ⟨_, rfl⟩, hS⟩
end Go.Proofs.YtdepkmpilipolaaGreat
namespace Go.Pol
open Go Go.RowKit
/-- a new system of the reference is handed back; its rules are none -/
def RNewO (B : Nat) (w : World) (e : Ending) (w' : World) : Prop := ∃ b, e = .returned (.tuple #[.pointer (some ⟨b, 0, none⟩), .int .i64 0]) ∧ RefIs w' B b newVm ∧ w.heap.size ≤ b ∧ Below w.heap.size w w'
end Go.Pol
namespace Go.Proofs.YtdepkmpilipolaaGreat
open Go Go.Proofs Go.RowKit Go.Pol Go.Shelf
attribute [local go_sem] Oper.semAt_some Go.Pol.wide_fn Go.Pol.wide_depth Go.Pol.wide_fn' Go.Pol.wide_depth'

set_option maxRecDepth 100000 in
set_option maxHeartbeats 1600000 in
theorem new6_any (B : Nat) (w : World) (hB : B ≤ w.heap.size) :
    Calls Tryz.prog 28 #[.agg #[.slice none 0 0]] w (RNewO B w) := by
  have hb0 := (Below.refl w.heap.size w).alloc (Nat.le_refl _) (.cells #[.slice none 0 0] 25)
  have k0 := Blk.new w 25 #[.slice none 0 0]
  have c0 := k0.cell
  have HS := Lib.hid (fun W => rstart_any none 0 0 [] W rfl (fun k hk => absurd hk (by simp [fl])))
  unfold RStartO at HS
  have hch : chkR [] = (0, 0) := by decide
  rw [hch] at HS
  simp only [if_true] at HS
  go_enter Tryz.func28, Tryz.ntmps28
  go_wp2_with fail
  refine (HS.out _).mono ?_
  rintro e w1 ⟨rfl, hb1⟩
  have B1 := hb0.trans (hb1.mono hb0.size)
  have hB2 := B1.alloc B1.size (.cells (rfC (.slice none 0 0) (fun _ => 0) (fun _ => 0)).toArray 51)
  have hzs := Tryz.zeroCells94_size
  have hzz := zeroRef
  obtain ⟨zc, hzc⟩ : ∃ zc, Tryz.zeroCells94 = zc := ⟨_, rfl⟩
  rw [hzc] at hzs hzz
  have hne : ¬ zc = #[] := fun e => by rw [e] at hzs; simp at hzs
  have hC := Lib.hid (newRef hzz (.slice none 0 0))
  have kz := Blk.new w1 51 (rfC (.slice none 0 0) (fun _ => 0) (fun _ => 0)).toArray
  clear hzz c0 k0 HS
  unfold rfC at hB2 kz
  unfold rfV rfC
  go_upto_region 4 with fail
  generalize w1.alloc _ = w2 at *
  have cz := kz.cell
  have hB3 := hB2.alloc hB2.size (.cells (putA zc 66624 (rfC (.slice none 0 0) (fun _ => 0) (fun _ => 0))) 94)
  have kS := Blk.new w2 94 (putA zc 66624 (rfC (.slice none 0 0) (fun _ => 0) (fun _ => 0)))
  have hbs := hB2.size
  go_wp2_with fail
  go_ret2
  refine ⟨w2.heap.size, rfl, ?_, hbs, hB3⟩
  exact ⟨_, none, 0, 0, kS, hC.out, ⟨rfl, fun _ => rfl⟩, fun k hk => absurd hk (by simp [fl, newVm]), by omega, ⟨by decide, fun k _ => ⟨Int.le_refl _, (by show (0 : Int) ≤ 1000000; decide)⟩, fun k _ => rfl⟩⟩
set_option maxRecDepth 100000 in
set_option maxHeartbeats 1600000 in
theorem plan6_any (B b : Nat) (A : Option Addr) (n cap : Nat) (l : List Ru) (V : Vm) (w : World) (hV : RefIs w B b V) (hn : l.length = n) (hz : A = none → cap = 0) (hr : Rd w B A (fl ruC l)) :
    Calls Tryz.prog 32 #[.pointer (some ⟨b, 0, none⟩), .agg #[.slice A n cap]] w fun e w' => e = .returned (.int .i64 (chkR l).2) ∧ RefTo B b (planF V l) w w' := by
  have hb0 := (Below.refl w.heap.size w).alloc (Nat.le_refl _) (.cells #[.slice A n cap] 25)
  have k0 := Blk.new w 25 #[.slice A n cap]
  have c0 := k0.cell
  have hbs := hV.lt
  have hbB := hV.base
  have r0 := (hr.more (show B ≤ w.heap.size by omega)).on_ hb0
  have HS := Lib.hid (fun W h => rstart_any A n cap l W hn h)
  have hV' := Lib.hid hV
  have hr' := Lib.hid hr
  have hn' := Lib.hid hn
  have hz' := Lib.hid hz
  unfold RefTo
  obtain ⟨P, hP⟩ : ∃ P, planF V l = P := ⟨_, rfl⟩
  rw [hP]
  unfold planF at hP
  have hnk := Lib.hid (newRf_ok (l := l))
  unfold RStartO at HS
  obtain ⟨f0, hf0⟩ : ∃ f0 : Nat → Int, (fun _ : Nat => (0 : Int)) = f0 := ⟨_, rfl⟩
  have e1 : (newRf l).calls = f0 := hf0
  have e2 : (newRf l).hits = f0 := hf0
  have e12 := Lib.hid (And.intro e1 e2)
  rw [hf0] at HS
  clear e1 e2 hf0
  generalize (chkR l).2 = re at *
  have hP' := Lib.hid hP
  clear hP hV hr k0 hn hz
  go_enter Tryz.func32, Tryz.ntmps32
  go_upto_region 1 with fail
  generalize w.alloc _ = w0 at *
  go_wp2_with fail
  refine (HS.out _ r0).mono ?_
  rintro e w1 ⟨rfl, hb1⟩
  by_cases h0 : re = 0
  · have hP2 := hP'.out
    rw [if_pos h0] at hP2
    rw [if_pos h0]
    have B1 := hb0.trans (hb1.mono hb0.size)
    have hbz := (Below.refl w1.heap.size w1).alloc (Nat.le_refl _) (.cells (rfC (.slice A n cap) f0 f0).toArray 51)
    have hb2 := B1.trans (hbz.mono B1.size)
    have hput := hV'.out.putRf (newRf l) A n cap hb2 hn'.out hz'.out (hr'.out.keepB (T := fun _ => False) (Far.of_below hb2) (fun _ h => h.elim)) (hnk.out h0)
    obtain ⟨cs9, A9, n9, c9, k8, h9, h10⟩ := hV'.out.ex
    have k9 := k8.call hb2
    have hcs9 := h9.size
    have kz := Blk.new w1 51 (rfC (.slice A n cap) f0 f0).toArray
    clear h10 h9 hb2 HS hP' c0 r0 k8
    rw [e12.out.1, e12.out.2] at hput
    change RefIs (World.setCells _ b 66624 (rfC (.slice A n cap) f0 f0)) B b { V with rf := newRf l } ∧ Far (fun k => k = b) w (World.setCells _ b 66624 (rfC (.slice A n cap) f0 f0)) at hput
    rw [hP2] at hput
    subst h0
    have hput' := Lib.hid hput
    clear hput hP2
    unfold rfC at hbz k9 hput' kz
    unfold rfV rfC
    obtain ⟨s, hs⟩ : ∃ s, w1.heap.size = s := ⟨_, rfl⟩
    rw [hs] at kz
    go_upto_region 2 with fail
    generalize w1.alloc _ = w2 at *
    clear hs hbz
    have cz := kz.cell
    have ht : w2.there b 66624 (rfC (.slice A n cap) f0 f0).toArray.size := z_there k9 66624 15 (by omega)
    have hone := Go.all_oneCell_toArray (rfC_one (v := .slice A n cap) rfl f0 f0)
    have hput2 : Hid (RefIs (w2.setCells b 66624 (rfC (.slice A n cap) f0 f0)) B b P ∧ Far (fun k => k = b) w (w2.setCells b 66624 (rfC (.slice A n cap) f0 f0))) := hput'
    clear hcs9 k9 kz hput'
    go_wp2_with (refine wpList_store_mid rfl 51 (.tmp 17) (.tmp 15) rfl b 66624 (rfC (.slice A n cap) f0 f0).toArray ?hxx ?hyy ht infoRf hone ?_)
    case hxx => rfl
    case hyy => rfl
    generalize w2.setCells b 66624 _ = w4 at *
    go_ret
    exact ⟨rfl, hput2.out.1, hput2.out.2⟩
  · have hP2 := hP'.out
    rw [if_neg h0] at hP2
    subst hP2
    rw [if_neg h0]
    have he : (re == 0) = false := by simpa using h0
    have hbz := (hb0.trans (hb1.mono hb0.size)).alloc (by have := hb0.size; have := hb1.size; omega) (.cells (rfC (.slice none 0 0) f0 f0).toArray 51)
    unfold rfC at hbz
    have V1 := hV'.out.call hbz
    clear HS hP' c0 r0
    unfold rfV rfC
    go_wp2_with fail
    go_ret
    exact ⟨rfl, V1, .of_below hbz⟩
end Go.Proofs.YtdepkmpilipolaaGreat
namespace Go.Proofs.YtdepkmpilipolaaGreat
open Go Go.Proofs Go.RowKit Go.Pol Go.Shelf
attribute [local go_sem] Oper.semAt_some Go.Pol.wide_fn Go.Pol.wide_depth Go.Pol.wide_fn' Go.Pol.wide_depth'
/-- a cell of an own row put anew -/
theorem own_bump {w : World} {base n sz g i cap : Nat} {e : TypeId} {xs : List Value} {v : Value} (h : w.ownsRow base e sz (.slice (some ⟨g, 0, none⟩) n cap) n xs) (_ : i < n * sz) :
    (w.setCell ⟨g, i, none⟩ v).ownsRow base e sz (.slice (some ⟨g, 0, none⟩) n cap) n (xs.set i v) := by
  refine ⟨by rw [List.length_set]; exact h.1, ?_⟩
  rcases h.2 with ⟨hn, _⟩ | ⟨g', cap', cur, hv, hb, hk, hc, hm, hs, ht⟩
  · cases hn
  · cases hv
    have hk' : Blk w g e cur := hk
    refine .inr ⟨g, cap, cur.setIfInBounds i v, rfl, hb, hk'.set_ i v, hc, hm, by rw [Array.size_setIfInBounds]; exact hs, ?_⟩
    rw [Array.toList_setIfInBounds, List.take_set, ht]
theorem fl_bump (l : List Rn) (x : Rn) : fl rnC (l ++ [(x.1, x.2.1 + 1, x.2.2)]) = (fl rnC (l ++ [x])).set (l.length * 3 + 1) (.int .i64 (x.2.1 + 1)) := by
  rw [fl_append, fl_append, List.set_append_right _ _ (by rw [fl_len rnC_len]; omega), fl_len rnC_len, show l.length * 3 + 1 - l.length * 3 = 1 by omega]
  rfl
theorem rnC_one1 (x : Rn) : ∀ u ∈ rnC x, u.oneCell' = true := fun u hu => rnC_one [x] u (by simpa [fl] using hu)
theorem news_list {w : World} {g : Nat} {t : TypeId} {l : List Value} (h : Blk w g t l.toArray) : ∀ (j : Nat) (u : Value), l[j]? = some u → w.cell? ((⟨g, 0, none⟩ : Addr).add j) = some u := fun j u hu => by
  rw [addr_add0, Nat.zero_add, h.cell]; simpa using hu
theorem yieldsIf_build {P : Program} {ops : Array Oper} {S : World → Prop} {op : Oper} {a : Act} (hw : Region.wanted op (yielded ops a.tmps) = true) (t : TypeId) (parts : List (Nat × Operand)) (ho : op.op = .build t parts.toArray)
    (vals : List (Nat × Value)) (hv : parts.map (fun x => (x.1, a.eval x.2)) = vals) (cells : Array Value) (hb : P.built t vals = some cells) : YieldsIf P ops S op (.agg cells) a :=
  .inl ⟨hw, fun w _ => by
    have hb' : P.built t (parts.toArray.map fun (i, x) => (i, a.eval x)).toList = some cells := by
      rw [← hb, ← hv]; simp
    unfold execOp
    simp only [ho, Sem.run_bind, run_build w t _ cells hb', Result.andThen_ok]
    rfl⟩
theorem wp_buildSliceU {P : Program} {o : Oper} {a : Act} {w : World} {K : Act → World → Prop} {Q : Exit → Act → World → Prop} (t e : TypeId) (len : Nat) (parts : List (Nat × Operand)) (ho : o.op = .buildSlice t len parts.toArray)
    (vals : List (Nat × Value)) (hv : parts.map (fun x => (x.1, a.eval x.2)) = vals) (cells : Array Value) (ie : TypeInfo) (z : Value)
    (hu : P.underlying t = some (.slice e)) (hie : P.info? e = some ie) (hz : ie.zero = some z) (hsmall : ¬ len * ie.size > 2 ^ 24) (hpos : ¬ len * ie.size = 0)
    (hf : Instr.fill (fun i => some (i * ie.size, ie.size)) ((Array.range (len * ie.size)).map (z.cells[· % z.cells.size]!)) vals = some cells)
    (h : K (a.put o.dst (.slice (some ⟨w.heap.size, 0, none⟩) len len)) (w.alloc (.cells cells e))) : o.wp P a w K Q :=
  wp_buildSlice t e len parts.toArray ho cells ie z hu hie hz hsmall hpos (by rw [← hf, ← hv]; simp) h
theorem wpList_load_midW {P : Program} {ops : Array Oper} {rest : List Oper} {op : Oper} {a : Act} {w : World} {Q : Exit → Act → World → Prop} (ty : TypeId) (x : Operand) (ho : op.op = .load ty x) (hw : Region.wanted op (yielded ops a.tmps) = true)
    (b o : Nat) (hx : a.eval x = .pointer (some ⟨b, o, none⟩)) (cs : List Value) (d : TypeDesc) (hc : w.rangeAt b o cs)
    (hu : P.underlying ty = some d) (hd : d.isRow = true) (hi : (P.info? ty).map (·.size) = some cs.length)
    (h : wpList P ops Q rest (a.put op.dst (.agg cs.toArray)) w) : wpList P ops Q (op :: rest) a w :=
  wpList_step fun K hK => by
    simp only [hw, if_true]
    exact wp_load_mid ty x ho b o hx cs d hc hu hd hi (hK _ _ h)
theorem rows_apart {w : World} {base1 base2 n1 n2 sz1 sz2 g : Nat} {e1 e2 : TypeId} {v1 v2 : Value} {xs1 xs2 : List Value} (h1 : w.ownsRow base1 e1 sz1 v1 n1 xs1) (h2 : w.ownsRow base2 e2 sz2 v2 n2 xs2) (hne : e1 ≠ e2)
    (hg1 : v1.ownBlock = some g) (hg2 : v2.ownBlock = some g) : False := by
  rcases h2.2 with ⟨hx, _⟩ | ⟨g', cap', cur, hx, _, hkx, _⟩
  · rw [hx] at hg2; cases hg2
  · rw [hx] at hg2
    have e' : g' = g := by injection hg2
    subst e'
    exact own_other h1 hg1 (show Blk w g' e2 cur from hkx) hne
theorem row_kept {w w' : World} {NB n1 n2 sz1 sz2 s : Nat} {e1 e2 : TypeId} {v1 v2 : Value} {xs1 xs2 : List Value} (h1 : w.ownsRow NB e1 sz1 v1 n1 xs1) (h2 : w.ownsRow NB e2 sz2 v2 n2 xs2) (hne : e1 ≠ e2) (hs : s < NB)
    (F : Far (fun g => g = s ∨ v2.ownBlock = some g) w w') : w'.ownsRow NB e1 sz1 v1 n1 xs1 :=
  ownsRow_far h1 F (fun g hg h => h.elim (fun h => by have := (h1.lt g hg).1; omega) (fun h => rows_apart h1 h2 hne hg h))
/-- of the runs the last goes on -/
theorem vruns_last {V : Vm} : ∀ k, k ≤ 1024 → ∀ x ∈ vrunsL V k, 0 ≤ x.2.1 ∧ x.2.1 ≤ (k : Int)
  | 0, _, x, hx => by cases hx
  | k + 1, hk, x, hx => by
    have ih := vruns_last (V := V) k (by omega)
    rw [vrunsL_succ] at hx
    split at hx
    · have := ih x hx; omega
    · split at hx
      · rcases List.eq_nil_or_concat (vrunsL V k) with h | ⟨l, y, h⟩
        · rw [h] at hx; cases hx
        · rw [h, List.concat_eq_append, bumpR_snoc] at hx
          rw [List.mem_append, List.mem_singleton] at hx
          rcases hx with hx | rfl
          · have := ih x (by rw [h, List.concat_eq_append]; exact List.mem_append_left _ hx); omega
          · have := ih y (by rw [h, List.concat_eq_append]; simp)
            show 0 ≤ y.2.1 + 1 ∧ y.2.1 + 1 ≤ _
            omega
      · rw [List.mem_append, List.mem_singleton] at hx
        rcases hx with hx | rfl
        · have := ih x hx; omega
        · show (0 : Int) ≤ 1 ∧ (1 : Int) ≤ _
          omega
noncomputable def runOps : Array Oper := (Tryz.f13.body.bind (regOpsU 10)).getD #[]
noncomputable def datOps : Array Oper := (Tryz.f13.body.bind (regOpsU 14)).getD #[]
def RunS (b s k : Nat) (v : Value) (K : Int) (w : World) : Prop := w.cell? ⟨s, 0, none⟩ = some v ∧ w.cell? ⟨b, k, none⟩ = some (.int .i64 K)
theorem RunS.later {b s k : Nat} {v : Value} {K : Int} {w w' : World} (h : RunS b s k v K w) (hF : Below w.heap.size w w') (hb : b < w.heap.size) (hs : s < w.heap.size) : RunS b s k v K w' :=
  ⟨(hF.cell (p := ⟨s, 0, none⟩) hs).trans h.1, (hF.cell (p := ⟨b, k, none⟩) hb).trans h.2⟩
set_option maxRecDepth 100000 in
set_option maxHeartbeats 1600000 in
theorem save6_run {Q : Exit → Act → World → Prop} {u1 u2 u5 u6 u7 u8 u9 u10 u11 u12 u13 u14 u15 u16 u17 u18 u19 u20 u21 u22 u23 u24 u25 u26 u27 u28 u29 u30 u31 u32 u33 u34 u35 u36 u37 u38 u39 u40 u41 u42 u43 u44 u45 u46 u47 u48 u49 u50 u51 u52 u53 u54 u55 u56 u57 u58 u59 u60 u61 u62 u63 u64 u65 u66 u67 u68 u69 u70 u71 u72 u73 u74 u75 u76 u77 u78 u79 u80 u81 u82 u83 u84 u85 u86 u87 u88 u89 u90 u91 u92 u93 u94 u95 u96 u97 u98 u99 u100 u101 u102 u103 u104 u105 u106 u107 u108 u109 u110 u111 u112 u113 u114 u115 u116 u117 u118 u119 u120 u121 u122 u123 u124 u125 : Value} {D : List Deferred} (b s k NB N1 cap1 : Nat) (A1 : Option Addr) (kd : Int) (cs : Array Value) (xs : List Value) (w : World)
    (hk : (k : Int) < 1024) (hN : N1 ≤ 1024) (hb : b < w.heap.size) (hs : s < w.heap.size) (hNB : NB ≤ w.heap.size) (hbN : b < NB) (hbs : ¬ b = s) (hcK : w.cell? ⟨b, k, none⟩ = some (.int .i64 kd))
    (k3 : Blk w s 53 cs) (h3 : w.cell? ⟨s, 0, none⟩ = some (.slice A1 N1 cap1)) (ro : w.ownsRow NB 73 3 (.slice A1 N1 cap1) N1 xs)
    (hQ : ∀ (x64 x65 x66 x67 x68 x69 x70 x71 x72 x73 x74 x75 x76 : Value) (w' : World) (A1' : Option Addr) (cap1' : Nat), w.heap.size ≤ w'.heap.size → Blk w' s 53 (cs.setIfInBounds 0 (.slice A1' (N1 + 1) cap1')) → w'.ownsRow NB 73 3 (.slice A1' (N1 + 1) cap1') (N1 + 1) (xs ++ rnC ((k : Int), 1, kd)) →
      Far (fun g => g = s ∨ (Value.slice A1 N1 cap1).ownBlock = some g) w w' → Q .normal ⟨#[(.pointer (some ⟨b, 0, none⟩)), u1, u2, (.pointer (some ⟨s, 0, none⟩)), (.int .i64 (k : Int)), u5, u6, u7, u8, u9, u10, u11, u12, u13, u14, u15, u16, u17, u18, u19, u20, u21, u22, u23, u24, u25, u26, u27, u28, u29, u30, u31, u32, u33, u34, u35, u36, u37, u38, u39, u40, u41, u42, u43, u44, u45, u46, u47, u48, u49, u50, u51, u52, u53, u54, u55, u56, u57, u58, u59, u60, u61, u62, u63, x64, x65, x66, x67, x68, x69, x70, x71, x72, x73, x74, x75, x76, u77, u78, u79, u80, u81, u82, u83, u84, u85, u86, u87, u88, u89, u90, u91, u92, u93, u94, u95, u96, u97, u98, u99, u100, u101, u102, u103, u104, u105, u106, u107, u108, u109, u110, u111, u112, u113, u114, u115, u116, u117, u118, u119, u120, u121, u122, u123, u124, u125], D⟩ w') :
    (Code.region 10 runOps true).wp Tryz.prog Q ⟨#[(.pointer (some ⟨b, 0, none⟩)), u1, u2, (.pointer (some ⟨s, 0, none⟩)), (.int .i64 (k : Int)), u5, u6, u7, u8, u9, u10, u11, u12, u13, u14, u15, u16, u17, u18, u19, u20, u21, u22, u23, u24, u25, u26, u27, u28, u29, u30, u31, u32, u33, u34, u35, u36, u37, u38, u39, u40, u41, u42, u43, u44, u45, u46, u47, u48, u49, u50, u51, u52, u53, u54, u55, u56, u57, u58, u59, u60, u61, u62, u63, u64, u65, u66, u67, u68, u69, u70, u71, u72, u73, u74, u75, u76, u77, u78, u79, u80, u81, u82, u83, u84, u85, u86, u87, u88, u89, u90, u91, u92, u93, u94, u95, u96, u97, u98, u99, u100, u101, u102, u103, u104, u105, u106, u107, u108, u109, u110, u111, u112, u113, u114, u115, u116, u117, u118, u119, u120, u121, u122, u123, u124, u125], D⟩ w := by
  conv => arg 2; arg 2; whnf
  obtain ⟨i0, hi, hz0, hz1, hz2⟩ := infoRn_parts
  refine wp_noPanic ?_
  refine wp_region_T (RunS b s k (.slice A1 N1 cap1) kd) [13] (by kernel_rfl) ?_
  have hS0 : RunS b s k (.slice A1 N1 cap1) kd w := ⟨h3, hcK⟩
  have hB0 : Below w.heap.size w w.drew := (Below.refl _ w).drew
  have hS : RunS b s k (.slice A1 N1 cap1) kd w.drew := hS0
  clear h3 hcK
  refine' wpAnyT_take (i := 0) (v := _) ?hiT0 (by kernel_rfl) ?hQT0 (Or.inl ⟨?hwT0, ?hyT0⟩) hS ?reT0
  case hiT0 => (simp only [List.getElem?_toArray, List.getElem?_cons_zero]; rfl)
  case hQT0 => exact fun _ _ _ h => h
  case hwT0 => rfl
  case hyT0 => (intro wS hSw; obtain ⟨_, _⟩ := hSw; go_simp; (try with_reducible rfl))
  try simp only [Act.put, List.setIfInBounds_toArray, List.set_cons_zero, List.set_cons_succ]
  refine' wpAnyT_take (i := 1) (v := _) ?hiT1 (by kernel_rfl) ?hQT1 (Or.inl ⟨?hwT1, ?hyT1⟩) hS ?reT1
  case hiT1 => (simp only [List.getElem?_toArray, List.getElem?_cons_succ, List.getElem?_cons_zero]; rfl)
  case hQT1 => exact fun _ _ _ h => h
  case hwT1 => rfl
  case hyT1 => (intro wS hSw; obtain ⟨_, _⟩ := hSw; go_simp; (try with_reducible rfl))
  try simp only [Act.put, List.setIfInBounds_toArray, List.set_cons_zero, List.set_cons_succ]
  refine' wpAnyT_take (i := 2) (v := _) ?hiT2 (by kernel_rfl) ?hQT2 (Or.inl ⟨?hwT2, ?hyT2⟩) hS ?reT2
  case hiT2 => (simp only [List.getElem?_toArray, List.getElem?_cons_succ, List.getElem?_cons_zero]; rfl)
  case hQT2 => exact fun _ _ _ h => h
  case hwT2 => rfl
  case hyT2 => (intro wS hSw; obtain ⟨_, _⟩ := hSw; go_simp; (try with_reducible rfl))
  try simp only [Act.put, List.setIfInBounds_toArray, List.set_cons_zero, List.set_cons_succ]
  refine' wpAnyT_take (i := 3) (v := _) ?hiT3 (by kernel_rfl) ?hQT3 (Or.inl ⟨?hwT3, ?hyT3⟩) hS ?reT3
  case hiT3 => (simp only [List.getElem?_toArray, List.getElem?_cons_succ, List.getElem?_cons_zero]; rfl)
  case hQT3 => exact fun _ _ _ h => h
  case hwT3 => rfl
  case hyT3 => (intro wS hSw; obtain ⟨_, _⟩ := hSw; go_simp; (try with_reducible rfl))
  try simp only [Act.put, List.setIfInBounds_toArray, List.set_cons_zero, List.set_cons_succ]
  refine' wpAnyT_take (i := 4) (v := _) ?hiT4 (by kernel_rfl) ?hQT4 (Or.inl ⟨?hwT4, ?hyT4⟩) hS ?reT4
  case hiT4 => (simp only [List.getElem?_toArray, List.getElem?_cons_succ, List.getElem?_cons_zero]; rfl)
  case hQT4 => exact fun _ _ _ h => h
  case hwT4 => rfl
  case hyT4 => (intro wS hSw; obtain ⟨_, _⟩ := hSw; go_simp; (try with_reducible rfl))
  try simp only [Act.put, List.setIfInBounds_toArray, List.set_cons_zero, List.set_cons_succ]
  refine' wpAnyT_take (i := 5) (v := _) ?hiT5 (by kernel_rfl) ?hQT5 (Or.inl ⟨?hwT5, ?hyT5⟩) hS ?reT5
  case hiT5 => (simp only [List.getElem?_toArray, List.getElem?_cons_succ, List.getElem?_cons_zero]; rfl)
  case hQT5 => exact fun _ _ _ h => h
  case hwT5 => rfl
  case hyT5 => (intro wS hSw; obtain ⟨_, _⟩ := hSw; go_simp; (try with_reducible rfl))
  try simp only [Act.put, List.setIfInBounds_toArray, List.set_cons_zero, List.set_cons_succ]
  refine' wpAnyT_take (i := 6) (v := _) ?hiT6 (by kernel_rfl) ?hQT6 (Or.inl ⟨?hwT6, ?hyT6⟩) hS ?reT6
  case hiT6 => (simp only [List.getElem?_toArray, List.getElem?_cons_succ, List.getElem?_cons_zero]; rfl)
  case hQT6 => exact fun _ _ _ h => h
  case hwT6 => rfl
  case hyT6 => (intro wS hSw; obtain ⟨_, _⟩ := hSw; go_simp; (try with_reducible rfl))
  try simp only [Act.put, List.setIfInBounds_toArray, List.set_cons_zero, List.set_cons_succ]
  refine' wpAnyT_take (i := 7) (v := _) ?hiT7 (by kernel_rfl) ?hQT7 (Or.inl ⟨?hwT7, ?hyT7⟩) hS ?reT7
  case hiT7 => (simp only [List.getElem?_toArray, List.getElem?_cons_succ, List.getElem?_cons_zero]; rfl)
  case hQT7 => exact fun _ _ _ h => h
  case hwT7 => rfl
  case hyT7 => (intro wS hSw; obtain ⟨_, _⟩ := hSw; go_simp; (try with_reducible rfl))
  try simp only [Act.put, List.setIfInBounds_toArray, List.set_cons_zero, List.set_cons_succ]
  refine' wpAnyT_take (i := 8) (v := _) ?hiT8 (by kernel_rfl) ?hQT8 (Or.inl ⟨?hwT8, ?hyT8⟩) hS ?reT8
  case hiT8 => (simp only [List.getElem?_toArray, List.getElem?_cons_succ, List.getElem?_cons_zero]; rfl)
  case hQT8 => exact fun _ _ _ h => h
  case hwT8 => rfl
  case hyT8 => (intro wS hSw; obtain ⟨_, _⟩ := hSw; go_simp; (try with_reducible rfl))
  try simp only [Act.put, List.setIfInBounds_toArray, List.set_cons_zero, List.set_cons_succ]
  refine' wpAnyT_take (i := 9) (v := _) ?hiT9 (by kernel_rfl) ?hQT9 (Or.inl ⟨?hwT9, ?hyT9⟩) hS ?reT9
  case hiT9 => (simp only [List.getElem?_toArray, List.getElem?_cons_succ, List.getElem?_cons_zero]; rfl)
  case hQT9 => exact fun _ _ _ h => h
  case hwT9 => rfl
  case hyT9 => (intro wS hSw; obtain ⟨_, _⟩ := hSw; go_simp; (try with_reducible rfl))
  try simp only [Act.put, List.setIfInBounds_toArray, List.set_cons_zero, List.set_cons_succ]
  refine wpAnyT_ready (rs := [10]) (by kernel_rfl) (by simp) ?_
  refine' AllReadyT.cons ?hi10 (fun K hK => ?st10) AllReadyT.nil
  case hi10 => (simp only [List.getElem?_toArray, List.getElem?_cons_succ, List.getElem?_cons_zero]; rfl)
  go_simp
  have hB1 := hB0.alloc hB0.size (.cells #[.int .i64 (k : Int), .int .i64 1, .int .i64 kd] 73)
  refine hK.out _ _ (fun _ => hS0.later hB1 hb hs) (fun hS => ?_)
  clear hK K
  replace hS := hS rfl
  try simp only [Act.put, List.setIfInBounds_toArray, List.set_cons_zero, List.set_cons_succ]
  have kN := Blk.new w.drew 73 #[.int .i64 (k : Int), .int .i64 1, .int .i64 kd]
  have k31 : Blk (w.drew.alloc (.cells #[.int .i64 (k : Int), .int .i64 1, .int .i64 kd] 73)) s 53 cs := k3.call hB1
  have ro1 : (w.drew.alloc (.cells #[.int .i64 (k : Int), .int .i64 1, .int .i64 kd] 73)).ownsRow NB 73 3 (.slice A1 N1 cap1) N1 xs := ownsRow_call ro hB1
  refine wpAnyT_ready (rs := [11]) (by kernel_rfl) (by simp) ?_
  refine' AllReadyT.cons ?hi11 (fun K hK => ?st11) AllReadyT.nil
  case hi11 => (simp only [List.getElem?_toArray, List.getElem?_cons_succ, List.getElem?_cons_zero]; rfl)
  rw [if_pos (by simp [Region.wanted])]
  refine wp_append_own _ (.tmp 65) (.tmp 74) 46 rfl NB 73 i0 (.agg #[.int .i64 0, .int .i64 0, .int .i64 0]) 3 24 Tryz.underlying46 hi hz0 hz1 hz2 rfl (by decide) _ N1 xs rfl ro1 ⟨w.heap.size, 0, none⟩ 1 1 [.int .i64 (k : Int), .int .i64 1, .int .i64 kd] rfl rfl (news_list kN) (rnC_one1 ((k : Int), 1, kd)) (by unfold maxLen; omega) (by omega) (Nat.le_trans hNB hB1.size) ?_
  intro v' w4 hown' hgrow _
  obtain ⟨A1', cap1', rfl, _⟩ := own_Rd hown'
  have F4 : Far (fun g => g = s ∨ (Value.slice A1 N1 cap1).ownBlock = some g) w w4 := (Far.of_below hB1).grown hgrow (fun g hg _ => .inr hg)
  have k34 := k31.grown hgrow (fun h => own_other ro1 h.symm k31 (by decide))
  have f34 := k34.frozen
  have c34 : w4.cell? ⟨s, 0, none⟩ = some (.slice A1 N1 cap1) := (k34.cell 0).trans ((k3.cell 0).symm.trans hS0.1)
  have hbr : (Value.slice A1 N1 cap1).ownBlock ≠ some b := fun h => by have := (ro.lt b h).1; omega
  refine hK.out _ _ (fun _ => ?later) (fun hS => ?_)
  case later => exact ⟨c34, F4.cell hS0.2 (fun h => h.elim (fun h => hbs h) hbr)⟩
  clear hK K
  replace hS := hS rfl
  try simp only [Act.put, List.setIfInBounds_toArray, List.set_cons_zero, List.set_cons_succ]
  refine wpAnyT_ready (rs := [12]) (by kernel_rfl) (by simp) ?_
  refine' AllReadyT.cons ?hi12 (fun K hK => ?st12) AllReadyT.nil
  case hi12 => (simp only [List.getElem?_toArray, List.getElem?_cons_succ, List.getElem?_cons_zero]; rfl)
  go_simp
  refine hK.out _ _ (fun _ => hS) (fun hS => ?_)
  clear hK K
  replace hS := hS rfl
  try simp only [Act.put, List.setIfInBounds_toArray, List.set_cons_zero, List.set_cons_succ]
  refine wpAnyT_ready (rs := [13]) (by kernel_rfl) (by simp) ?_
  refine' AllReadyT.cons ?hi13 (fun K hK => ?st13) AllReadyT.nil
  case hi13 => (simp only [List.getElem?_toArray, List.getElem?_cons_succ, List.getElem?_cons_zero]; rfl)
  go_simp
  refine hK.out _ _ (fun h => absurd h (by decide)) (fun _ => ?_)
  clear hK K
  refine wpAnyT_done (by kernel_rfl) ?_ _
  refine noPanic_normal ?_
  have F5 : Far (fun g => g = s ∨ (Value.slice A1 N1 cap1).ownBlock = some g) w (w4.setCell ⟨s, 0, none⟩ (.slice A1' (N1 + 1) cap1')) := F4.setCell (p := ⟨s, 0, none⟩) (fun _ => .inl rfl) _
  have F6 : Far (fun g => g = s) w4 (w4.setCell ⟨s, 0, none⟩ (.slice A1' (N1 + 1) cap1')) := Far.setCell (T := fun g => g = s) (p := ⟨s, 0, none⟩) (Far.refl _ _) (fun _ => rfl) _
  exact hQ _ _ _ _ _ _ _ _ _ _ _ _ _ _ A1' cap1' F5.size (k34.set_ 0 _) (ownsRow_far hown' F6 (fun g hg h => own_other hown' (hg.trans (congrArg some h)) k34 (by decide))) F5
def DatS (b s k : Nat) (v : Value) (cs : List Value) (w : World) : Prop := w.cell? ⟨s, 2, none⟩ = some v ∧ w.rangeAt b (1088 + k * 64) cs
theorem DatS.later {b s k : Nat} {v : Value} {cs : List Value} {w w' : World} (h : DatS b s k v cs w) (hF : Below w.heap.size w w') (hb : b < w.heap.size) (hs : s < w.heap.size) : DatS b s k v cs w' :=
  ⟨(hF.cell (p := ⟨s, 2, none⟩) hs).trans h.1, fun j u hj => (hF.cell (p := ⟨b, _, none⟩) hb).trans (h.2 j u hj)⟩
set_option maxRecDepth 100000 in
set_option maxHeartbeats 1600000 in
theorem save6_dat {Q : Exit → Act → World → Prop} {u1 u2 u5 u6 u7 u8 u9 u10 u11 u12 u13 u14 u15 u16 u17 u18 u19 u20 u21 u22 u23 u24 u25 u26 u27 u28 u29 u30 u31 u32 u33 u34 u35 u36 u37 u38 u39 u40 u41 u42 u43 u44 u45 u46 u47 u48 u49 u50 u51 u52 u53 u54 u55 u56 u57 u58 u59 u60 u61 u62 u63 u64 u65 u66 u67 u68 u69 u70 u71 u72 u73 u74 u75 u76 u77 u78 u79 u80 u81 u82 u83 u84 u85 u86 u87 u88 u89 u90 u91 u92 u93 u94 u95 u96 u97 u98 u99 u100 u101 u102 u103 u104 u105 u106 u107 u108 u109 u110 u111 u112 u113 u114 u115 u116 u117 u118 u119 u120 u121 u122 u123 u124 u125 : Value} {D : List Deferred} (b s k NB N3 cap3 : Nat) (A3 : Option Addr) (f : Nat → Int) (cs : Array Value) (xs : List Value) (w : World)
    (hk : (k : Int) < 1024) (hN : N3 ≤ 1024) (hb : b < w.heap.size) (hs : s < w.heap.size) (hNB : NB ≤ w.heap.size) (hbN : b < NB) (hbs : ¬ b = s) (hcX : w.rangeAt b (1088 + k * 64) (arrI .u8 64 f).toList)
    (k3 : Blk w s 53 cs) (h3 : w.cell? ⟨s, 2, none⟩ = some (.slice A3 N3 cap3)) (ro : w.ownsRow NB 76 65 (.slice A3 N3 cap3) N3 xs)
    (hQ : ∀ (x112 x113 x114 x115 x116 x117 x118 x119 x120 x121 x122 x123 x124 : Value) (w' : World) (A3' : Option Addr) (cap3' : Nat), w.heap.size ≤ w'.heap.size → Blk w' s 53 (cs.setIfInBounds 2 (.slice A3' (N3 + 1) cap3')) → w'.ownsRow NB 76 65 (.slice A3' (N3 + 1) cap3') (N3 + 1) (xs ++ (daA (k : Int) f).toList) →
      Far (fun g => g = s ∨ (Value.slice A3 N3 cap3).ownBlock = some g) w w' → Q .normal ⟨#[(.pointer (some ⟨b, 0, none⟩)), u1, u2, (.pointer (some ⟨s, 0, none⟩)), (.int .i64 (k : Int)), u5, u6, u7, u8, u9, u10, u11, u12, u13, u14, u15, u16, u17, u18, u19, u20, u21, u22, u23, u24, u25, u26, u27, u28, u29, u30, u31, u32, u33, u34, u35, u36, u37, u38, u39, u40, u41, u42, u43, u44, u45, u46, u47, u48, u49, u50, u51, u52, u53, u54, u55, u56, u57, u58, u59, u60, u61, u62, u63, u64, u65, u66, u67, u68, u69, u70, u71, u72, u73, u74, u75, u76, u77, u78, u79, u80, u81, u82, u83, u84, u85, u86, u87, u88, u89, u90, u91, u92, u93, u94, u95, u96, u97, u98, u99, u100, u101, u102, u103, u104, u105, u106, u107, u108, u109, u110, u111, x112, x113, x114, x115, x116, x117, x118, x119, x120, x121, x122, x123, x124, u125], D⟩ w') :
    (Code.region 14 datOps true).wp Tryz.prog Q ⟨#[(.pointer (some ⟨b, 0, none⟩)), u1, u2, (.pointer (some ⟨s, 0, none⟩)), (.int .i64 (k : Int)), u5, u6, u7, u8, u9, u10, u11, u12, u13, u14, u15, u16, u17, u18, u19, u20, u21, u22, u23, u24, u25, u26, u27, u28, u29, u30, u31, u32, u33, u34, u35, u36, u37, u38, u39, u40, u41, u42, u43, u44, u45, u46, u47, u48, u49, u50, u51, u52, u53, u54, u55, u56, u57, u58, u59, u60, u61, u62, u63, u64, u65, u66, u67, u68, u69, u70, u71, u72, u73, u74, u75, u76, u77, u78, u79, u80, u81, u82, u83, u84, u85, u86, u87, u88, u89, u90, u91, u92, u93, u94, u95, u96, u97, u98, u99, u100, u101, u102, u103, u104, u105, u106, u107, u108, u109, u110, u111, u112, u113, u114, u115, u116, u117, u118, u119, u120, u121, u122, u123, u124, u125], D⟩ w := by
  conv => arg 2; arg 2; whnf
  obtain ⟨iD, hi, hz0, hz1, hz2⟩ := info_parts infoDa
  have hbt := built_da (k : Int) f
  have hfl := fill_da (k : Int) f
  obtain ⟨E, hE⟩ : ∃ E, daA (k : Int) f = E := ⟨_, rfl⟩
  have hEs : E.toList.length = 65 := by rw [← hE]; simp [daA]
  have hEo : ∀ u ∈ E.toList, u.oneCell' = true := by
    intro u hu
    rw [← hE] at hu
    unfold daA at hu
    rw [List.mem_cons] at hu
    rcases hu with rfl | hu
    · rfl
    · rw [List.mem_map] at hu
      obtain ⟨i, _, rfl⟩ := hu
      rfl
  obtain ⟨X, hX⟩ : ∃ X, arrI .u8 64 f = X := ⟨_, rfl⟩
  have hinfl : (Tryz.prog.info? 74).map (·.size) = some X.toList.length := by rw [← hX]; exact infoKinds
  rw [hX] at hbt hcX
  rw [hE] at hfl hbt hQ
  clear hX hE
  have hfl' : Instr.fill (fun i => some (i * iD.size, iD.size)) ((Array.range (1 * iD.size)).map ((Value.agg (daA 0 (fun _ => 0))).cells[· % (Value.agg (daA 0 (fun _ => 0))).cells.size]!)) [(0, .agg E)] = some E := by rw [hz1]; exact hfl
  have hs1 : ¬ 1 * iD.size > 2 ^ 24 := by rw [hz1]; decide
  have hs2 : ¬ 1 * iD.size = 0 := by rw [hz1]; decide
  refine wp_noPanic ?_
  refine wp_region_T (DatS b s k (.slice A3 N3 cap3) X.toList) [13] (by kernel_rfl) ?_
  have hS0 : DatS b s k (.slice A3 N3 cap3) X.toList w := ⟨h3, hcX⟩
  have hB0 : Below w.heap.size w w.drew := (Below.refl _ w).drew
  have hS : DatS b s k (.slice A3 N3 cap3) X.toList w.drew := hS0
  clear h3 hcX hfl
  refine' wpAnyT_take (i := 0) (v := _) ?hiT0 (by kernel_rfl) ?hQT0 (Or.inl ⟨?hwT0, ?hyT0⟩) hS ?reT0
  case hiT0 => (simp only [List.getElem?_toArray, List.getElem?_cons_zero]; rfl)
  case hQT0 => exact fun _ _ _ h => h
  case hwT0 => rfl
  case hyT0 => (intro wS hSw; obtain ⟨_, _⟩ := hSw; go_simp; (try with_reducible rfl))
  try simp only [Act.put, List.setIfInBounds_toArray, List.set_cons_zero, List.set_cons_succ]
  refine' wpAnyT_take (i := 1) (v := _) ?hiT1 (by kernel_rfl) ?hQT1 (Or.inl ⟨?hwT1, ?hyT1⟩) hS ?reT1
  case hiT1 => (simp only [List.getElem?_toArray, List.getElem?_cons_succ, List.getElem?_cons_zero]; rfl)
  case hQT1 => exact fun _ _ _ h => h
  case hwT1 => rfl
  case hyT1 => (intro wS hSw; obtain ⟨_, _⟩ := hSw; go_simp; (try with_reducible rfl))
  try simp only [Act.put, List.setIfInBounds_toArray, List.set_cons_zero, List.set_cons_succ]
  refine' wpAnyT_take (i := 2) (v := _) ?hiT2 (by kernel_rfl) ?hQT2 (Or.inl ⟨?hwT2, ?hyT2⟩) hS ?reT2
  case hiT2 => (simp only [List.getElem?_toArray, List.getElem?_cons_succ, List.getElem?_cons_zero]; rfl)
  case hQT2 => exact fun _ _ _ h => h
  case hwT2 => rfl
  case hyT2 => (intro wS hSw; obtain ⟨_, _⟩ := hSw; go_simp; (try with_reducible rfl))
  try simp only [Act.put, List.setIfInBounds_toArray, List.set_cons_zero, List.set_cons_succ]
  refine' wpAnyT_take (i := 3) (v := _) ?hiT3 (by kernel_rfl) ?hQT3 (Or.inl ⟨?hwT3, ?hyT3⟩) hS ?reT3
  case hiT3 => (simp only [List.getElem?_toArray, List.getElem?_cons_succ, List.getElem?_cons_zero]; rfl)
  case hQT3 => exact fun _ _ _ h => h
  case hwT3 => rfl
  case hyT3 => (intro wS hSw; obtain ⟨_, _⟩ := hSw; go_simp; (try with_reducible rfl))
  try simp only [Act.put, List.setIfInBounds_toArray, List.set_cons_zero, List.set_cons_succ]
  refine' wpAnyT_take (i := 4) (v := _) ?hiT4 (by kernel_rfl) ?hQT4 (Or.inl ⟨?hwT4, ?hyT4⟩) hS ?reT4
  case hiT4 => (simp only [List.getElem?_toArray, List.getElem?_cons_succ, List.getElem?_cons_zero]; rfl)
  case hQT4 => exact fun _ _ _ h => h
  case hwT4 => rfl
  case hyT4 => (intro wS hSw; obtain ⟨_, _⟩ := hSw; go_simp; (try with_reducible rfl))
  try simp only [Act.put, List.setIfInBounds_toArray, List.set_cons_zero, List.set_cons_succ]
  refine' wpAnyT_take (i := 5) (v := _) ?hiT5 (by kernel_rfl) ?hQT5 (Or.inl ⟨?hwT5, ?hyT5⟩) hS ?reT5
  case hiT5 => (simp only [List.getElem?_toArray, List.getElem?_cons_succ, List.getElem?_cons_zero]; rfl)
  case hQT5 => exact fun _ _ _ h => h
  case hwT5 => rfl
  case hyT5 => (intro wS hSw; obtain ⟨_, _⟩ := hSw; go_simp; (try with_reducible rfl))
  try simp only [Act.put, List.setIfInBounds_toArray, List.set_cons_zero, List.set_cons_succ]
  refine' wpAnyT_take (i := 6) (v := _) ?hiT6 (by kernel_rfl) ?hQT6 (Or.inl ⟨?hwT6, ?hyT6⟩) hS ?reT6
  case hiT6 => (simp only [List.getElem?_toArray, List.getElem?_cons_succ, List.getElem?_cons_zero]; rfl)
  case hQT6 => exact fun _ _ _ h => h
  case hwT6 => rfl
  case hyT6 => (intro wS hSw; obtain ⟨_, _⟩ := hSw; go_simp; (try with_reducible rfl))
  try simp only [Act.put, List.setIfInBounds_toArray, List.set_cons_zero, List.set_cons_succ]
  refine' wpAnyT_take (i := 7) (v := _) ?hiT7 (by kernel_rfl) ?hQT7 (Or.inl ⟨?hwT7, ?hyT7⟩) hS ?reT7
  case hiT7 => (simp only [List.getElem?_toArray, List.getElem?_cons_succ, List.getElem?_cons_zero]; rfl)
  case hQT7 => exact fun _ _ _ h => h
  case hwT7 => rfl
  case hyT7 => (intro wS hSw; obtain ⟨_, _⟩ := hSw; go_simp; (try with_reducible rfl))
  try simp only [Act.put, List.setIfInBounds_toArray, List.set_cons_zero, List.set_cons_succ]
  refine' wpAnyT_take (i := 8) (v := .agg X.toList.toArray) ?hiT8 (by kernel_rfl) ?hQT8 ?hyT8 hS ?reT8
  case hiT8 => (simp only [List.getElem?_toArray, List.getElem?_cons_succ, List.getElem?_cons_zero]; rfl)
  case hQT8 => exact fun _ _ _ h => h
  case hyT8 => exact yieldsIf_load_mid rfl 74 (.tmp 119) rfl b (1088 + k * 64) rfl X.toList _ (fun _ h => h.2) Tryz.underlying74 rfl hinfl
  try simp only [Act.put, List.setIfInBounds_toArray, List.set_cons_zero, List.set_cons_succ]
  rw [Array.toArray_toList]
  refine' wpAnyT_take (i := 9) (v := .agg E) ?hiT9 (by kernel_rfl) ?hQT9 ?hyT9 hS ?reT9
  case hiT9 => (simp only [List.getElem?_toArray, List.getElem?_cons_succ, List.getElem?_cons_zero]; rfl)
  case hQT9 => exact fun _ _ _ h => h
  case hyT9 => exact yieldsIf_build rfl 76 [(0, .tmp 114), (1, .tmp 120)] rfl _ rfl E hbt
  try simp only [Act.put, List.setIfInBounds_toArray, List.set_cons_zero, List.set_cons_succ]
  have hB1 := hB0.alloc hB0.size (.cells E 76)
  have kN := Blk.new w.drew 76 E
  have k31 : Blk (w.drew.alloc (.cells E 76)) s 53 cs := k3.call hB1
  have ro1 : (w.drew.alloc (.cells E 76)).ownsRow NB 76 65 (.slice A3 N3 cap3) N3 xs := ownsRow_call ro hB1
  refine wpAnyT_ready (rs := [10]) (by kernel_rfl) (by simp) ?_
  refine' AllReadyT.cons ?hi10 (fun K hK => ?st10) AllReadyT.nil
  case hi10 => (simp only [List.getElem?_toArray, List.getElem?_cons_succ, List.getElem?_cons_zero]; rfl)
  rw [if_pos (by simp [Region.wanted])]
  refine wp_buildSliceU 48 76 1 [(0, .tmp 121)] rfl _ rfl E iD _ Tryz.underlying48 hi hz0 hs1 hs2 hfl' ?_
  refine hK.out _ _ (fun _ => hS0.later hB1 hb hs) (fun hS => ?_)
  clear hK K
  replace hS := hS rfl
  try simp only [Act.put, List.setIfInBounds_toArray, List.set_cons_zero, List.set_cons_succ]
  refine wpAnyT_ready (rs := [11]) (by kernel_rfl) (by simp) ?_
  refine' AllReadyT.cons ?hi11 (fun K hK => ?st11) AllReadyT.nil
  case hi11 => (simp only [List.getElem?_toArray, List.getElem?_cons_succ, List.getElem?_cons_zero]; rfl)
  rw [if_pos (by simp [Region.wanted])]
  refine wp_append_own _ (.tmp 113) (.tmp 122) 48 rfl NB 76 iD (.agg (daA 0 (fun _ => 0))) 65 72 Tryz.underlying48 hi hz0 hz1 hz2 rfl (by decide) _ N3 xs rfl ro1 ⟨w.heap.size, 0, none⟩ 1 1 E.toList rfl hEs (news_list (l := E.toList) kN) hEo (by unfold maxLen; omega) (by omega) (Nat.le_trans hNB hB1.size) ?_
  intro v' w4 hown' hgrow _
  obtain ⟨A3', cap3', rfl, _⟩ := own_Rd hown'
  have F4 : Far (fun g => g = s ∨ (Value.slice A3 N3 cap3).ownBlock = some g) w w4 := (Far.of_below hB1).grown hgrow (fun g hg _ => .inr hg)
  have k34 := k31.grown hgrow (fun h => own_other ro1 h.symm k31 (by decide))
  have f34 := k34.frozen
  have c34 : w4.cell? ⟨s, 2, none⟩ = some (.slice A3 N3 cap3) := (k34.cell 2).trans ((k3.cell 2).symm.trans hS0.1)
  have hbr : (Value.slice A3 N3 cap3).ownBlock ≠ some b := fun h => by have := (ro.lt b h).1; omega
  refine hK.out _ _ (fun _ => ?later) (fun hS => ?_)
  case later => exact ⟨c34, fun j u hj => F4.cell (hS0.2 j u hj) (fun h => h.elim (fun h => hbs h) hbr)⟩
  clear hK K
  replace hS := hS rfl
  try simp only [Act.put, List.setIfInBounds_toArray, List.set_cons_zero, List.set_cons_succ]
  refine wpAnyT_ready (rs := [12]) (by kernel_rfl) (by simp) ?_
  refine' AllReadyT.cons ?hi12 (fun K hK => ?st12) AllReadyT.nil
  case hi12 => (simp only [List.getElem?_toArray, List.getElem?_cons_succ, List.getElem?_cons_zero]; rfl)
  go_simp
  refine hK.out _ _ (fun _ => hS) (fun hS => ?_)
  clear hK K
  replace hS := hS rfl
  try simp only [Act.put, List.setIfInBounds_toArray, List.set_cons_zero, List.set_cons_succ]
  refine wpAnyT_ready (rs := [13]) (by kernel_rfl) (by simp) ?_
  refine' AllReadyT.cons ?hi13 (fun K hK => ?st13) AllReadyT.nil
  case hi13 => (simp only [List.getElem?_toArray, List.getElem?_cons_succ, List.getElem?_cons_zero]; rfl)
  go_simp
  refine hK.out _ _ (fun h => absurd h (by decide)) (fun _ => ?_)
  clear hK K
  refine wpAnyT_done (by kernel_rfl) ?_ _
  refine noPanic_normal ?_
  have F5 : Far (fun g => g = s ∨ (Value.slice A3 N3 cap3).ownBlock = some g) w (w4.setCell ⟨s, 2, none⟩ (.slice A3' (N3 + 1) cap3')) := F4.setCell (p := ⟨s, 2, none⟩) (fun _ => .inl rfl) _
  have F6 : Far (fun g => g = s) w4 (w4.setCell ⟨s, 2, none⟩ (.slice A3' (N3 + 1) cap3')) := Far.setCell (T := fun g => g = s) (p := ⟨s, 2, none⟩) (Far.refl _ _) (fun _ => rfl) _
  exact hQ _ _ _ _ _ _ _ _ _ _ _ _ _ _ A3' cap3' F5.size (k34.set_ 2 _) (ownsRow_far hown' F6 (fun g hg h => own_other hown' (hg.trans (congrArg some h)) k34 (by decide))) F5
end Go.Proofs.YtdepkmpilipolaaGreat
