/- Walks of layer 12 (commit): what is wrong with a range. -/
import Derived.Test.YtjmmgoijnhnnaaaGreatT5
namespace Go.Proofs.YtjmmgoijnhnnaaaGreat
open Go Go.Proofs Go.RowKit Go.Pol Go.Shelf
attribute [local go_sem] Oper.semAt_some Go.Pol.wide_fn Go.Pol.wide_depth Go.Pol.wide_fn' Go.Pol.wide_depth'
theorem countF_us (r : Cr) : (countF r.pg r.n r.f r.bk r.ev).1 = usC r := by
 unfold countF usC
 split <;> rfl
set_option maxRecDepth 100000 in
set_option maxHeartbeats 3200000 in
theorem cmCheck_any (r : Cr) (A : Option Addr) (cap : Nat) (w : World) (hcap : r.kept.length ≤ cap) (hcm : cap ≤ maxLen) (hr : RU w w.heap.size A r.kept) :
  Calls Tryz.prog 34 #[.agg (crC r (.slice A r.kept.length cap))] w fun e w' => e = .returned (.int .i64 (chkCm r)) ∧ Below w.heap.size w w' := by
 have HC := Lib.hid (fun W => count_any r.pg r.n r.f r.bk r.ev W)
 rw [countF_us] at HC
 obtain ⟨R, hR⟩ : ∃ R, chkCm r = R := ⟨_, rfl⟩
 rw [hR]
 unfold chkCm at hR
 obtain ⟨pg, n, f, bk, ev, node, live, K, cl⟩ := r
 simp only at hcap hcm hr HC hR ⊢
 obtain ⟨U, hU⟩ : ∃ U, usC ⟨pg, n, f, bk, ev, node, live, K, cl⟩ = U := ⟨_, rfl⟩
 rw [hU] at HC hR
 generalize chkG pg n f bk ev = ck at *
 generalize (countF pg n f bk ev).2 = V2 at *
 obtain ⟨m, hm0⟩ : ∃ m, K.length = m := ⟨_, rfl⟩
 rw [hm0] at hcap hR ⊢
 have hm := Lib.hid hm0
 have hml : m ≤ 9223372036854775807 := by unfold maxLen at hcm; omega
 have hb0 := (Below.refl w.heap.size w).alloc (Nat.le_refl _) (.cells (crC ⟨pg, n, f, bk, ev, node, live, K, cl⟩ (.slice A m cap)) 43)
 have k0 := Blk.new w 43 (crC ⟨pg, n, f, bk, ev, node, live, K, cl⟩ (.slice A m cap))
 have hr0 := hr.on hb0
 dsimp only [crC] at k0 hb0 hr0 ⊢
 have c0 := k0.cell
 clear hm0 hU hr
 by_cases h0 : ck = 0
 case neg =>
  have h0' : (ck != 0) = true := by simpa using h0
  have hR2 : Hid (R = ck) := Lib.hid (by rw [← hR, if_pos h0])
  clear hR h0
  go_enter Tryz.func34, Tryz.ntmps34
  go_wp2_with (first
   | (go_at_call 50; refine (HC.out _).mono ?_; rintro e w1 ⟨rfl, hb1⟩; have k1 := k0.call hb1; have c1 := k1.cell; have B1 := hb0.trans (hb1.mono hb0.size); have r1 := hr0.on hb1)
   | (go_at_call 98; refine (spCheck_any A _ cap K w1 hm.out (by omega) r1).mono ?_; rintro e w2 ⟨rfl, hb2⟩; have k2 := k1.call hb2; have c2 := k2.cell; have B2 := B1.trans (hb2.mono B1.size); have r2 := r1.on hb2))
  go_ret
  rw [hR2.out]
  exact ⟨rfl, B1⟩
 subst h0
 rw [if_neg (by simp)] at hR
 by_cases a1 : live < 0
 ·have d1 : decide (live < 0) = true := by simpa using a1
  have hR2 : Hid (R = 7) := Lib.hid (by rw [← hR, if_pos (.inl a1)])
  clear hR a1
  go_enter Tryz.func34, Tryz.ntmps34
  go_wp2_with (first
   | (go_at_call 50; refine (HC.out _).mono ?_; rintro e w1 ⟨rfl, hb1⟩; have k1 := k0.call hb1; have c1 := k1.cell; have B1 := hb0.trans (hb1.mono hb0.size); have r1 := hr0.on hb1)
   | (go_at_call 98; refine (spCheck_any A _ cap K w1 hm.out (by omega) r1).mono ?_; rintro e w2 ⟨rfl, hb2⟩; have k2 := k1.call hb2; have c2 := k2.cell; have B2 := B1.trans (hb2.mono B1.size); have r2 := r1.on hb2))
  go_ret
  rw [hR2.out]
  exact ⟨rfl, B1⟩
 have d1 : decide (live < 0) = false := by simpa using a1
 by_cases a2 : U < live
 ·have d2 : decide (U < live) = true := by simpa using a2
  have hR2 : Hid (R = 7) := Lib.hid (by rw [← hR, if_pos (.inr (.inl a2))])
  clear hR a1 a2
  go_enter Tryz.func34, Tryz.ntmps34
  go_wp2_with (first
   | (go_at_call 50; refine (HC.out _).mono ?_; rintro e w1 ⟨rfl, hb1⟩; have k1 := k0.call hb1; have c1 := k1.cell; have B1 := hb0.trans (hb1.mono hb0.size); have r1 := hr0.on hb1)
   | (go_at_call 98; refine (spCheck_any A _ cap K w1 hm.out (by omega) r1).mono ?_; rintro e w2 ⟨rfl, hb2⟩; have k2 := k1.call hb2; have c2 := k2.cell; have B2 := B1.trans (hb2.mono B1.size); have r2 := r1.on hb2))
  go_ret
  rw [hR2.out]
  exact ⟨rfl, B1⟩
 have d2 : decide (U < live) = false := by simpa using a2
 by_cases a3 : node < 0
 ·have d3 : decide (node < 0) = true := by simpa using a3
  have hR2 : Hid (R = 7) := Lib.hid (by rw [← hR, if_pos (.inr (.inr (.inl a3)))])
  clear hR a1 a2 a3
  go_enter Tryz.func34, Tryz.ntmps34
  go_wp2_with (first
   | (go_at_call 50; refine (HC.out _).mono ?_; rintro e w1 ⟨rfl, hb1⟩; have k1 := k0.call hb1; have c1 := k1.cell; have B1 := hb0.trans (hb1.mono hb0.size); have r1 := hr0.on hb1)
   | (go_at_call 98; refine (spCheck_any A _ cap K w1 hm.out (by omega) r1).mono ?_; rintro e w2 ⟨rfl, hb2⟩; have k2 := k1.call hb2; have c2 := k2.cell; have B2 := B1.trans (hb2.mono B1.size); have r2 := r1.on hb2))
  go_ret
  rw [hR2.out]
  exact ⟨rfl, B1⟩
 have d3 : decide (node < 0) = false := by simpa using a3
 by_cases a4 : 64 ≤ node
 ·have d4 : decide (64 ≤ node) = true := by simpa using a4
  have hR2 : Hid (R = 7) := Lib.hid (by rw [← hR, if_pos (.inr (.inr (.inr a4)))])
  clear hR a1 a2 a3 a4
  go_enter Tryz.func34, Tryz.ntmps34
  go_wp2_with (first
   | (go_at_call 50; refine (HC.out _).mono ?_; rintro e w1 ⟨rfl, hb1⟩; have k1 := k0.call hb1; have c1 := k1.cell; have B1 := hb0.trans (hb1.mono hb0.size); have r1 := hr0.on hb1)
   | (go_at_call 98; refine (spCheck_any A _ cap K w1 hm.out (by omega) r1).mono ?_; rintro e w2 ⟨rfl, hb2⟩; have k2 := k1.call hb2; have c2 := k2.cell; have B2 := B1.trans (hb2.mono B1.size); have r2 := r1.on hb2))
  go_ret
  rw [hR2.out]
  exact ⟨rfl, B1⟩
 have d4 : decide (64 ≤ node) = false := by simpa using a4
 rw [if_neg (by omega)] at hR
 clear a1 a2 a3 a4
 have hK : Hid (chkS K = chkS K) := Lib.hid rfl
 by_cases a5 : chkS K = 0
 case neg =>
  have d5 : (chkS K != 0) = true := by simpa using a5
  have hR2 : Hid (R = 6) := Lib.hid (by rw [← hR, if_pos (.inl a5)])
  clear hR a5
  go_enter Tryz.func34, Tryz.ntmps34
  go_wp2_with (first
   | (go_at_call 50; refine (HC.out _).mono ?_; rintro e w1 ⟨rfl, hb1⟩; have k1 := k0.call hb1; have c1 := k1.cell; have B1 := hb0.trans (hb1.mono hb0.size); have r1 := hr0.on hb1)
   | (go_at_call 98; refine (spCheck_any A _ cap K w1 hm.out (by omega) r1).mono ?_; rintro e w2 ⟨rfl, hb2⟩; have k2 := k1.call hb2; have c2 := k2.cell; have B2 := B1.trans (hb2.mono B1.size); have r2 := r1.on hb2))
  go_ret
  rw [hR2.out]
  exact ⟨rfl, B2⟩
 have d5 : (chkS K != 0) = false := by simpa using a5
 by_cases a6 : cl = true ∧ (live ≠ 0 ∨ m ≠ 0)
 ·obtain ⟨rfl, a7⟩ := a6
  have hR2 : Hid (R = 6) := Lib.hid (by rw [← hR, if_pos (.inr ⟨rfl, a7⟩)])
  by_cases a8 : live = 0
  ·have a9 : ¬ m = 0 := by rcases a7 with h | h; exact absurd a8 h; exact h
   have d8 : (live != 0) = false := by simpa using a8
   have d9 : ((m : Int) != 0) = true := by simp; omega
   clear hR a5 a7 a8 a9
   go_enter Tryz.func34, Tryz.ntmps34
   go_wp2_with (first
    | (go_at_call 50; refine (HC.out _).mono ?_; rintro e w1 ⟨rfl, hb1⟩; have k1 := k0.call hb1; have c1 := k1.cell; have B1 := hb0.trans (hb1.mono hb0.size); have r1 := hr0.on hb1)
    | (go_at_call 98; refine (spCheck_any A _ cap K w1 hm.out (by omega) r1).mono ?_; rintro e w2 ⟨rfl, hb2⟩; have k2 := k1.call hb2; have c2 := k2.cell; have B2 := B1.trans (hb2.mono B1.size); have r2 := r1.on hb2))
   go_ret
   rw [hR2.out]
   exact ⟨rfl, B2⟩
  ·have d8 : (live != 0) = true := by simpa using a8
   clear hR a5 a7 a8
   go_enter Tryz.func34, Tryz.ntmps34
   go_wp2_with (first
    | (go_at_call 50; refine (HC.out _).mono ?_; rintro e w1 ⟨rfl, hb1⟩; have k1 := k0.call hb1; have c1 := k1.cell; have B1 := hb0.trans (hb1.mono hb0.size); have r1 := hr0.on hb1)
    | (go_at_call 98; refine (spCheck_any A _ cap K w1 hm.out (by omega) r1).mono ?_; rintro e w2 ⟨rfl, hb2⟩; have k2 := k1.call hb2; have c2 := k2.cell; have B2 := B1.trans (hb2.mono B1.size); have r2 := r1.on hb2))
   go_ret
   rw [hR2.out]
   exact ⟨rfl, B2⟩
 have hcl : cl = false ∨ (cl = true ∧ live = 0 ∧ m = 0) := by
  cases cl with
  | false => exact .inl rfl
  | true =>
   refine .inr ⟨rfl, ?_, ?_⟩
   ·by_cases h : live = 0
    ·exact h
    ·exact absurd ⟨rfl, .inl h⟩ a6
   ·by_cases h : m = 0
    ·exact h
    ·exact absurd ⟨rfl, .inr h⟩ a6
 rw [if_neg (by rintro (h | h); exact h a5; exact a6 h)] at hR
 clear a6
 have hcan : Go.Pol.Can K := chkS_zero.1 a5
 by_cases h0 : m = 0
 ·subst h0
  have hR2 : Hid (R = 0) := Lib.hid (by rw [← hR, if_neg (by simp)])
  rcases hcl with rfl | ⟨rfl, rfl, _⟩
  ·clear hR a5
   go_enter Tryz.func34, Tryz.ntmps34
   go_wp2_with (first
    | (go_at_call 50; refine (HC.out _).mono ?_; rintro e w1 ⟨rfl, hb1⟩; have k1 := k0.call hb1; have c1 := k1.cell; have B1 := hb0.trans (hb1.mono hb0.size); have r1 := hr0.on hb1)
    | (go_at_call 98; refine (spCheck_any A _ cap K w1 hm.out (by omega) r1).mono ?_; rintro e w2 ⟨rfl, hb2⟩; have k2 := k1.call hb2; have c2 := k2.cell; have B2 := B1.trans (hb2.mono B1.size); have r2 := r1.on hb2))
   refine region_ext (by kernel_rfl) (by kernel_rfl) ?_
   repeat (go_big_quiet_step (fail))
   refine wpQuiet_nil ?_
   rintro w3 ⟨⟨_, hw3⟩, rfl⟩
   go_wp2_with fail
   go_ret
   rw [hR2.out]
   exact ⟨rfl, B2.trans (hw3.mono B2.size)⟩
  ·clear hR a5
   go_enter Tryz.func34, Tryz.ntmps34
   go_wp2_with (first
    | (go_at_call 50; refine (HC.out _).mono ?_; rintro e w1 ⟨rfl, hb1⟩; have k1 := k0.call hb1; have c1 := k1.cell; have B1 := hb0.trans (hb1.mono hb0.size); have r1 := hr0.on hb1)
    | (go_at_call 98; refine (spCheck_any A _ cap K w1 hm.out (by omega) r1).mono ?_; rintro e w2 ⟨rfl, hb2⟩; have k2 := k1.call hb2; have c2 := k2.cell; have B2 := B1.trans (hb2.mono B1.size); have r2 := r1.on hb2))
   refine region_ext (by kernel_rfl) (by kernel_rfl) ?_
   repeat (go_big_quiet_step (fail))
   refine wpQuiet_nil ?_
   rintro w3 ⟨⟨_, hw3⟩, rfl⟩
   go_wp2_with fail
   go_ret
   rw [hR2.out]
   exact ⟨rfl, B2.trans (hw3.mono B2.size)⟩
 ·obtain rfl : cl = false := by rcases hcl with h | h; exact h; exact absurd h.2.2 h0
  have hmp : 0 < m := by omega
  have dm : decide ((0 : Int) < (m : Int)) = true := by rw [decide_eq_true_eq]; omega
  have dn : ((m : Int) != 0) = true := by simp; omega
  have hwm : IntKind.i64.wrap ((m : Int) - 1) = ((m - 1 : Nat) : Int) := by rw [IntKind.wrap_i64]; omega
  have hl0 : K.getD 0 (0, 0) ∈ K := by rw [List.getD_eq_getElem?_getD, List.getElem?_eq_getElem (by have := hm.out; omega)]; exact List.getElem_mem _
  have hll : lastC K ∈ K := by unfold lastC; rw [List.getD_eq_getElem?_getD, List.getElem?_eq_getElem (by have := hm.out; omega)]; exact List.getElem_mem _
  have hv0 := vld_iff.1 (hcan.1 _ hl0)
  have hvl := vld_iff.1 (hcan.1 _ hll)
  have hat0 := Lib.hid (fun W (h : RU W W.heap.size A K) => h.at_' (k := 0) (by have := hm.out; omega))
  have hatl := Lib.hid (fun W (h : RU W W.heap.size A K) => h.at_' (k := m - 1) (by have := hm.out; omega))
  have hlc : K.getD (m - 1) (0, 0) = lastC K := by unfold lastC; rw [hm.out]
  rw [hlc] at hatl
  generalize K.getD 0 (0, 0) = x at *
  generalize lastC K = y at *
  obtain ⟨xa, xb⟩ := x
  obtain ⟨ya, yb⟩ := y
  simp only at hv0 hvl hat0 hatl hR
  have hwy : IntKind.i64.wrap (ya + yb) = ya + yb := by rw [IntKind.wrap_i64]; omega
  clear hl0 hll hlc hcl hcan
  by_cases a7 : xa < live
  ·have d7 : decide (xa < live) = true := by simpa using a7
   have hR2 : Hid (R = 6) := Lib.hid (by rw [← hR, if_pos ⟨by omega, .inl a7⟩])
   clear hR a5 a7
   go_enter Tryz.func34, Tryz.ntmps34
   go_wp2_with (first
    | (go_at_call 50; refine (HC.out _).mono ?_; rintro e w1 ⟨rfl, hb1⟩; have k1 := k0.call hb1; have c1 := k1.cell; have B1 := hb0.trans (hb1.mono hb0.size); have r1 := hr0.on hb1)
    | (go_at_call 98; refine (spCheck_any A _ cap K w1 hm.out (by omega) r1).mono ?_; rintro e w2 ⟨rfl, hb2⟩; have k2 := k1.call hb2; have c2 := k2.cell; have B2 := B1.trans (hb2.mono B1.size); have r2 := r1.on hb2))
   obtain ⟨b0, o0, hA0, _, x0, _⟩ := hat0.out w2 r2
   subst hA0
   simp only [Nat.zero_mul, Nat.add_zero] at x0
   have e0 := fun z : Ext w2 => z.cell x0
   have e1 := fun z : Ext w2 => (z.blk k2).cell
   refine region_ext (by kernel_rfl) (by kernel_rfl) ?_
   repeat (go_big_quiet_step (fail))
   refine wpQuiet_nil ?_
   rintro w3 ⟨⟨_, hw3⟩, rfl⟩
   go_wp2_with fail
   go_ret
   rw [hR2.out]
   exact ⟨rfl, B2.trans (hw3.mono B2.size)⟩
  ·have d7 : decide (xa < live) = false := by simpa using a7
   by_cases a8 : U < ya + yb
   ·have d8 : decide (U < ya + yb) = true := by simpa using a8
    have hR2 : Hid (R = 6) := Lib.hid (by rw [← hR, if_pos ⟨by omega, .inr a8⟩])
    clear hR a5 a7 a8
    go_enter Tryz.func34, Tryz.ntmps34
    go_wp2_with (first
     | (go_at_call 50; refine (HC.out _).mono ?_; rintro e w1 ⟨rfl, hb1⟩; have k1 := k0.call hb1; have c1 := k1.cell; have B1 := hb0.trans (hb1.mono hb0.size); have r1 := hr0.on hb1)
     | (go_at_call 98; refine (spCheck_any A _ cap K w1 hm.out (by omega) r1).mono ?_; rintro e w2 ⟨rfl, hb2⟩; have k2 := k1.call hb2; have c2 := k2.cell; have B2 := B1.trans (hb2.mono B1.size); have r2 := r1.on hb2))
    obtain ⟨b0, o0, hA0, _, x0, _⟩ := hat0.out w2 r2
    obtain ⟨b1, o1, hA1, _, y0, y1⟩ := hatl.out w2 r2
    subst hA0
    simp only [Option.some.injEq, Addr.mk.injEq, and_true] at hA1
    obtain ⟨rfl, rfl⟩ := hA1
    simp only [Nat.zero_mul, Nat.add_zero] at x0
    have e0 := fun z : Ext w2 => z.cell x0
    have e1 := fun z : Ext w2 => (z.blk k2).cell
    have e2 := fun z : Ext w2 => z.cell y0
    have e3 := fun z : Ext w2 => z.cell y1
    refine region_ext (by kernel_rfl) (by kernel_rfl) ?_
    repeat (go_big_quiet_step (fail))
    refine wpQuiet_nil ?_
    rintro w3 ⟨⟨_, hw3⟩, rfl⟩
    go_wp2_with fail
    go_ret
    rw [hR2.out]
    exact ⟨rfl, B2.trans (hw3.mono B2.size)⟩
   ·have d8 : decide (U < ya + yb) = false := by simpa using a8
    have hR2 : Hid (R = 0) := Lib.hid (by rw [← hR, if_neg (by omega)])
    clear hR a5 a7 a8
    go_enter Tryz.func34, Tryz.ntmps34
    go_wp2_with (first
     | (go_at_call 50; refine (HC.out _).mono ?_; rintro e w1 ⟨rfl, hb1⟩; have k1 := k0.call hb1; have c1 := k1.cell; have B1 := hb0.trans (hb1.mono hb0.size); have r1 := hr0.on hb1)
     | (go_at_call 98; refine (spCheck_any A _ cap K w1 hm.out (by omega) r1).mono ?_; rintro e w2 ⟨rfl, hb2⟩; have k2 := k1.call hb2; have c2 := k2.cell; have B2 := B1.trans (hb2.mono B1.size); have r2 := r1.on hb2))
    obtain ⟨b0, o0, hA0, _, x0, _⟩ := hat0.out w2 r2
    obtain ⟨b1, o1, hA1, _, y0, y1⟩ := hatl.out w2 r2
    subst hA0
    simp only [Option.some.injEq, Addr.mk.injEq, and_true] at hA1
    obtain ⟨rfl, rfl⟩ := hA1
    simp only [Nat.zero_mul, Nat.add_zero] at x0
    have e0 := fun z : Ext w2 => z.cell x0
    have e1 := fun z : Ext w2 => (z.blk k2).cell
    have e2 := fun z : Ext w2 => z.cell y0
    have e3 := fun z : Ext w2 => z.cell y1
    refine region_ext (by kernel_rfl) (by kernel_rfl) ?_
    repeat (go_big_quiet_step (fail))
    refine wpQuiet_nil ?_
    rintro w3 ⟨⟨_, hw3⟩, rfl⟩
    go_wp2_with fail
    go_ret
    rw [hR2.out]
    exact ⟨rfl, B2.trans (hw3.mono B2.size)⟩
end Go.Proofs.YtjmmgoijnhnnaaaGreat
namespace Go.Pol
open Go Go.RowKit
theorem IntsC.five {cs : Array Value} (h : IntsC cs 5) : ∃ a b c d e : Int, cs = #[.int .i64 a, .int .i64 b, .int .i64 c, .int .i64 d, .int .i64 e] := by
 obtain ⟨a, ha⟩ := h.at_ 0 (by omega)
 obtain ⟨b, hb⟩ := h.at_ 1 (by omega)
 obtain ⟨c, hc⟩ := h.at_ 2 (by omega)
 obtain ⟨d, hd⟩ := h.at_ 3 (by omega)
 obtain ⟨e, he⟩ := h.at_ 4 (by omega)
 refine ⟨a, b, c, d, e, ?_⟩
 apply Array.ext_getElem?
 intro i
 have hs := h.size
 match i with
 | 0 => simpa using ha
 | 1 => simpa using hb
 | 2 => simpa using hc
 | 3 => simpa using hd
 | 4 => simpa using he
 | i + 5 => rw [Array.getElem?_eq_none (by omega), Array.getElem?_eq_none (by simp)]
end Go.Pol
namespace Go.Proofs.YtjmmgoijnhnnaaaGreat
open Go Go.Proofs Go.RowKit Go.Pol Go.Shelf
attribute [local go_sem] Oper.semAt_some Go.Pol.wide_fn Go.Pol.wide_depth Go.Pol.wide_fn' Go.Pol.wide_depth'
theorem counts5_any (b : Nat) (V : Vm) (w : World) (hV : SysIs w b V) (hK : KindOk V) :
  Calls Tryz.prog 41 #[.pointer (some ⟨b, 0, none⟩)] w fun e w' => ∃ n1 n2 n3 n4 n5 : Int, e = .returned (.tuple #[.agg #[.int .i64 n1, .int .i64 n2, .int .i64 n3, .int .i64 n4, .int .i64 n5], .int .i64 0]) ∧ Below w.heap.size w w' := by
 refine (counts_any b V w hV hK).mono ?_
 rintro e w' ⟨⟨cs, h, rfl⟩, hb⟩
 obtain ⟨a, b, c, d, e, rfl⟩ := h.five
 exact ⟨a, b, c, d, e, rfl, hb⟩
theorem below_any (a b : Int) (w : World) (ha : -5000 ≤ a ∧ a ≤ 5000) (hb : -5000 ≤ b ∧ b ≤ 5000) :
  Calls Tryz.prog 52 #[.int .i64 a, .int .i64 b] w fun e w' => ∃ (A : Option Addr) (cap : Nat), e = .returned (.slice A (belC a b).length cap) ∧ RU w' w'.heap.size A (belC a b) ∧ (belC a b).length ≤ cap ∧ cap ≤ maxLen ∧ (∀ g o, A = some ⟨g, o, none⟩ → w.heap.size ≤ g) ∧ Below w.heap.size w w' := by
 unfold belC
 by_cases h : b ≤ a
 ·have h' : decide (b ≤ a) = true := by simpa using h
  rw [if_pos h]
  go_enter Tryz.func52, Tryz.ntmps52
  go_wp2_with fail
  go_ret
  exact ⟨none, 0, rfl, RU.nil, by simp, by unfold maxLen; omega, fun _ _ h => (by cases h), Below.refl _ _⟩
 ·have h' : decide (b ≤ a) = false := by simpa using h
  rw [if_neg h]
  have hwr : IntKind.i64.wrap (b - a) = b - a := by rw [IntKind.wrap_i64]; omega
  go_enter Tryz.func52, Tryz.ntmps52
  go_wp2_with fail
  go_ret
  have k := Blk.new w 140 #[.int .i64 a, .int .i64 (b - a)]
  exact ⟨_, _, rfl, ru_one k, Nat.le_refl _, by unfold maxLen; omega, fun g o e => (by cases e; exact Nat.le_refl _), (Below.refl _ _).alloc (Nat.le_refl _) _⟩
set_option maxRecDepth 100000 in
set_option maxHeartbeats 1600000 in
theorem ready_any (bs bb : Nat) (V : Vm) (L : List Nd) (r : Cr) (A : Option Addr) (cap : Nat) (w : World) (hV : SysIs w bs V) (hK : KindOk V) (hB : BudIs w bb L) (hO : BudOk L) (hcap : r.kept.length ≤ cap) (hcm : cap ≤ maxLen) (hr : RU w w.heap.size A r.kept) :
  Calls Tryz.prog 49 #[.pointer (some ⟨bs, 0, none⟩), .pointer (some ⟨bb, 0, none⟩), .agg (crC r (.slice A r.kept.length cap))] w fun e w' => e = .returned (.int .i64 (chkCm r)) ∧ Below w.heap.size w w' := by
 have hb0 := (Below.refl w.heap.size w).alloc (Nat.le_refl _) (.cells (crC r (.slice A r.kept.length cap)) 43)
 have k0 := Blk.new w 43 (crC r (.slice A r.kept.length cap))
 have V0 := hV.call hb0
 have HC := Lib.hid (fun W (h : SysIs W bs V) => counts5_any bs V W h hK)
 have HO := Lib.hid (fun W (h : BudIs W bb L) => overB_any bb L W h hO)
 have HK := Lib.hid (fun W h => cmCheck_any r A cap W hcap hcm h)
 have hr0 := Lib.hid (hr.on hb0)
 have hB0 := Lib.hid (hB.call hb0)
 generalize r.kept.length = m at *
 generalize chkCm r = ck at *
 clear hV hB hr
 dsimp only [crC] at k0 hb0 V0 hB0 HK ⊢
 go_enter Tryz.func49, Tryz.ntmps49
 go_wp2_with fail
 refine (HC.out _ V0).mono ?_
 rintro e w1 ⟨n1, n2, n3, n4, n5, rfl, hb1⟩
 have hb1a := hb1.trans ((Below.refl w1.heap.size w1).alloc (Nat.le_refl _) (.cells #[.int .i64 n1, .int .i64 n2, .int .i64 n3, .int .i64 n4, .int .i64 n5] 106) |>.mono hb1.size)
 have k1 := k0.call hb1a
 have B1 := hb0.trans (hb1a.mono hb0.size)
 have hr1 := hr0.out.on hb1a
 have hB1 := hB0.out.call hb1a
 obtain ⟨w1a, hw1a⟩ : ∃ x, w1.alloc (.cells #[.int .i64 n1, .int .i64 n2, .int .i64 n3, .int .i64 n4, .int .i64 n5] 106) = x := ⟨_, rfl⟩
 rw [hw1a] at k1 B1 hr1 hB1
 clear hb1 hb1a k0 hb0 hr0 hB0 V0 HC
 go_wp2_with fail
 refine (HO.out _ hB1).mono ?_
 rintro e w2 ⟨⟨v, rfl⟩, hb2⟩
 have k2 := k1.call hb2
 have c2 := k2.cell
 have B2 := B1.trans (hb2.mono B1.size)
 have hr2 := hr1.on hb2
 clear HO hB1 k1 B1 hr1 hb2
 go_wp2_with fail
 refine (HK.out _ hr2).mono ?_
 rintro e w3 ⟨rfl, hb3⟩
 go_wp2_with fail
 go_ret
 exact ⟨rfl, B2.trans (hb3.mono B2.size)⟩
theorem numbers_any (p n k : Int) (w : World) :
  Calls Tryz.prog 63 #[.agg #[.int .i64 p, .int .i64 n, .int .i64 k]] w fun e w' => ∃ g, e = .returned (.slice (some ⟨g, 0, none⟩) 1 1) ∧ RU w' w'.heap.size (some ⟨g, 0, none⟩) [(k, n)] ∧ w.heap.size ≤ g ∧ Below w.heap.size w w' := by
 have hb0 := (Below.refl w.heap.size w).alloc (Nat.le_refl _) (.cells #[.int .i64 p, .int .i64 n, .int .i64 k] 137)
 have k0 := Blk.new w 137 #[.int .i64 p, .int .i64 n, .int .i64 k]
 have c0 := k0.cell
 go_enter Tryz.func63, Tryz.ntmps63
 go_wp2_with fail
 go_ret
 have kx := Blk.new (w.alloc (.cells #[.int .i64 p, .int .i64 n, .int .i64 k] 137)) 140 #[.int .i64 k, .int .i64 n]
 rw [World.size_alloc] at kx
 exact ⟨w.heap.size + 1, rfl, ru_one kx, Nat.le_succ _, hb0.alloc hb0.size _⟩
end Go.Proofs.YtjmmgoijnhnnaaaGreat
namespace Go.Pol
open Go Go.RowKit
theorem wpAnyT_firstV {P : Program} {ops : Array Oper} {Q : Exit → Act → World → Prop} {md : Region.Mode} {S : World → Prop} {tl : List Nat} {i : Nat} {oi : Oper} {v : Value} (hi : ops[i]? = some oi) (hsel : ∀ (j : Nat) (o : Oper) cs b, ops[j]? = some o → o.op ≠ .select cs b)
  (hQ : ∀ c a w, Q (.panic c) (a.put oi.dst v) w → Q (.panic c) a w) (hti : tl.contains i = true) :
  ∀ (fuel : Nat) (listed : Array Bool) (a : Act) (w : World),
   (∀ j oj, ops[j]? = some oj → j ≠ i → listed.getD j true = false → (∀ e ∈ oj.after, Region.binds md e = true → e.on ≠ i) → oi.apart ops oj = true) →
   i ∈ Region.ready md ops listed → YieldsIf P ops (fun _ => True) oi v a →
   wpAnyT P md ops Q S tl fuel (listed.setIfInBounds i true) (a.put oi.dst v) w → wpAnyT P md ops Q S tl (fuel + 1) listed a w := by
 have hno : ∀ w : World, tl.contains i = false → S w := fun w h => by rw [hti] at h; cases h
 intro fuel
 induction fuel with
 | zero =>
  intro listed a w _ hr hy H
  refine ⟨fun h => (by rw [h] at hr; cases hr), fun j hj => ?_⟩
  by_cases hji : j = i
  ·subst hji; exact hy.wpOp hi trivial ⟨hno w, H⟩
  ·have := ready_mono hj hji
   rw [H.1] at this
   cases this
 | succ fuel ih =>
  intro listed a w hfree hr hy H
  refine ⟨fun h => (by rw [h] at hr; cases hr), fun j hj => ?_⟩
  by_cases hji : j = i
  ·subst hji; exact hy.wpOp hi trivial ⟨hno w, H⟩
  ·have h1 := H.2 j (ready_mono hj hji)
   obtain ⟨hjun, oj, hoj, hall⟩ := mem_ready.1 hj
   have hun : listed.getD i false = false := getD_both (mem_ready.1 hr).1
   have hnot : ∀ e ∈ oj.after, Region.binds md e = true → e.on ≠ i := fun e he hb heq => by
    have h1 := hall e he hb
    rw [heq, hun] at h1
    cases h1
   have h2 := wpOp_putIf hoj (hfree j oj hoj hji hjun hnot) (fun cs b => hsel i oi cs b hi) (fun cs b => hsel j oj cs b hoj) hQ hy h1
   have hfree' : ∀ k ok, ops[k]? = some ok → k ≠ i → (listed.setIfInBounds j true).getD k true = false →
     (∀ e ∈ ok.after, Region.binds md e = true → e.on ≠ i) → oi.apart ops ok = true := fun k ok hk hki hun hno => by
    refine hfree k ok hk hki ?_ hno
    by_cases hjk : j = k
    ·subst hjk; exact hjun
    ·rw [getD_set_ne true hjk] at hun; exact hun
   refine wpOp_mono (fun a' w' h3 => ⟨h3.2.1, ih (listed.setIfInBounds j true) a' w' hfree' (ready_mono hr (Ne.symm hji)) h3.1 ?_⟩) h2
   rw [Array.setIfInBounds_comm _ _ hji]
   exact h3.2.2
theorem wpAnyT_takeV {P : Program} {ops : Array Oper} {Q : Exit → Act → World → Prop} {md : Region.Mode} {S : World → Prop} {tl : List Nat} {i : Nat} {oi : Oper} {v : Value} {fuel : Nat} {listed : Array Bool} {a : Act} {w : World} (hi : ops[i]? = some oi)
  (hB : (Region.noSelect ops && Region.free md ops listed i && (Region.ready md ops listed).contains i && tl.contains i) = true)
  (hQ : ∀ c a w, Q (.panic c) (a.put oi.dst v) w → Q (.panic c) a w) (hy : YieldsIf P ops (fun _ => True) oi v a)
  (h : wpAnyT P md ops Q S tl fuel (listed.setIfInBounds i true) (a.put oi.dst v) w) : wpAnyT P md ops Q S tl (fuel + 1) listed a w := by
 simp only [Bool.and_eq_true] at hB
 obtain ⟨⟨⟨h1, h2⟩, h3⟩, h5⟩ := hB
 exact wpAnyT_firstV hi (Region.noSelect_spec h1) hQ h5 fuel listed a w (Region.free_spec hi h2) (by simpa using h3) hy h
theorem tkV {P : Program} {ops : Array Oper} {Q : Exit → Act → World → Prop} {md : Region.Mode} {S : World → Prop} {tl : List Nat} (i : Nat) {oi : Oper} {v : Value} {fuel : Nat} {listed : Array Bool} {a : Act} {w : World} (h : wpAnyT P md ops Q S tl fuel (listed.setIfInBounds i true) (a.put oi.dst v) w) (hi : ops[i]? = some oi := by (simp only [List.getElem?_toArray, List.getElem?_cons_succ, List.getElem?_cons_zero]; rfl)) (hB : (Region.noSelect ops && Region.free md ops listed i && (Region.ready md ops listed).contains i && tl.contains i) = true := by kernel_rfl) (hQ : ∀ c a w, Q (.panic c) (a.put oi.dst v) w → Q (.panic c) a w := by exact fun _ _ _ h => h) (hy : YieldsIf P ops (fun _ => True) oi v a := by (refine Or.inl ⟨rfl, ?_⟩; intro wS hSw; go_simp; (try with_reducible rfl))) : wpAnyT P md ops Q S tl (fuel + 1) listed a w := wpAnyT_takeV hi hB hQ hy h
def CrS (s : Nat) (live : Int) (v : Value) (W : World) : Prop := W.cell? ⟨s, 6, none⟩ = some (.int .i64 live) ∧ W.cell? ⟨s, 7, none⟩ = some v
theorem CrS.call {s : Nat} {live : Int} {v : Value} {W W' : World} (h : CrS s live v W) (hb : Below W.heap.size W W') : CrS s live v W' := by
 have hl : s < W.heap.size := block_lt_of_cell h.1
 exact ⟨(hb.cell (p := ⟨s, 6, none⟩) hl).trans h.1, (hb.cell (p := ⟨s, 7, none⟩) hl).trans h.2⟩
def cr0 : Cr := ⟨0, 0, 0, 0, 0, 0, 0, [], false⟩
theorem below_alloc2 {w w1 : World} (h : Below w.heap.size w w1) (o : Obj) : Below w.heap.size w (w1.alloc o) := h.alloc h.size o
theorem Blk.alloc2 {w : World} {g : Nat} {t : TypeId} {cs : Array Value} (h : Blk w g t cs) (o : Obj) : Blk (w.alloc o) g t cs := h.call ((Below.refl _ _).alloc (Nat.le_refl _) o)
theorem Blk.new2 (w : World) (o : Obj) (t : TypeId) (cs : Array Value) : Blk ((w.alloc o).alloc (.cells cs t)) (w.heap.size + 1) t cs := by
 have := Blk.new (w.alloc o) t cs
 rwa [World.size_alloc] at this
def put9 (W : World) (g : Nat) (r : Cr) (v : Value) : World :=
 ((((((((W.setCell ⟨g, 0, none⟩ (.int .i64 r.pg)).setCell ⟨g, 1, none⟩ (.int .i64 r.n)).setCell ⟨g, 2, none⟩ (.int .i64 r.f)).setCell ⟨g, 3, none⟩ (.int .i64 r.bk)).setCell ⟨g, 4, none⟩ (.int .i64 r.ev)).setCell ⟨g, 5, none⟩ (.int .i64 r.node)).setCell ⟨g, 6, none⟩ (.int .i64 r.live)).setCell ⟨g, 7, none⟩ v).setCell ⟨g, 8, none⟩ (.bool r.cl)
theorem put9_blk {W : World} {g : Nat} {t : TypeId} {a0 a1 a2 a3 a4 a5 a6 a7 a8 : Value} (h : Blk W g t #[a0, a1, a2, a3, a4, a5, a6, a7, a8]) (r : Cr) (v : Value) : Blk (put9 W g r v) g t (crC r v) := by
 have := ((((((((h.set_ 0 (.int .i64 r.pg)).set_ 1 (.int .i64 r.n)).set_ 2 (.int .i64 r.f)).set_ 3 (.int .i64 r.bk)).set_ 4 (.int .i64 r.ev)).set_ 5 (.int .i64 r.node)).set_ 6 (.int .i64 r.live)).set_ 7 v).set_ 8 (.bool r.cl)
 simpa [put9, crC] using this
theorem put9_far (W : World) (g : Nat) (r : Cr) (v : Value) : Far (fun k => k = g) W (put9 W g r v) :=
 Far.setCell (T := fun k => k = g) (p := ⟨g, 8, none⟩) (Far.setCell (T := fun k => k = g) (p := ⟨g, 7, none⟩) (Far.setCell (T := fun k => k = g) (p := ⟨g, 6, none⟩) (Far.setCell (T := fun k => k = g) (p := ⟨g, 5, none⟩) (Far.setCell (T := fun k => k = g) (p := ⟨g, 4, none⟩) (Far.setCell (T := fun k => k = g) (p := ⟨g, 3, none⟩) (Far.setCell (T := fun k => k = g) (p := ⟨g, 2, none⟩) (Far.setCell (T := fun k => k = g) (p := ⟨g, 1, none⟩) (Far.setCell (T := fun k => k = g) (p := ⟨g, 0, none⟩) (Far.refl _ _) (fun _ => rfl) (.int .i64 r.pg)) (fun _ => rfl) (.int .i64 r.n)) (fun _ => rfl) (.int .i64 r.f)) (fun _ => rfl) (.int .i64 r.bk)) (fun _ => rfl) (.int .i64 r.ev)) (fun _ => rfl) (.int .i64 r.node)) (fun _ => rfl) (.int .i64 r.live)) (fun _ => rfl) v) (fun _ => rfl) (.bool r.cl)
theorem put9_below {s : Nat} {W0 W : World} (h : Below s W0 W) {g : Nat} (hg : s ≤ g) (r : Cr) (v : Value) : Below s W0 (put9 W g r v) :=
 ((((((((h.setCell (p := ⟨g, 0, none⟩) hg (.int .i64 r.pg)).setCell (p := ⟨g, 1, none⟩) hg (.int .i64 r.n)).setCell (p := ⟨g, 2, none⟩) hg (.int .i64 r.f)).setCell (p := ⟨g, 3, none⟩) hg (.int .i64 r.bk)).setCell (p := ⟨g, 4, none⟩) hg (.int .i64 r.ev)).setCell (p := ⟨g, 5, none⟩) hg (.int .i64 r.node)).setCell (p := ⟨g, 6, none⟩) hg (.int .i64 r.live)).setCell (p := ⟨g, 7, none⟩) hg v).setCell (p := ⟨g, 8, none⟩) hg (.bool r.cl)
def shrinkC (r : Cr) (tt : Int) : Cr × Int :=
 if chkCm r ≠ 0 then (r, chkCm r) else if r.cl = true then (r, 9) else if tt < 0 ∨ r.live < tt then (r, 7)
 else ({ r with kept := setOf (r.kept ++ belC tt r.live), live := tt }, 0)
structure KeptAt (w : World) (A : Option Addr) (us : List Sp) : Prop where
 ru : RU w w.heap.size A us
 ty : us ≠ [] → ∃ (g o : Nat) (cs : Array Value), A = some ⟨g, o, none⟩ ∧ Blk w g 140 cs
theorem KeptAt.none (w : World) (A : Option Addr) : KeptAt w A [] := ⟨RU.nil, fun h => absurd rfl h⟩
theorem KeptAt.far {w w' : World} {A : Option Addr} {us : List Sp} {T : Nat → Prop} (h : KeptAt w A us) (hF : Far T w w') (hT : ∀ g cs, Blk w g 140 cs → ¬ T g) : KeptAt w' A us := by
 refine ⟨fun k hk => ?_, fun hn => ?_⟩
 ·obtain ⟨g, o, cs, e, kb⟩ := h.ty (fun hn => by subst hn; simp at hk)
  obtain ⟨b, o, e', hb, c1, c2⟩ := h.ru.at_' hk
  rw [e] at e'
  cases e'
  exact ⟨_, _, e, Nat.lt_of_lt_of_le hb hF.size, hF.cell c1 (hT _ _ kb), hF.cell c2 (hT _ _ kb)⟩
 ·obtain ⟨g, o, cs, e, kb⟩ := h.ty hn
  exact ⟨g, o, cs, e, hF.blk kb (hT _ _ kb)⟩
theorem KeptAt.call {w w' : World} {A : Option Addr} {us : List Sp} (h : KeptAt w A us) (hb : Below w.heap.size w w') : KeptAt w' A us :=
 h.far (T := fun _ => False) (Far.of_below hb) (fun _ _ _ => id)
theorem KeptAt.own {w : World} {v : Value} {base n : Nat} {us : List Sp} (h : w.ownsRow base 140 2 v n (spCells us)) (hn : us.length = n) : ∃ (A : Option Addr) (cap : Nat), v = .slice A n cap ∧ KeptAt w A us ∧ n ≤ cap ∧ cap ≤ maxLen := by
 obtain ⟨A, cap, rfl, hru, h1, h2, _, _⟩ := own_RU h hn
 refine ⟨A, cap, rfl, ⟨hru, fun hne => ?_⟩, h1, h2⟩
 rcases h.2 with ⟨hv, h0⟩ | ⟨g, cap', cur, hv, _, hk, _⟩
 ·subst h0
  exact absurd (List.eq_nil_of_length_eq_zero hn) hne
 ·cases hv
  exact ⟨g, 0, cur, rfl, hk⟩
def SpansY (w : World) (us : List Sp) (er : Int) (e : Ending) (w' : World) : Prop :=
 ∃ (A : Option Addr) (cap : Nat), e = .returned (.tuple #[.slice A us.length cap, .int .i64 er]) ∧ KeptAt w' A us ∧ us.length ≤ cap ∧ cap ≤ maxLen ∧ Below w.heap.size w w'
def CrV (r : Cr) (w' : World) (v : Value) : Prop :=
 ∃ (A' : Option Addr) (cap : Nat), v = .agg (crC r (.slice A' r.kept.length cap)) ∧ r.kept.length ≤ cap ∧ cap ≤ maxLen ∧ KeptAt w' A' r.kept
theorem Blk.ne {w : World} {g : Nat} {t u : TypeId} {cs ds : Array Value} (h : Blk w g t cs) (k : Blk w g u ds) (hne : t ≠ u) : False := by
 have := Option.some.inj (h.symm.trans k)
 simp only [Obj.cells.injEq] at this
 exact hne this.2.1
theorem RU.farC {w w' : World} {B : Nat} {A : Option Addr} {us : List Sp} {T : Nat → Prop} (h : RU w B A us) (hF : Far T w w') (hT : ∀ g o, A = some ⟨g, o, none⟩ → ¬ T g) : RU w' B A us := fun k hk => by
 obtain ⟨b, o, e, hb, c1, c2⟩ := h.at_' hk
 exact ⟨b, o, e, hb, hF.cell c1 (hT b o e), hF.cell c2 (hT b o e)⟩
theorem usC_le {r : Cr} (h : PlanOk r.pg r.n r.f r.bk r.ev) : usC r ≤ 1024 := by
 unfold usC
 rw [if_pos (chkG_zero.2 h)]
 exact (runs_sum h).2
theorem belC_can {a b : Int} (h0 : 0 ≤ a) (h1 : b ≤ 1024) : Can (belC a b) := by
 unfold belC
 by_cases h : b ≤ a
 ·rw [if_pos h]; exact ⟨by simp, rfl⟩
 ·rw [if_neg h]; exact Can.one (vld_iff.2 ⟨h0, by show a < 1024; omega, by show 1 ≤ b - a; omega, by show b - a ≤ 1024 - a; omega⟩)
end Go.Pol
namespace Go.Proofs.YtjmmgoijnhnnaaaGreat
open Go Go.Proofs Go.RowKit Go.Pol Go.Shelf
attribute [local go_sem] Oper.semAt_some Go.Pol.wide_fn Go.Pol.wide_depth Go.Pol.wide_fn' Go.Pol.wide_depth'
set_option maxHeartbeats 1600000 in
theorem unionY_any (A1 A2 : Option Addr) (n1 c1 n2 c2 : Nat) (us vs : List Sp) (w : World) (hn1 : us.length = n1) (hm1 : n1 ≤ c1) (hc1 : c1 ≤ maxLen) (hr1 : RU w w.heap.size A1 us) (hn2 : vs.length = n2) (hm2 : n2 ≤ c2) (hc2 : c2 ≤ maxLen) (hr2 : RU w w.heap.size A2 vs)
  (hU : Go.Pol.Can us) (hV : Go.Pol.Can vs) :
  Calls Tryz.prog 62 #[.slice A1 n1 c1, .slice A2 n2 c2] w (SpansY w (setOf (us ++ vs)) 0) := by
 have hb0 := (Below.refl w.heap.size w).alloc (Nat.le_refl _) (.cells #[.slice A1 n1 c1, .slice A2 n2 c2] 41)
 have k0 := Blk.new w 41 #[.slice A1 n1 c1, .slice A2 n2 c2]
 have r1 := hr1.on ((Below.refl w.heap.size w).alloc (Nat.le_refl _) (.cells #[.slice A1 n1 c1, .slice A2 n2 c2] 41))
 have r2 := hr2.on ((Below.refl w.heap.size w).alloc (Nat.le_refl _) (.cells #[.slice A1 n1 c1, .slice A2 n2 c2] 41))
 have HC := Lib.hid (check2_any A1 A2 n1 c1 n2 c2 us vs w.heap.size _ hn1 (Nat.le_trans hm1 hc1) r1 hn2 (Nat.le_trans hm2 hc2) r2 k0)
 rw [chkS_zero.2 hU, chkS_zero.2 hV, if_pos rfl] at HC
 have hl1 := hU.len
 have hl2 := hV.len
 have hv : ∀ y ∈ us ++ vs, vld y = true := fun y hy => by
  rcases List.mem_append.1 hy with h | h
  ·exact hU.1 y h
  ·exact hV.1 y h
 clear hr1 hr2
 go_enter Tryz.func62, Tryz.ntmps62
 go_wp2_with fail
 refine HC.out.mono ?_
 rintro e w1 ⟨rfl, hb1⟩
 have B1 := hb0.trans (hb1.mono hb0.size)
 have r3 := r1.on hb1
 have r4 := r2.on hb1
 clear HC k0 r1 r2
 have hbX := (Below.refl w1.heap.size w1).alloc (Nat.le_refl _) (.cells #[.slice A1 n1 c1, .slice A2 n2 c2] 41)
 have kX := Blk.new w1 41 #[.slice A1 n1 c1, .slice A2 n2 c2]
 have HK := Lib.hid (concat2C_any A1 A2 n1 c1 n2 c2 us vs w1.heap.size _ hn1 (by omega) (r3.on hbX) hn2 (by omega) (r4.on hbX) kX)
 have B2 := B1.trans (hbX.mono B1.size)
 go_wp2_with fail
 refine HK.out.mono ?_
 rintro e w2 ⟨v, rfl, hrow, hb2⟩
 have B3 := B2.trans (hb2.mono B2.size)
 have HO := Lib.hid (of'_any _ v (us ++ vs) w2 hv (by rw [List.length_append]; omega) hb2.size hrow)
 go_wp2_with fail
 refine HO.out.mono ?_
 rintro e w3 ⟨us', v', hp, hs, rfl, hrow3, hb3⟩
 have B4 := B3.trans (hb3.mono B2.size)
 obtain ⟨A, cap, rfl, hru, h1, h2⟩ := KeptAt.own hrow3 rfl
 have hS := ofF_setOf hv hp hs
 go_wp2_with fail
 go_ret2
 rw [hS] at hru h1
 exact ⟨A, cap, rfl, hru, h1, h2, B4⟩
set_option maxHeartbeats 800000 in
theorem minusY_any (A1 A2 : Option Addr) (n1 c1 n2 c2 : Nat) (us vs : List Sp) (w : World) (hn1 : us.length = n1) (hm1 : n1 ≤ c1) (hc1 : c1 ≤ maxLen) (hr1 : RU w w.heap.size A1 us) (hn2 : vs.length = n2) (hm2 : n2 ≤ c2) (hc2 : c2 ≤ maxLen) (hr2 : RU w w.heap.size A2 vs) (hU : Go.Pol.Can us) (hV : Go.Pol.Can vs) :
  Calls Tryz.prog 51 #[.slice A1 n1 c1, .slice A2 n2 c2] w (SpansY w (commonF us (gapsF vs (0, 1024))) 0) := by
 have hb0 := (Below.refl w.heap.size w).alloc (Nat.le_refl _) (.cells #[.slice A1 n1 c1, .slice A2 n2 c2] 41)
 have k0 := Blk.new w 41 #[.slice A1 n1 c1, .slice A2 n2 c2]
 have r1 := hr1.on ((Below.refl w.heap.size w).alloc (Nat.le_refl _) (.cells #[.slice A1 n1 c1, .slice A2 n2 c2] 41))
 have r2 := hr2.on ((Below.refl w.heap.size w).alloc (Nat.le_refl _) (.cells #[.slice A1 n1 c1, .slice A2 n2 c2] 41))
 have HC := Lib.hid (check2_any A1 A2 n1 c1 n2 c2 us vs w.heap.size _ hn1 (Nat.le_trans hm1 hc1) r1 hn2 (Nat.le_trans hm2 hc2) r2 k0)
 clear hr1 hr2
 rw [chkS_zero.2 hU, chkS_zero.2 hV, if_pos rfl] at HC
 have hg := hV.gaps (i := (0, 1024)) (by decide)
 have hlen := commonF_len us (gapsF vs (0, 1024))
 have hl1 := hU.len
 have hl2 := hg.1.len
 have HG := Lib.hid (fun W h => gaps_any A2 n2 c2 vs 0 1024 W hn2 hm2 hc2 h hV (by decide))
 go_enter Tryz.func51, Tryz.ntmps51
 go_wp2_with fail
 refine HC.out.mono ?_
 rintro e w1 ⟨rfl, hb1⟩
 have B1 := hb0.trans (hb1.mono hb0.size)
 have r3 := r1.on hb1
 have r4 := r2.on hb1
 clear HC k0 r1 r2 hb1 hb0
 generalize gapsF vs (0, 1024) = G at *
 obtain ⟨gl, hgl⟩ : ∃ gl, G.length = gl := ⟨_, rfl⟩
 rw [hgl] at HG
 go_wp2_with fail
 refine (HG.out _ r4).mono ?_
 rintro e w2 ⟨A3, c3, rfl, r5, m3, x3, _, hb2⟩
 have B2 := B1.trans (hb2.mono B1.size)
 have r6 := r3.on hb2
 clear HG r3 r4
 have kX : Blk ((w2.alloc (.cells #[.slice A1 n1 c1] 41)).alloc (.cells #[.slice A3 gl c3] 41)) w2.heap.size 41 #[.slice A1 n1 c1] := (Blk.new _ _ _).alloc _
 have kY : Blk ((w2.alloc (.cells #[.slice A1 n1 c1] 41)).alloc (.cells #[.slice A3 gl c3] 41)) (w2.heap.size + 1) 41 #[.slice A3 gl c3] := by
  have := Blk.new (w2.alloc (.cells #[.slice A1 n1 c1] 41)) 41 #[.slice A3 gl c3]
  rw [World.size_alloc] at this; exact this
 have hbX : Below w2.heap.size w2 ((w2.alloc (.cells #[.slice A1 n1 c1] 41)).alloc (.cells #[.slice A3 gl c3] 41)) := ((Below.refl w2.heap.size w2).alloc (Nat.le_refl _) _).alloc (by simp) _
 have LA : Left _ w2.heap.size (fun k => k < w2.heap.size + 2) w2.heap.size (w2.heap.size + 1) A1 n1 c1 us := ⟨hn1, hm1, by unfold maxLen at hc1; omega, r6.below hbX, fun h b o e => by have := ru_lt r6 h e; exact ⟨by omega, by omega, by omega⟩, hU.1⟩
 have LB : Left _ w2.heap.size (fun k => k < w2.heap.size + 2) w2.heap.size (w2.heap.size + 1) A3 gl c3 G := ⟨hgl, m3, by unfold maxLen at x3; omega, r5.below hbX, fun h b o e => by have := ru_lt r5 h e; exact ⟨by omega, by omega, by omega⟩, hg.1.1⟩
 have HS := Lib.hid (common1_seq A1 A3 n1 c1 gl c3 us G w2.heap.size (w2.heap.size + 1) w2.heap.size (fun k => k < w2.heap.size + 2) _ (by simp) (by simp) (by omega) kX kY LA LB)
 clear LA LB kX kY r5 r6 hg
 generalize commonF us G = L at *
 have hlL : L.length ≤ 1000000 := by omega
 go_wp2_with (first
  | (go_at_call 119; refine (common_any A1 A3 n1 c1 gl c3 w2).mono ?_; rintro e w3 ⟨rfl, rfl⟩)
  | (go_at_call 118; refine (collect_any _ _ _ _ _ _ hlL HS.out common_enters (fun k h => by rcases h with rfl | rfl <;> (rw [World.size_alloc, World.size_alloc]; omega)) (fun k h => by simp; omega)).mono ?_; rintro e w4 ⟨v, rfl, hown, _, hf⟩; obtain ⟨A, cap, rfl, hru, h1, h2⟩ := KeptAt.own hown rfl))
 have B3 := B2.trans (hbX.mono B2.size)
 have B4 := hf.below (n := w.heap.size) (by have := B3.size; exact this) (fun k hk h => by have := B2.size; rcases h with rfl | rfl <;> omega)
 go_ret2
 exact ⟨A, cap, rfl, hru, h1, h2, B3.trans B4⟩
set_option maxRecDepth 100000 in
set_option maxHeartbeats 3200000 in
theorem shrink_any (r : Cr) (tt : Int) (A : Option Addr) (cap : Nat) (w : World) (hcap : r.kept.length ≤ cap) (hcm : cap ≤ maxLen) (hk : KeptAt w A r.kept) :
  Calls Tryz.prog 40 #[.agg (crC r (.slice A r.kept.length cap)), .int .i64 tt] w fun e w' => ∃ v, e = .returned (.tuple #[v, .int .i64 (shrinkC r tt).2]) ∧ CrV (shrinkC r tt).1 w' v ∧ Below w.heap.size w w' := by
 have hr := hk.ru
 have HK := Lib.hid (fun W h => cmCheck_any r A cap W hcap hcm h)
 have hR : ∃ R, shrinkC r tt = R := ⟨_, rfl⟩
 obtain ⟨R, hR⟩ := hR
 rw [hR]
 unfold shrinkC at hR
 have hz := @chkCm_zero r
 have hZ : chkCm r = 0 → 0 ≤ r.live ∧ r.live ≤ 1024 ∧ chkS r.kept = 0 := fun h => ⟨(hz.1 h).live0, Int.le_trans (hz.1 h).live1 (usC_le (hz.1 h).plan), chkS_zero.2 (hz.1 h).can⟩
 clear hz
 generalize chkCm r = ck at *
 obtain ⟨pg, n, f, bk, ev, node, live, K, cl⟩ := r
 simp only at hcap hcm hr hk hR hZ HK ⊢
 obtain ⟨m, hm0⟩ : ∃ m, K.length = m := ⟨_, rfl⟩
 rw [hm0] at hcap HK ⊢
 have hm := Lib.hid hm0
 have hb0 := below_alloc2 ((Below.refl w.heap.size w).alloc (Nat.le_refl _) (.cells (crC ⟨pg, n, f, bk, ev, node, live, K, cl⟩ (.slice A m cap)) 43)) (.cells (crC cr0 (.slice none 0 0)) 43)
 have k0 := (Blk.new w 43 (crC ⟨pg, n, f, bk, ev, node, live, K, cl⟩ (.slice A m cap))).alloc2 (.cells (crC cr0 (.slice none 0 0)) 43)
 have kR := Blk.new2 w (.cells (crC ⟨pg, n, f, bk, ev, node, live, K, cl⟩ (.slice A m cap)) 43) 43 (crC cr0 (.slice none 0 0))
 have hr0 := Lib.hid (hr.on hb0)
 dsimp only [crC, cr0] at k0 hb0 kR hr0 HK ⊢
 have hrH := Lib.hid hk
 clear hm0 hr hk
 by_cases h0 : ck = 0
 case neg =>
  have h0' : (ck != 0) = true := by simpa using h0
  rw [if_pos h0] at hR
  subst hR
  clear h0
  go_enter Tryz.func40, Tryz.ntmps40
  go_wp2_with fail
  refine (HK.out _ hr0.out).mono ?_
  rintro e w1 ⟨rfl, hb1⟩
  have k1 := k0.call hb1
  have kR1 := kR.call hb1
  have B1 := hb0.trans (hb1.mono hb0.size)
  have hr1 := hr0.out.on hb1
  have c1 := k1.cell
  have c1R := kR1.cell
  have f1R := kR1.frozen
  clear HK k0 kR hb0 hr0 hb1
  go_wp2_with fail
  change bodyPost _ _ _ _ _ (put9 w1 (w.heap.size + 1) ⟨pg, n, f, bk, ev, node, live, K, cl⟩ (.slice A m cap))
  have kR9 := put9_blk kR1 ⟨pg, n, f, bk, ev, node, live, K, cl⟩ (.slice A m cap)
  have F9 := put9_far w1 (w.heap.size + 1) ⟨pg, n, f, bk, ev, node, live, K, cl⟩ (.slice A m cap)
  have B9 := put9_below B1 (g := (w.heap.size + 1)) (by omega) ⟨pg, n, f, bk, ev, node, live, K, cl⟩ (.slice A m cap)
  generalize put9 w1 (w.heap.size + 1) ⟨pg, n, f, bk, ev, node, live, K, cl⟩ (.slice A m cap) = w9 at *
  dsimp only [crC] at kR9
  have cR9 := kR9.cell
  refine bodyPost_ret (v := .tuple #[.agg (crC ⟨pg, n, f, bk, ev, node, live, K, cl⟩ (.slice A m cap)), .int .i64 ck]) (by simp [results, Tryz.results40, go_sem, cR9, crC]) rfl ?_
  exact ⟨_, rfl, ⟨A, cap, by rw [hm.out], by rw [hm.out]; exact hcap, hcm, hrH.out.call B9⟩, B9⟩
 subst h0
 rw [if_neg (by simp)] at hR
 by_cases h1 : cl = true
 case pos =>
  subst h1
  rw [if_pos rfl] at hR
  subst hR
  go_enter Tryz.func40, Tryz.ntmps40
  go_wp2_with fail
  refine (HK.out _ hr0.out).mono ?_
  rintro e w1 ⟨rfl, hb1⟩
  have k1 := k0.call hb1
  have kR1 := kR.call hb1
  have B1 := hb0.trans (hb1.mono hb0.size)
  have hr1 := hr0.out.on hb1
  have c1 := k1.cell
  have c1R := kR1.cell
  have f1R := kR1.frozen
  clear HK k0 kR hb0 hr0 hb1
  go_wp2_with fail
  change bodyPost _ _ _ _ _ (put9 w1 (w.heap.size + 1) ⟨pg, n, f, bk, ev, node, live, K, true⟩ (.slice A m cap))
  have kR9 := put9_blk kR1 ⟨pg, n, f, bk, ev, node, live, K, true⟩ (.slice A m cap)
  have F9 := put9_far w1 (w.heap.size + 1) ⟨pg, n, f, bk, ev, node, live, K, true⟩ (.slice A m cap)
  have B9 := put9_below B1 (g := (w.heap.size + 1)) (by omega) ⟨pg, n, f, bk, ev, node, live, K, true⟩ (.slice A m cap)
  generalize put9 w1 (w.heap.size + 1) ⟨pg, n, f, bk, ev, node, live, K, true⟩ (.slice A m cap) = w9 at *
  dsimp only [crC] at kR9
  have cR9 := kR9.cell
  refine bodyPost_ret (v := .tuple #[.agg (crC ⟨pg, n, f, bk, ev, node, live, K, true⟩ (.slice A m cap)), .int .i64 9]) (by simp [results, Tryz.results40, go_sem, cR9, crC]) rfl ?_
  exact ⟨_, rfl, ⟨A, cap, by rw [hm.out], by rw [hm.out]; exact hcap, hcm, hrH.out.call B9⟩, B9⟩
 have h1' : cl = false := by simpa using h1
 subst h1'
 rw [if_neg (by simp)] at hR
 by_cases h2 : tt < 0
 case pos =>
  have h2' : decide (tt < 0) = true := by simpa using h2
  rw [if_pos (.inl h2)] at hR
  subst hR
  clear h2
  go_enter Tryz.func40, Tryz.ntmps40
  go_wp2_with fail
  refine (HK.out _ hr0.out).mono ?_
  rintro e w1 ⟨rfl, hb1⟩
  have k1 := k0.call hb1
  have kR1 := kR.call hb1
  have B1 := hb0.trans (hb1.mono hb0.size)
  have hr1 := hr0.out.on hb1
  have c1 := k1.cell
  have c1R := kR1.cell
  have f1R := kR1.frozen
  clear HK k0 kR hb0 hr0 hb1
  go_wp2_with fail
  change bodyPost _ _ _ _ _ (put9 w1 (w.heap.size + 1) ⟨pg, n, f, bk, ev, node, live, K, false⟩ (.slice A m cap))
  have kR9 := put9_blk kR1 ⟨pg, n, f, bk, ev, node, live, K, false⟩ (.slice A m cap)
  have F9 := put9_far w1 (w.heap.size + 1) ⟨pg, n, f, bk, ev, node, live, K, false⟩ (.slice A m cap)
  have B9 := put9_below B1 (g := (w.heap.size + 1)) (by omega) ⟨pg, n, f, bk, ev, node, live, K, false⟩ (.slice A m cap)
  generalize put9 w1 (w.heap.size + 1) ⟨pg, n, f, bk, ev, node, live, K, false⟩ (.slice A m cap) = w9 at *
  dsimp only [crC] at kR9
  have cR9 := kR9.cell
  refine bodyPost_ret (v := .tuple #[.agg (crC ⟨pg, n, f, bk, ev, node, live, K, false⟩ (.slice A m cap)), .int .i64 7]) (by simp [results, Tryz.results40, go_sem, cR9, crC]) rfl ?_
  exact ⟨_, rfl, ⟨A, cap, by rw [hm.out], by rw [hm.out]; exact hcap, hcm, hrH.out.call B9⟩, B9⟩
 have h2' : decide (tt < 0) = false := by simpa using h2
 by_cases h3 : live < tt
 case pos =>
  have h3' : decide (live < tt) = true := by simpa using h3
  rw [if_pos (.inr h3)] at hR
  subst hR
  clear h2 h3
  go_enter Tryz.func40, Tryz.ntmps40
  go_wp2_with fail
  refine (HK.out _ hr0.out).mono ?_
  rintro e w1 ⟨rfl, hb1⟩
  have k1 := k0.call hb1
  have kR1 := kR.call hb1
  have B1 := hb0.trans (hb1.mono hb0.size)
  have hr1 := hr0.out.on hb1
  have c1 := k1.cell
  have c1R := kR1.cell
  have f1R := kR1.frozen
  clear HK k0 kR hb0 hr0 hb1
  go_wp2_with fail
  change bodyPost _ _ _ _ _ (put9 w1 (w.heap.size + 1) ⟨pg, n, f, bk, ev, node, live, K, false⟩ (.slice A m cap))
  have kR9 := put9_blk kR1 ⟨pg, n, f, bk, ev, node, live, K, false⟩ (.slice A m cap)
  have F9 := put9_far w1 (w.heap.size + 1) ⟨pg, n, f, bk, ev, node, live, K, false⟩ (.slice A m cap)
  have B9 := put9_below B1 (g := (w.heap.size + 1)) (by omega) ⟨pg, n, f, bk, ev, node, live, K, false⟩ (.slice A m cap)
  generalize put9 w1 (w.heap.size + 1) ⟨pg, n, f, bk, ev, node, live, K, false⟩ (.slice A m cap) = w9 at *
  dsimp only [crC] at kR9
  have cR9 := kR9.cell
  refine bodyPost_ret (v := .tuple #[.agg (crC ⟨pg, n, f, bk, ev, node, live, K, false⟩ (.slice A m cap)), .int .i64 7]) (by simp [results, Tryz.results40, go_sem, cR9, crC]) rfl ?_
  exact ⟨_, rfl, ⟨A, cap, by rw [hm.out], by rw [hm.out]; exact hcap, hcm, hrH.out.call B9⟩, B9⟩
 have h3' : decide (live < tt) = false := by simpa using h3
 rw [if_neg (by omega)] at hR
 obtain ⟨z1, z2, z3⟩ := hZ rfl
 have hKC := chkS_zero.1 z3
 have hBC : Go.Pol.Can (belC tt live) := belC_can (by omega) (by omega)
 have HB := Lib.hid (fun W => below_any tt live W (by omega) (by omega))
 have HU := Lib.hid (fun W (A2 : Option Addr) (c2 : Nat) h1 h2 h3 h4 => unionY_any A A2 m cap (belC tt live).length c2 K (belC tt live) W hm.out hcap hcm h1 rfl h2 h3 h4 hKC hBC)
 generalize hS : setOf (K ++ belC tt live) = S2 at *
 clear h1 h2 h3 hZ z3 hS hKC hBC
 generalize belC tt live = L2 at *
 subst hR
 go_enter Tryz.func40, Tryz.ntmps40
 go_wp2_with fail
 refine (HK.out _ hr0.out).mono ?_
 rintro e w1 ⟨rfl, hb1⟩
 have k1 := k0.call hb1
 have kR1 := kR.call hb1
 have B1 := hb0.trans (hb1.mono hb0.size)
 have hr1 := hr0.out.on hb1
 have c1 := k1.cell
 have c1R := kR1.cell
 have f1R := kR1.frozen
 clear HK k0 kR hb0 hr0 hb1
 go_upto_region 8 with fail
 have hS : CrS w.heap.size live (.slice A m cap) w1 := ⟨k1.cell 6, k1.cell 7⟩
 have k1d := k1.call ((Below.refl _ w1).drew)
 have kR1d := kR1.call ((Below.refl _ w1).drew)
 have B1d := B1.trans ((Below.refl w1.heap.size w1).drew.mono B1.size)
 have hr1d := Lib.hid (hr1.on (Below.refl _ w1).drew)
 have hS := hS.call ((Below.refl _ w1).drew)
 refine wp_noPanic ?_
 refine wp_region_T (CrS w.heap.size live (.slice A m cap)) [8, 9, 10, 11] (by kernel_rfl) ?_
 generalize w1.drew = wd at *
 clear k1 kR1 B1 hr1 c1 c1R f1R
 refine tkQ 0 hS ?_
 try simp only [Act.put, qsA, qsB, qsC]
 refine tkQ 1 hS ?_
 try simp only [Act.put, qsA, qsB, qsC]
 refine tkQ 2 hS ?_
 try simp only [Act.put, qsA, qsB, qsC]
 refine tkQ 3 hS ?_
 try simp only [Act.put, qsA, qsB, qsC]
 refine tkQ 4 hS ?_
 try simp only [Act.put, qsA, qsB, qsC]
 refine tkR 5 fun K hK => ?_
 go_simp
 refine (HB.out wd).mono ?_
 rintro (e w2 ⟨A2, c2, rfl, hru2, hl2, hc2, _, hb2⟩)
 refine hK.out _ _ (fun _ => hS.call hb2) (fun hS => ?_)
 clear hK K
 replace hS := hS rfl
 try simp only [Act.put, qsA, qsB, qsC]
 have k2 := k1d.call hb2
 have kR2 := kR1d.call hb2
 have B2 := B1d.trans (hb2.mono B1d.size)
 have hr2 := hr1d.out.on hb2
 refine tkR 6 fun K hK => ?_
 go_simp
 refine (HU.out w2 A2 c2 hr2 hl2 hc2 hru2).mono ?_
 rintro (e w3 ⟨A3, c3, rfl, hru3, hl3, hc3, hb3⟩)
 refine hK.out _ _ (fun _ => hS.call hb3) (fun hS => ?_)
 clear hK K
 replace hS := hS rfl
 try simp only [Act.put, qsA, qsB, qsC]
 have k3 := k2.call hb3
 have kR3 := kR2.call hb3
 have B3 := B2.trans (hb3.mono B2.size)
 clear HB HU hru2 hl2 k1d kR1d B1d hr1d k2 kR2 B2 hr2
 refine tkQ 7 hS ?_
 try simp only [Act.put, qsA, qsB, qsC]
 refine tkV 8 ?_
 try simp only [Act.put, qsA, qsB, qsC]
 refine tkV 9 ?_
 try simp only [Act.put, qsA, qsB, qsC]
 refine tkV 10 ?_
 try simp only [Act.put, qsA, qsB, qsC]
 have c3x := k3.cell
 have f3x := k3.frozen
 refine tkR 11 fun K hK => ?_
 go_simp
 refine hK.out _ _ (fun h => absurd h (by decide)) (fun _ => ?_)
 clear hK K
 refine wpAnyT_done (by kernel_rfl) ?_ _
 refine noPanic_normal ?_
 have k3H := Lib.hid k3
 have kR3H := Lib.hid kR3
 have k4 := k3.set_ 7 (.slice A3 S2.length c3)
 have kR4 := kR3.far (p := ⟨w.heap.size, 7, none⟩) (by show w.heap.size + 1 ≠ w.heap.size; omega) (.slice A3 S2.length c3)
 have B4 := B3.setCell (p := ⟨w.heap.size, 7, none⟩) (Nat.le_refl _) (.slice A3 S2.length c3)
 have F4 := (Far.refl (fun k => k = w.heap.size ∨ k = w.heap.size + 1) w3).setCell (p := ⟨w.heap.size, 7, none⟩) (fun _ => .inl rfl) (.slice A3 S2.length c3)
 generalize w3.setCell ⟨w.heap.size, 7, none⟩ (.slice A3 S2.length c3) = w4 at *
 simp only [List.setIfInBounds_toArray, List.set_cons_zero, List.set_cons_succ] at k4
 have c4 := k4.cell
 have c4R := kR4.cell
 have f4R := kR4.frozen
 have f4 := k4.frozen
 clear k3 kR3 B3 hS c3x f3x
 go_wp2_with fail
 change bodyPost _ _ _ _ _ (put9 (w4.setCell ⟨w.heap.size, 6, none⟩ (.int .i64 tt)) (w.heap.size + 1) ⟨pg, n, f, bk, ev, node, tt, S2, false⟩ (.slice A3 S2.length c3))
 have kR9 := put9_blk (kR4.far (p := ⟨w.heap.size, 6, none⟩) (by show w.heap.size + 1 ≠ w.heap.size; omega) (.int .i64 tt)) ⟨pg, n, f, bk, ev, node, tt, S2, false⟩ (.slice A3 S2.length c3)
 have F9 := put9_far (w4.setCell ⟨w.heap.size, 6, none⟩ (.int .i64 tt)) (w.heap.size + 1) ⟨pg, n, f, bk, ev, node, tt, S2, false⟩ (.slice A3 S2.length c3)
 have B9 := put9_below (B4.setCell (p := ⟨w.heap.size, 6, none⟩) (Nat.le_refl _) (.int .i64 tt)) (g := (w.heap.size + 1)) (by omega) ⟨pg, n, f, bk, ev, node, tt, S2, false⟩ (.slice A3 S2.length c3)
 generalize put9 (w4.setCell ⟨w.heap.size, 6, none⟩ (.int .i64 tt)) (w.heap.size + 1) ⟨pg, n, f, bk, ev, node, tt, S2, false⟩ (.slice A3 S2.length c3) = w9 at *
 dsimp only [crC] at kR9
 have cR9 := kR9.cell
 refine bodyPost_ret (v := .tuple #[.agg (crC ⟨pg, n, f, bk, ev, node, tt, S2, false⟩ (.slice A3 S2.length c3)), .int .i64 0]) (by simp [results, Tryz.results40, go_sem, cR9, crC]) rfl ?_
 have F6 := ((F4.setCell (p := ⟨w.heap.size, 6, none⟩) (fun _ => .inl rfl) (.int .i64 tt)).trans (F9.mono (fun k _ hk => .inr hk)))
 exact ⟨_, rfl, ⟨A3, c3, rfl, hl3, hc3, hru3.far F6 (fun g cs hg => by rintro (rfl | rfl); exact k3H.out.ne hg (by decide); exact kR3H.out.ne hg (by decide))⟩, B9⟩
end Go.Proofs.YtjmmgoijnhnnaaaGreat
namespace Go.Pol
open Go Go.RowKit
abbrev IxV := Nat × Value
abbrev bkA (x : IxV) : Array Value := #[.int .i64 x.1, x.2]
def backL (fv : Nat → Value) : Nat → List IxV
 | 0 => []
 | n + 1 => (n, fv n) :: backL fv n
def FnAt (W : World) (A : Option Addr) (K : Nat → Prop) (fv : Nat → Value) (n : Nat) : Prop := ∀ i, i < n → ∃ g, A = some ⟨g, 0, none⟩ ∧ K g ∧ W.cell? ⟨g, i, none⟩ = some (fv i)
theorem FnAt.far {W W' : World} {A : Option Addr} {K T : Nat → Prop} {fv : Nat → Value} {n : Nat} (h : FnAt W A K fv n) (hF : Far T W W') (hT : ∀ k, K k → ¬ T k) : FnAt W' A K fv n := fun i hi => by
 obtain ⟨g, e, hk, hc⟩ := h i hi
 exact ⟨g, e, hk, hF.cell hc (hT g hk)⟩
end Go.Pol
namespace Go.Proofs.YtjmmgoijnhnnaaaGreat
open Go Go.Proofs Go.RowKit Go.Pol Go.Shelf
attribute [local go_sem] Oper.semAt_some Go.Pol.wide_fn Go.Pol.wide_depth Go.Pol.wide_fn' Go.Pol.wide_depth'
theorem backward_any (A : Option Addr) (n cap : Nat) (w : World) :
  Calls Tryz.prog 56 #[.slice A n cap] w fun e w' => e = .returned (.func (.func 123) #[] #[.pointer (some ⟨w.heap.size, 0, none⟩)]) ∧ w' = w.alloc (.cells #[.slice A n cap] 129) := by
 go_enter Tryz.func56, Tryz.ntmps56
 go_wp2
 go_ret
 exact ⟨by simp, rfl⟩
theorem backward1_enters : ∀ args w, (callFunc 123 args).run Tryz.prog w = .ok (.enter 123 args) w := enters_of Tryz.func123 (by kernel_rfl) rfl
set_option maxRecDepth 100000 in
set_option maxHeartbeats 1600000 in
theorem backward1_seq (tE : TypeId) (B1 : Nat) (A : Option Addr) (n cap : Nat) (fv : Nat → Value) (K : Nat → Prop) (w : World) (hK1 : K B1) (hn : n ≤ 1000000) (k1 : Blk w B1 129 #[.slice A n cap]) (hA : FnAt w A K fv n) :
  SeqB Tryz.prog tE 123 #[.pointer (some ⟨B1, 0, none⟩)] bkA K (backL fv n) w := by
 intro m l J Jx W hW hJ hJx hY h0
 have k1W := hW.blk k1 (by simpa using hK1)
 have hAW := hA.far hW (fun k hk h => h hk)
 clear k1 hW hA
 refine callsIn_of_wp Tryz.func123 rfl trivial ?_ rfl
 simp only [Tryz.ntmps123, List.size_toArray, List.length_cons, List.length_nil, Nat.reduceAdd, Nat.reduceSub, Array.replicate_succ, Array.replicate_zero, List.push_toArray, List.append_toArray, List.nil_append, List.cons_append]
 have c1 := k1W.cell
 have hw0 : IntKind.i64.wrap ((n : Int) - 1) = (n : Int) - 1 := by rw [IntKind.wrap_i64]; omega
 gi_wp2_with fail
 gi_loopw [3] (fun v wr => ∃ (j : Nat) (pre : List IxV), j ≤ n ∧ v = .int .i64 ((j : Int) - 1) ∧ J pre wr ∧ Hid (pre ++ backL fv j = backL fv n) ∧ Blk wr B1 129 #[.slice A n cap] ∧ FnAt wr A K fv n) (fun v _ => (intOf v + 1).toNat)
 case atStart => exact ⟨n, [], Nat.le_refl _, rfl, h0, Lib.hid rfl, k1W, hAW⟩
 case round =>
  clear h0 k1W hAW c1
  obtain ⟨j, pre, hj, rfl, hJs, hpre, k1, hA⟩ := hrel
  have c1 := k1.cell
  by_cases hlt : 0 < j
  ·obtain ⟨i, rfl⟩ : ∃ i, j = i + 1 := ⟨j - 1, by omega⟩
   have hi : ((i + 1 : Nat) : Int) - 1 = (i : Int) := by omega
   simp only [hi]
   have hlt' : decide (0 ≤ (i : Int)) = true := by simp
   obtain ⟨g, rfl, hKg, hc⟩ := hA i (by omega)
   have hin : i < n := by omega
   have hpre2 : Hid ((pre ++ [(i, fv i)]) ++ backL fv i = backL fv n) := Lib.hid (by rw [← hpre.out]; simp [backL])
   have hpx : Hid (pre ++ [(i, fv i)] <+: backL fv n) := Lib.hid ⟨_, hpre2.out⟩
   have hw1 : IntKind.i64.wrap ((i : Int) - 1) = (i : Int) - 1 := by rw [IntKind.wrap_i64]; omega
   obtain ⟨fn, tmps, assign, body, hy, hRd⟩ := hY (m - 1) (fun _ => False) pre (i, fv i) wr hJs (fun _ h => h.elim) hpx.out
   simp only [bkA] at hy
   generalize fv i = fi at *
   clear hY hJx
   gi_wp2_with fail
   refine hRd.mono ?_
   rintro e W4 (⟨rfl, hJ4, hF4⟩ | ⟨rfl, hJx4⟩)
   ·have k14 := hF4.blk k1 (fun h => h (.inl hK1))
    have hA4 := hA.far hF4 (fun k hk h => h (.inl hk))
    gi_wp2_with fail
    go_roundw
    case rel => exact ⟨i, _, by omega, rfl, hJ4, hpre2, k14, hA4⟩
    case measure => simp [intOf]
   ·gi_wp2_with fail
    refine bodyPost_ret (results_none rfl _ _ _) rfl ?_
    exact ⟨⟨_, rfl⟩, .inr ⟨_, hpx.out, hJx4⟩⟩
  ·obtain rfl : j = 0 := by omega
   have hlt' : decide (0 ≤ ((0 : Nat) : Int) - 1) = false := by decide
   have hE : Hid (pre = backL fv n) := Lib.hid (by have := hpre.out; simpa [backL] using this)
   gi_wp2_with fail
   go_end0
   exact ⟨⟨_, rfl⟩, .inl (by rw [← hE.out]; exact hJs)⟩
end Go.Proofs.YtjmmgoijnhnnaaaGreat
namespace Go.Pol
open Go Go.RowKit
def TwoT (w : World) (bs bb k : Nat) : Prop := k = bs ∨ NdT bb w k
structure BothTo (bs bb : Nat) (V : Vm) (L : List Nd) (w w' : World) : Prop where
 sys : SysIs w' bs V
 bud : BudIs w' bb L
 far : Far (TwoT w bs bb) w w'
theorem SysIs.typed {w : World} {b : Nat} {V : Vm} (h : SysIs w b V) : ∃ cs, Blk w b 71 cs := by
 obtain ⟨cs, A, n, cap, hk, _⟩ := h.ex
 exact ⟨cs, hk⟩
theorem SysIs.notNd {w : World} {b : Nat} {V : Vm} {bb : Nat} (h : SysIs w b V) : ¬ NdT bb w b := fun ⟨_, ds, hd⟩ => by
 obtain ⟨cs, hc⟩ := h.typed
 exact hc.ne hd (by decide)
theorem TwoT.not {w : World} {bs bb : Nat} {V : Vm} (h : SysIs w bs V) {g : Nat} {t : TypeId} {cs : Array Value} (hg : Blk w g t cs) (h1 : t ≠ 71) (h2 : t ≠ 122) : ¬ TwoT w bs bb g := by
 rintro (rfl | ⟨_, ds, hd⟩)
 ·obtain ⟨es, he⟩ := h.typed
  exact hg.ne he h1
 ·exact hg.ne hd h2
theorem BothTo.blk {bs bb : Nat} {V V0 : Vm} {L : List Nd} {w w' : World} (h : BothTo bs bb V L w w') (h0 : SysIs w bs V0) {g : Nat} {t : TypeId} {cs : Array Value} (hg : Blk w g t cs) (h1 : t ≠ 71) (h2 : t ≠ 122) : Blk w' g t cs :=
 h.far.blk hg (TwoT.not h0 hg h1 h2)
theorem BothTo.kept {bs bb : Nat} {V V0 : Vm} {L : List Nd} {w w' : World} (h : BothTo bs bb V L w w') (h0 : SysIs w bs V0) {A : Option Addr} {us : List Sp} (hk : KeptAt w A us) : KeptAt w' A us :=
 hk.far h.far (fun _ _ hg => TwoT.not h0 hg (by decide) (by decide))
theorem BothTo.below {bs bb : Nat} {V : Vm} {L : List Nd} {w w' : World} (hV : SysIs w bs V) (hB : BudIs w bb L) (h : Below w.heap.size w w') : BothTo bs bb V L w w' := ⟨hV.call h, hB.call h, Far.of_below h⟩
theorem BothTo.bySys {bs bb : Nat} {V V' : Vm} {L : List Nd} {w w' : World} (hV : SysIs w bs V) (hB : BudIs w bb L) (h : SysTo bs V' w w') : BothTo bs bb V' L w w' := by
 refine ⟨h.1, ?_, h.2.mono (fun k _ hk => .inl hk)⟩
 obtain ⟨cs, hc⟩ := hV.typed
 refine hB.far h.2 (fun e => ?_) (fun k ⟨_, ds, hd⟩ e => ?_)
 ·obtain ⟨A, cap, k, _⟩ := hB.ex
  have e : bb = bs := e
  subst e
  exact k.ne hc (by decide)
 ·have e : k = bs := e
  subst e
  exact hd.ne hc (by decide)
theorem BothTo.byBud {bs bb : Nat} {V : Vm} {L : List Nd} {w w' : World} (hV : SysIs w bs V) (h : BudTo bb L w w') : BothTo bs bb V L w w' :=
 ⟨hV.far h.2 hV.notNd (fun _ _ _ _ _ _ _ _ _ _ ⟨_, hc⟩ ⟨_, _, hd⟩ => hc.ne hd (by decide)), h.1, h.2.mono (fun _ _ hk => .inr hk)⟩
theorem TwoT.back {w w1 : World} {bs bb k : Nat} (hF : Far (TwoT w bs bb) w w1) (hk : k < w.heap.size) (h : TwoT w1 bs bb k) : TwoT w bs bb k := by
 rcases h with h | ⟨hb, cs, hcs⟩
 ·exact .inl h
 ·by_cases h0 : TwoT w bs bb k
  ·exact h0
  ·exact .inr ⟨hb, cs, (hF.block k hk h0).symm.trans hcs⟩
theorem BothTo.trans {bs bb : Nat} {V V1 : Vm} {L L1 : List Nd} {w w1 w2 : World} (h : BothTo bs bb V1 L1 w w1) (k : BothTo bs bb V L w1 w2) : BothTo bs bb V L w w2 :=
 ⟨k.sys, k.bud, h.far.trans' k.far (fun _ hi ht => TwoT.back h.far hi ht)⟩
theorem BothTo.thenBelow {bs bb : Nat} {V : Vm} {L : List Nd} {w w1 w2 : World} (h : BothTo bs bb V L w w1) (k : Below w1.heap.size w1 w2) : BothTo bs bb V L w w2 := h.trans (.below h.sys h.bud k)
theorem BothTo.size {bs bb : Nat} {V : Vm} {L : List Nd} {w w1 : World} (h : BothTo bs bb V L w w1) : w.heap.size ≤ w1.heap.size := h.far.size
theorem BothTo.fresh {bs bb : Nat} {V : Vm} {L : List Nd} {w w1 w2 : World} {T : Nat → Prop} (h : BothTo bs bb V L w w1) (hF : Far T w1 w2) (hT : ∀ k, T k → w.heap.size ≤ k) (hty : ∀ k, T k → ∃ t cs, Blk w1 k t cs ∧ t ≠ 71 ∧ t ≠ 122 ∧ t ≠ 75 ∧ t ≠ 164) : BothTo bs bb V L w w2 := by
 refine ⟨?_, ?_, h.far.trans' hF (fun i hi ht => absurd (hT i ht) (by omega))⟩
 ·obtain ⟨cs, hc⟩ := h.sys.typed
  refine h.sys.far hF (fun ht => ?_) (fun _ _ _ _ _ _ _ _ _ _ ⟨_, hr⟩ ht => ?_)
  ·obtain ⟨t, ds, hd, h1, _⟩ := hty _ ht
   exact hd.ne hc h1
  ·obtain ⟨t, ds, hd, _, _, _, h4⟩ := hty _ ht
   exact hd.ne hr h4
 ·refine h.bud.far hF (fun ht => ?_) (fun k ⟨_, es, he⟩ ht => ?_)
  ·obtain ⟨A, cap, k, _⟩ := h.bud.ex
   obtain ⟨t, ds, hd, _, _, h3, _⟩ := hty _ ht
   exact hd.ne k h3
  ·obtain ⟨t, ds, hd, _, h2, _⟩ := hty _ ht
   exact hd.ne he h2
end Go.Pol
namespace Go.Proofs.YtjmmgoijnhnnaaaGreat
open Go Go.Proofs Go.RowKit Go.Pol Go.Shelf
attribute [local go_sem] Oper.semAt_some Go.Pol.wide_fn Go.Pol.wide_depth Go.Pol.wide_fn' Go.Pol.wide_depth'
def purgeC (V : Vm) (L : List Nd) (r : Cr) (k : Int) : Cr × Int × Vm × List Nd :=
 if chkCm r ≠ 0 then (r, chkCm r, V, L)
 else if ¬ (askS r.kept (k, 1) = 0 ∧ (gapsF r.kept (k, 1)).isEmpty = true) then (r, 4, V, L)
 else
  let J := bec V (nthF (runsL r.pg r.n r.f r.bk r.ev) k).1 1 3 2 1
  if J.1 ≠ 0 then (r, J.1, J.2, L) else ({ r with kept := commonF r.kept (gapsF [(k, 1)] (0, 1024)) }, 0, J.2, (giveB L r.node.toNat 1).2)
set_option maxRecDepth 100000 in
set_option maxHeartbeats 3200000 in
theorem purge_any (bs bb : Nat) (V : Vm) (L : List Nd) (r : Cr) (k : Int) (A : Option Addr) (cap : Nat) (w : World) (hV : SysIs w bs V) (hKd : KindOk V) (hB : BudIs w bb L) (hO : BudOk L) (hnl : chkCm r = 0 → r.node.toNat < L.length) (hcap : r.kept.length ≤ cap) (hcm : cap ≤ maxLen) (hk : KeptAt w A r.kept) (hk0 : -9223372036854775808 ≤ k) (hk1 : k ≤ 9223372036854775807) :
  Calls Tryz.prog 20 #[.pointer (some ⟨bs, 0, none⟩), .pointer (some ⟨bb, 0, none⟩), .agg (crC r (.slice A r.kept.length cap)), .int .i64 k] w fun e w' => ∃ v, e = .returned (.tuple #[v, .int .i64 (purgeC V L r k).2.1]) ∧ CrV (purgeC V L r k).1 w' v ∧ BothTo bs bb (purgeC V L r k).2.2.1 (purgeC V L r k).2.2.2 w w' := by
 have hr := hk.ru
 have HK := Lib.hid (fun W (h1 : SysIs W bs V) (h2 : BudIs W bb L) (h3 : RU W W.heap.size A r.kept) => ready_any bs bb V L r A cap W h1 hKd h2 hO hcap hcm h3)
 obtain ⟨R, hR⟩ : ∃ R, purgeC V L r k = R := ⟨_, rfl⟩
 rw [hR]
 unfold purgeC at hR
 have hz := @chkCm_zero r
 have hZ : chkCm r = 0 → 0 ≤ r.node ∧ chkG r.pg r.n r.f r.bk r.ev = 0 ∧ chkS r.kept = 0 ∧ r.node.toNat < L.length := fun h => ⟨(hz.1 h).node.1, chkG_zero.2 (hz.1 h).plan, chkS_zero.2 (hz.1 h).can, hnl h⟩
 clear hz hnl
 generalize chkCm r = ck at *
 obtain ⟨pg, n, f, bk, ev, node, live, K, cl⟩ := r
 simp only at hcap hcm hr hk hR hZ HK ⊢
 obtain ⟨m, hm0⟩ : ∃ m, K.length = m := ⟨_, rfl⟩
 rw [hm0] at hcap HK ⊢
 have hm := Lib.hid hm0
 have hb0 := below_alloc2 ((Below.refl w.heap.size w).alloc (Nat.le_refl _) (.cells (crC ⟨pg, n, f, bk, ev, node, live, K, cl⟩ (.slice A m cap)) 43)) (.cells (crC cr0 (.slice none 0 0)) 43)
 have k0 := (Blk.new w 43 (crC ⟨pg, n, f, bk, ev, node, live, K, cl⟩ (.slice A m cap))).alloc2 (.cells (crC cr0 (.slice none 0 0)) 43)
 have kR := Blk.new2 w (.cells (crC ⟨pg, n, f, bk, ev, node, live, K, cl⟩ (.slice A m cap)) 43) 43 (crC cr0 (.slice none 0 0))
 have hr0 := Lib.hid (hr.on hb0)
 dsimp only [crC, cr0] at k0 hb0 kR hr0 HK ⊢
 have hrH := Lib.hid hk
 clear hm0 hr hk
 by_cases h0 : ck = 0
 case neg =>
  have h0' : (ck != 0) = true := by simpa using h0
  rw [if_pos h0] at hR
  subst hR
  clear h0 hZ
  go_enter Tryz.func20, Tryz.ntmps20
  go_wp2_with fail
  refine (HK.out _ (hV.call hb0) (hB.call hb0) hr0.out).mono ?_
  rintro e w1 ⟨rfl, hb1⟩
  have k1 := k0.call hb1
  have kR1 := kR.call hb1
  have B1 := hb0.trans (hb1.mono hb0.size)
  have hr1 := hr0.out.on hb1
  have c1 := k1.cell
  have c1R := kR1.cell
  have f1R := kR1.frozen
  clear HK k0 kR hb0 hr0 hb1
  go_wp2_with fail
  change bodyPost _ _ _ _ _ (put9 w1 (w.heap.size + 1) ⟨pg, n, f, bk, ev, node, live, K, cl⟩ (.slice A m cap))
  have kR9 := put9_blk kR1 ⟨pg, n, f, bk, ev, node, live, K, cl⟩ (.slice A m cap)
  have F9 := put9_far w1 (w.heap.size + 1) ⟨pg, n, f, bk, ev, node, live, K, cl⟩ (.slice A m cap)
  have B9 := put9_below B1 (g := (w.heap.size + 1)) (by omega) ⟨pg, n, f, bk, ev, node, live, K, cl⟩ (.slice A m cap)
  generalize put9 w1 (w.heap.size + 1) ⟨pg, n, f, bk, ev, node, live, K, cl⟩ (.slice A m cap) = w9 at *
  dsimp only [crC] at kR9
  have cR9 := kR9.cell
  refine bodyPost_ret (v := .tuple #[.agg (crC ⟨pg, n, f, bk, ev, node, live, K, cl⟩ (.slice A m cap)), .int .i64 ck]) (by simp [results, Tryz.results20, go_sem, cR9, crC]) rfl ?_
  exact ⟨_, rfl, ⟨A, cap, by rw [hm.out], by rw [hm.out]; exact hcap, hcm, hrH.out.call B9⟩, .below hV hB B9⟩
 subst h0
 rw [if_neg (by simp)] at hR
 obtain ⟨z1, z2, z3, z4⟩ := hZ rfl
 have HH := Lib.hid (fun W h => has_any A m cap K k 1 W hm.out hcap hcm h)
 by_cases h1 : askS K (k, 1) = 0 ∧ (gapsF K (k, 1)).isEmpty = true
 case neg =>
  rw [if_pos h1] at hR
  subst hR
  obtain ⟨ak, hak⟩ : ∃ ak, askS K (k, 1) = ak := ⟨_, rfl⟩
  obtain ⟨ie, hie⟩ : ∃ ie, (gapsF K (k, 1)).isEmpty = ie := ⟨_, rfl⟩
  rw [hak, hie] at h1 HH
  clear hak hie hZ z2 z3
  by_cases h2 : ak = 0
  ·subst h2
   have h3 : ie = false := by simpa using h1
   subst h3
   go_enter Tryz.func20, Tryz.ntmps20
   go_wp2_with fail
   refine (HK.out _ (hV.call hb0) (hB.call hb0) hr0.out).mono ?_
   rintro e w1 ⟨rfl, hb1⟩
   have k1 := k0.call hb1
   have kR1 := kR.call hb1
   have B1 := hb0.trans (hb1.mono hb0.size)
   have hr1 := hr0.out.on hb1
   have c1 := k1.cell
   have c1R := kR1.cell
   have f1R := kR1.frozen
   clear HK k0 kR hb0 hr0 hb1
   have hbX := (Below.refl w1.heap.size w1).alloc (Nat.le_refl _) (.cells #[.int .i64 k, .int .i64 1] 140)
   have kX := Blk.new w1 140 #[.int .i64 k, .int .i64 1]
   obtain ⟨gx, hgx⟩ : ∃ gx, w1.heap.size = gx := ⟨_, rfl⟩
   rw [hgx] at kX
   have kX1 := k1.call hbX
   have kRX := kR1.call hbX
   have BX := B1.trans (hbX.mono B1.size)
   have hrX := hr1.on hbX
   have cX := kX.cell
   have cX1 := kX1.cell
   go_upto_region 5 with fail
   generalize w1.alloc _ = wx at *
   go_wp2_with fail
   refine (HH.out _ hrX).mono ?_
   rintro e w2 ⟨rfl, hb2⟩
   have k2 := kX1.call hb2
   have kR2 := kRX.call hb2
   have kx2 := kX.call hb2
   have B2 := BX.trans (hb2.mono BX.size)
   have hr2 := hrX.on hb2
   have c2 := k2.cell
   have c2R := kR2.cell
   have f2R := kR2.frozen
   have cx2 := kx2.cell
   clear k1 kR1 B1 hr1 c1 c1R f1R hb2 hbX kX kX1 kRX BX hrX cX cX1 HH
   go_wp2_with fail
   change bodyPost _ _ _ _ _ (put9 w2 (w.heap.size + 1) ⟨pg, n, f, bk, ev, node, live, K, cl⟩ (.slice A m cap))
   have kR9 := put9_blk kR2 ⟨pg, n, f, bk, ev, node, live, K, cl⟩ (.slice A m cap)
   have F9 := put9_far w2 (w.heap.size + 1) ⟨pg, n, f, bk, ev, node, live, K, cl⟩ (.slice A m cap)
   have B9 := put9_below B2 (g := (w.heap.size + 1)) (by omega) ⟨pg, n, f, bk, ev, node, live, K, cl⟩ (.slice A m cap)
   generalize put9 w2 (w.heap.size + 1) ⟨pg, n, f, bk, ev, node, live, K, cl⟩ (.slice A m cap) = w9 at *
   dsimp only [crC] at kR9
   have cR9 := kR9.cell
   refine bodyPost_ret (v := .tuple #[.agg (crC ⟨pg, n, f, bk, ev, node, live, K, cl⟩ (.slice A m cap)), .int .i64 4]) (by simp [results, Tryz.results20, go_sem, cR9, crC]) rfl ?_
   exact ⟨_, rfl, ⟨A, cap, by rw [hm.out], by rw [hm.out]; exact hcap, hcm, hrH.out.call B9⟩, .below hV hB B9⟩
  ·have h2' : (ak != 0) = true := by simpa using h2
   have h2'' : decide (ak = 0) = false := by simpa using h2
   clear h1 h2
   go_enter Tryz.func20, Tryz.ntmps20
   go_wp2_with fail
   refine (HK.out _ (hV.call hb0) (hB.call hb0) hr0.out).mono ?_
   rintro e w1 ⟨rfl, hb1⟩
   have k1 := k0.call hb1
   have kR1 := kR.call hb1
   have B1 := hb0.trans (hb1.mono hb0.size)
   have hr1 := hr0.out.on hb1
   have c1 := k1.cell
   have c1R := kR1.cell
   have f1R := kR1.frozen
   clear HK k0 kR hb0 hr0 hb1
   have hbX := (Below.refl w1.heap.size w1).alloc (Nat.le_refl _) (.cells #[.int .i64 k, .int .i64 1] 140)
   have kX := Blk.new w1 140 #[.int .i64 k, .int .i64 1]
   obtain ⟨gx, hgx⟩ : ∃ gx, w1.heap.size = gx := ⟨_, rfl⟩
   rw [hgx] at kX
   have kX1 := k1.call hbX
   have kRX := kR1.call hbX
   have BX := B1.trans (hbX.mono B1.size)
   have hrX := hr1.on hbX
   have cX := kX.cell
   have cX1 := kX1.cell
   go_upto_region 5 with fail
   generalize w1.alloc _ = wx at *
   go_wp2_with fail
   refine (HH.out _ hrX).mono ?_
   rintro e w2 ⟨rfl, hb2⟩
   have k2 := kX1.call hb2
   have kR2 := kRX.call hb2
   have kx2 := kX.call hb2
   have B2 := BX.trans (hb2.mono BX.size)
   have hr2 := hrX.on hb2
   have c2 := k2.cell
   have c2R := kR2.cell
   have f2R := kR2.frozen
   have cx2 := kx2.cell
   clear k1 kR1 B1 hr1 c1 c1R f1R hb2 hbX kX kX1 kRX BX hrX cX cX1 HH
   go_wp2_with fail
   change bodyPost _ _ _ _ _ (put9 w2 (w.heap.size + 1) ⟨pg, n, f, bk, ev, node, live, K, cl⟩ (.slice A m cap))
   have kR9 := put9_blk kR2 ⟨pg, n, f, bk, ev, node, live, K, cl⟩ (.slice A m cap)
   have F9 := put9_far w2 (w.heap.size + 1) ⟨pg, n, f, bk, ev, node, live, K, cl⟩ (.slice A m cap)
   have B9 := put9_below B2 (g := (w.heap.size + 1)) (by omega) ⟨pg, n, f, bk, ev, node, live, K, cl⟩ (.slice A m cap)
   generalize put9 w2 (w.heap.size + 1) ⟨pg, n, f, bk, ev, node, live, K, cl⟩ (.slice A m cap) = w9 at *
   dsimp only [crC] at kR9
   have cR9 := kR9.cell
   refine bodyPost_ret (v := .tuple #[.agg (crC ⟨pg, n, f, bk, ev, node, live, K, cl⟩ (.slice A m cap)), .int .i64 4]) (by simp [results, Tryz.results20, go_sem, cR9, crC]) rfl ?_
   exact ⟨_, rfl, ⟨A, cap, by rw [hm.out], by rw [hm.out]; exact hcap, hcm, hrH.out.call B9⟩, .below hV hB B9⟩
 rw [if_neg (by simpa using h1)] at hR
 obtain ⟨h1, h2⟩ := h1
 rw [h1, h2] at HH
 have HN := Lib.hid (fun W => nth_any pg n f bk ev k W hk0 hk1 (nthF (runsL pg n f bk ev) k) (by rw [if_pos z2]))
 obtain ⟨pn, hpn⟩ : ∃ pn, nthF (runsL pg n f bk ev) k = pn := ⟨_, rfl⟩
 rw [hpn] at HN hR
 obtain ⟨pn, pe⟩ := pn
 have HD := Lib.hid (fun W h => decommit_any bs pn 1 V W h)
 obtain ⟨J, hJ⟩ : ∃ J, bec V pn 1 3 2 1 = J := ⟨_, rfl⟩
 simp only [hJ] at hR
 rw [hJ] at HD
 obtain ⟨je, jV⟩ := J
 clear hpn hJ
 simp only at hR HD HN
 by_cases h3 : je = 0
 case neg =>
  have h3' : (je != 0) = true := by simpa using h3
  rw [if_pos h3] at hR
  subst hR
  clear h3 h1 h2 hZ z2 z3
  go_enter Tryz.func20, Tryz.ntmps20
  go_wp2_with fail
  refine (HK.out _ (hV.call hb0) (hB.call hb0) hr0.out).mono ?_
  rintro e w1 ⟨rfl, hb1⟩
  have k1 := k0.call hb1
  have kR1 := kR.call hb1
  have B1 := hb0.trans (hb1.mono hb0.size)
  have hr1 := hr0.out.on hb1
  have c1 := k1.cell
  have c1R := kR1.cell
  have f1R := kR1.frozen
  clear HK k0 kR hb0 hr0 hb1
  have hbX := (Below.refl w1.heap.size w1).alloc (Nat.le_refl _) (.cells #[.int .i64 k, .int .i64 1] 140)
  have kX := Blk.new w1 140 #[.int .i64 k, .int .i64 1]
  obtain ⟨gx, hgx⟩ : ∃ gx, w1.heap.size = gx := ⟨_, rfl⟩
  rw [hgx] at kX
  have kX1 := k1.call hbX
  have kRX := kR1.call hbX
  have BX := B1.trans (hbX.mono B1.size)
  have hrX := hr1.on hbX
  have cX := kX.cell
  have cX1 := kX1.cell
  go_upto_region 5 with fail
  generalize w1.alloc _ = wx at *
  go_wp2_with fail
  refine (HH.out _ hrX).mono ?_
  rintro e w2 ⟨rfl, hb2⟩
  have k2 := kX1.call hb2
  have kR2 := kRX.call hb2
  have kx2 := kX.call hb2
  have B2 := BX.trans (hb2.mono BX.size)
  have hr2 := hrX.on hb2
  have c2 := k2.cell
  have c2R := kR2.cell
  have f2R := kR2.frozen
  have cx2 := kx2.cell
  clear k1 kR1 B1 hr1 c1 c1R f1R hb2 hbX kX kX1 kRX BX hrX cX cX1 HH
  have VV2 := hV.call B2
  have BB2 := hB.call B2
  go_wp2_with fail
  refine (HN.out _).mono ?_
  rintro e w3 ⟨rfl, hb3⟩
  have k3 := k2.call hb3
  have kR3 := kR2.call hb3
  have kx3 := kx2.call hb3
  have B3 := B2.trans (hb3.mono B2.size)
  have T3 := BothTo.below hV hB B3
  go_wp2_with fail
  refine (HD.out _ T3.sys).mono ?_
  rintro e w4 ⟨rfl, h4⟩
  have S4 := BothTo.bySys T3.sys T3.bud h4
  have T4 := T3.trans S4
  have k4 := S4.blk T3.sys k3 (by decide) (by decide)
  have kR4 := S4.blk T3.sys kR3 (by decide) (by decide)
  have kx4 := S4.blk T3.sys kx3 (by decide) (by decide)
  have c4 := k4.cell
  have c4R := kR4.cell
  have f4R := kR4.frozen
  have cx4 := kx4.cell
  clear k2 kR2 kx2 hr2 c2 c2R f2R cx2 VV2 BB2 HN HD k3 kR3 kx3 hb3 h4
  go_wp2_with fail
  change bodyPost _ _ _ _ _ (put9 w4 (w.heap.size + 1) ⟨pg, n, f, bk, ev, node, live, K, cl⟩ (.slice A m cap))
  have kR9 := put9_blk kR4 ⟨pg, n, f, bk, ev, node, live, K, cl⟩ (.slice A m cap)
  have F9 := put9_far w4 (w.heap.size + 1) ⟨pg, n, f, bk, ev, node, live, K, cl⟩ (.slice A m cap)
  generalize put9 w4 (w.heap.size + 1) ⟨pg, n, f, bk, ev, node, live, K, cl⟩ (.slice A m cap) = w9 at *
  dsimp only [crC] at kR9
  have cR9 := kR9.cell
  refine bodyPost_ret (v := .tuple #[.agg (crC ⟨pg, n, f, bk, ev, node, live, K, cl⟩ (.slice A m cap)), .int .i64 je]) (by simp [results, Tryz.results20, go_sem, cR9, crC]) rfl ?_
  have T9 := T4.fresh F9 (fun k hk => by subst hk; omega) (fun k hk => by subst hk; exact ⟨_, _, kR4, by decide, by decide, by decide, by decide⟩)
  exact ⟨_, rfl, ⟨A, cap, by rw [hm.out], by rw [hm.out]; exact hcap, hcm, T9.kept hV hrH.out⟩, T9⟩
 subst h3
 rw [if_neg (by simp)] at hR
 have hKC := chkS_zero.1 z3
 have hv : vld (k, 1) = true := by
  unfold askS at h1
  rw [if_pos z3] at h1
  by_cases h : vld (k, 1) = true
  ·exact h
  ·rw [if_neg h] at h1; cases h1
 have HM := Lib.hid (fun W A2 h h2 => minusY_any A A2 m cap 1 1 K [(k, 1)] W hm.out hcap hcm h rfl (Nat.le_refl _) (by unfold maxLen; omega) h2 hKC (Can.one hv))
 obtain ⟨nn, rfl⟩ : ∃ nn : Nat, node = nn := ⟨node.toNat, by omega⟩
 rw [Int.toNat_natCast] at hR z4
 have HG := Lib.hid (fun W h => giveB_any bb nn 1 L W h hO z4)
 generalize giveB L nn 1 = G at *
 generalize commonF K (gapsF [(k, 1)] (0, 1024)) = K2 at *
 subst hR
 clear h1 h2 hZ z2 z3 hv hKC
 go_enter Tryz.func20, Tryz.ntmps20
 go_wp2_with fail
 refine (HK.out _ (hV.call hb0) (hB.call hb0) hr0.out).mono ?_
 rintro e w1 ⟨rfl, hb1⟩
 have k1 := k0.call hb1
 have kR1 := kR.call hb1
 have B1 := hb0.trans (hb1.mono hb0.size)
 have hr1 := hr0.out.on hb1
 have c1 := k1.cell
 have c1R := kR1.cell
 have f1R := kR1.frozen
 clear HK k0 kR hb0 hr0 hb1
 have hbX := (Below.refl w1.heap.size w1).alloc (Nat.le_refl _) (.cells #[.int .i64 k, .int .i64 1] 140)
 have kX := Blk.new w1 140 #[.int .i64 k, .int .i64 1]
 obtain ⟨gx, hgx⟩ : ∃ gx, w1.heap.size = gx := ⟨_, rfl⟩
 rw [hgx] at kX
 have kX1 := k1.call hbX
 have kRX := kR1.call hbX
 have BX := B1.trans (hbX.mono B1.size)
 have hrX := hr1.on hbX
 have cX := kX.cell
 have cX1 := kX1.cell
 go_upto_region 5 with fail
 generalize w1.alloc _ = wx at *
 go_wp2_with fail
 refine (HH.out _ hrX).mono ?_
 rintro e w2 ⟨rfl, hb2⟩
 have k2 := kX1.call hb2
 have kR2 := kRX.call hb2
 have kx2 := kX.call hb2
 have B2 := BX.trans (hb2.mono BX.size)
 have hr2 := hrX.on hb2
 have c2 := k2.cell
 have c2R := kR2.cell
 have f2R := kR2.frozen
 have cx2 := kx2.cell
 clear k1 kR1 B1 hr1 c1 c1R f1R hb2 hbX kX kX1 kRX BX hrX cX cX1 HH
 have VV2 := hV.call B2
 have BB2 := hB.call B2
 go_wp2_with fail
 refine (HN.out _).mono ?_
 rintro e w3 ⟨rfl, hb3⟩
 have k3 := k2.call hb3
 have kR3 := kR2.call hb3
 have kx3 := kx2.call hb3
 have B3 := B2.trans (hb3.mono B2.size)
 have T3 := BothTo.below hV hB B3
 go_wp2_with fail
 refine (HD.out _ T3.sys).mono ?_
 rintro e w4 ⟨rfl, h4⟩
 have S4 := BothTo.bySys T3.sys T3.bud h4
 have T4 := T3.trans S4
 have k4 := S4.blk T3.sys k3 (by decide) (by decide)
 have kR4 := S4.blk T3.sys kR3 (by decide) (by decide)
 have kx4 := S4.blk T3.sys kx3 (by decide) (by decide)
 have c4 := k4.cell
 have c4R := kR4.cell
 have f4R := kR4.frozen
 have cx4 := kx4.cell
 clear k2 kR2 kx2 hr2 c2 c2R f2R cx2 VV2 BB2 HN HD k3 kR3 kx3 hb3 h4
 have hk4 := T4.kept hV hrH.out
 go_wp2_with fail
 refine (HG.out _ T4.bud).mono ?_
 rintro e w5 ⟨rfl, h5⟩
 have S5 := BothTo.byBud T4.sys h5
 have T5 := T4.trans S5
 have k5 := S5.blk T4.sys k4 (by decide) (by decide)
 have kR5 := S5.blk T4.sys kR4 (by decide) (by decide)
 have kx5 := S5.blk T4.sys kx4 (by decide) (by decide)
 have hk5 := S5.kept T4.sys hk4
 have c5 := k5.cell
 have cx5 := kx5.cell
 have hbO := (Below.refl w5.heap.size w5).alloc (Nat.le_refl _) (.cells #[.int .i64 k, .int .i64 1] 140)
 have kO := Blk.new w5 140 #[.int .i64 k, .int .i64 1]
 have HM2 := Lib.hid (HM.out _ _ ((hk5.call hbO).ru) (ru_one kO))
 clear k4 kR4 kx4 c4 c4R f4R cx4 HG HM S4 T4 hk4 h5 S5 T3 B3
 go_wp2_with (first | (go_at_call 51; refine (HM2.out).mono ?_; rintro e w6 ⟨A6, c6, rfl, hru6, hl6, hcm6, hb6⟩; have B6 := hbO.trans (hb6.mono hbO.size); have T6 := T5.thenBelow B6; have k6 := k5.call B6; have kR6 := kR5.call B6; have c6x := k6.cell; have c6R := kR6.cell; have f6R := kR6.frozen; have f6 := k6.frozen))
 change bodyPost _ _ _ _ _ (put9 (w6.setCell ⟨w.heap.size, 7, none⟩ (.slice A6 K2.length c6)) (w.heap.size + 1) ⟨pg, n, f, bk, ev, nn, live, K2, cl⟩ (.slice A6 K2.length c6))
 have kR9 := put9_blk (kR6.far (p := ⟨w.heap.size, 7, none⟩) (by show w.heap.size + 1 ≠ w.heap.size; omega) (.slice A6 K2.length c6)) ⟨pg, n, f, bk, ev, nn, live, K2, cl⟩ (.slice A6 K2.length c6)
 have F9 := put9_far (w6.setCell ⟨w.heap.size, 7, none⟩ (.slice A6 K2.length c6)) (w.heap.size + 1) ⟨pg, n, f, bk, ev, nn, live, K2, cl⟩ (.slice A6 K2.length c6)
 generalize put9 (w6.setCell ⟨w.heap.size, 7, none⟩ (.slice A6 K2.length c6)) (w.heap.size + 1) ⟨pg, n, f, bk, ev, nn, live, K2, cl⟩ (.slice A6 K2.length c6) = w9 at *
 dsimp only [crC] at kR9
 have cR9 := kR9.cell
 refine bodyPost_ret (v := .tuple #[.agg (crC ⟨pg, n, f, bk, ev, nn, live, K2, cl⟩ (.slice A6 K2.length c6)), .int .i64 0]) (by simp [results, Tryz.results20, go_sem, cR9, crC]) rfl ?_
 have F6 := ((Far.refl (fun k => k = w.heap.size ∨ k = w.heap.size + 1) w6).setCell (p := ⟨w.heap.size, 7, none⟩) (fun _ => .inl rfl) (.slice A6 K2.length c6)).trans (F9.mono (fun k _ hk => .inr hk))
 have T9 := T6.fresh F6 (fun k hk => by rcases hk with rfl | rfl <;> omega) (fun k hk => by rcases hk with rfl | rfl; exact ⟨_, _, k6, by decide, by decide, by decide, by decide⟩; exact ⟨_, _, kR6, by decide, by decide, by decide, by decide⟩)
 exact ⟨_, rfl, ⟨A6, c6, rfl, hl6, hcm6, hru6.far F6 (fun g cs hg => by rintro (rfl | rfl); exact k6.ne hg (by decide); exact kR6.ne hg (by decide))⟩, T9⟩
end Go.Proofs.YtjmmgoijnhnnaaaGreat
namespace Go.Pol
open Go Go.RowKit
abbrev RnT := Int × Int × Int
def rnT0 : RnT := (0, 0, 0)
abbrev rnTC (x : RnT) : Array Value := #[.int .i64 x.1, .int .i64 x.2.1, .int .i64 x.2.2]
abbrev rnTA (x : RnT) : Array Value := #[.agg (rnTC x)]
def rnOf (u0 m : Int) (x : Sp) : RnT := (u0 + x.1 - m, x.2, x.1)
theorem sumS_consC (x : Sp) (l : List Sp) : sumS (x :: l) = x.2 + sumS l := by simp [sumS]
theorem runsC_append (S : List Sp) : ∀ (a b : List Sp) (m : Int), runsC S m (a ++ b) = runsC S m a ++ runsC S (m + sumS a) b
 | [], b, m => by simp [runsC, sumS]
 | u :: a, b, m => by
  rw [List.cons_append, runsC, runsC, runsC_append S a b, sumS_consC, List.append_assoc, ← Int.add_assoc]
theorem runsC_one (S : List Sp) (m : Int) (u : Sp) : runsC S m [u] = (commonF S [(m, u.2)]).map (rnOf u.1 m) := by
 simp only [runsC, List.append_nil]
 rfl
theorem runsC_step (S us : List Sp) {k : Nat} (hk : k < us.length) : runsC S 0 (us.take (k + 1)) = runsC S 0 (us.take k) ++ (commonF S [(sumS (us.take k), (us.getD k (0, 0)).2)]).map (rnOf (us.getD k (0, 0)).1 (sumS (us.take k))) := by
 rw [z_take (0, 0) us hk, runsC_append, runsC_one, Int.zero_add]
theorem runsC_pre (S us : List Sp) (k : Nat) : runsC S 0 (us.take k) <+: runsC S 0 us := by
 conv => rhs; rw [← List.take_append_drop k us, runsC_append]
 exact List.prefix_append _ _
theorem sumS_takeS (us : List Sp) {k : Nat} (hk : k < us.length) : sumS (us.take (k + 1)) = sumS (us.take k) + (us.getD k (0, 0)).2 := by
 rw [z_take (0, 0) us hk, sumS_snoc]
theorem sumS_take_le (us : List Sp) (h : ∀ x ∈ us, vld x = true) (k : Nat) : 0 ≤ sumS (us.take k) ∧ sumS (us.take k) ≤ sumS us := by
 have h1 := (sumS_bound (us.take k) (fun x hx => h x (List.mem_of_mem_take hx))).1
 have h2 := (sumS_bound (us.drop k) (fun x hx => h x (List.mem_of_mem_drop hx))).1
 have h3 : sumS us = sumS (us.take k) + sumS (us.drop k) := by
  unfold sumS
  rw [← List.sum_append, ← List.map_append, List.take_append_drop]
 omega
theorem KeptAt.farA {w w' : World} {A : Option Addr} {us : List Sp} {T : Nat → Prop} (h : KeptAt w A us) (hF : Far T w w') (hT : us ≠ [] → ∀ g o, A = some ⟨g, o, Option.none⟩ → ¬ T g) : KeptAt w' A us := by
 by_cases hn : us = []
 ·subst hn; exact .none _ _
 ·refine ⟨(h.ru.farC hF (hT hn)).more hF.size, fun _ => ?_⟩
  obtain ⟨g, o, cs, e, kb⟩ := h.ty hn
  exact ⟨g, o, cs, e, hF.blk kb (hT hn g o e)⟩
theorem KeptAt.block {w : World} {A : Option Addr} {us : List Sp} (h : KeptAt w A us) (hn : us ≠ []) {g o : Nat} (e : A = some ⟨g, o, Option.none⟩) : ∃ cs, Blk w g 140 cs := by
 obtain ⟨g', o', cs, e', kb⟩ := h.ty hn
 rw [e] at e'
 cases e'
 exact ⟨cs, kb⟩
end Go.Pol
namespace Go.Proofs.YtjmmgoijnhnnaaaGreat
open Go Go.Proofs Go.RowKit Go.Pol Go.Shelf
attribute [local go_sem] Oper.semAt_some Go.Pol.wide_fn Go.Pol.wide_depth Go.Pol.wide_fn' Go.Pol.wide_depth'
theorem cmRuns_any (v s : Value) (r : Cr) (w : World) (hv : v = .agg (crC r s)) (A : Option Addr) (n cap : Nat) :
  Calls Tryz.prog 58 #[v, .slice A n cap] w fun e w' => e = .returned (.func (.func 124) #[] #[.pointer (some ⟨w.heap.size, 0, none⟩), .pointer (some ⟨w.heap.size + 1, 0, none⟩)]) ∧
   w' = (w.alloc (.cells (crC r s) 43)).alloc (.cells #[.slice A n cap] 41) := by
 subst hv
 dsimp only [crC]
 go_enter Tryz.func58, Tryz.ntmps58
 go_wp2
 go_ret
 exact ⟨by simp, rfl⟩
theorem cmRuns1_enters : ∀ args w, (callFunc 124 args).run Tryz.prog w = .ok (.enter 124 args) w := enters_of Tryz.func124 (by kernel_rfl) rfl
set_option maxHeartbeats 400000 in
theorem usableY_any (pg n f b ev : Int) (w : World) (hc : chkG pg n f b ev = 0) :
  Calls Tryz.prog 70 #[planV pg n f b ev] w (SpansY w (runsL pg n f b ev) 0) := by
 have HC := Lib.hid (fun W => gcheck_any pg n f b ev W)
 have hb0 := (Below.refl w.heap.size w).alloc (Nat.le_refl _) (.cells (planC pg n f b ev) 25)
 have k0 := Blk.new w 25 (planC pg n f b ev)
 have c0 := k0.cell
 have hp := chkG_zero.1 hc
 rw [hc] at HC
 have HR := Lib.hid (fun W => runs_any pg n f b ev W)
 go_enter Tryz.func70, Tryz.ntmps70
 go_wp2_with (first
  | (go_at_call 115; refine (HC.out _).mono ?_; rintro e w1 ⟨rfl, hq⟩; have k1 := k0.call hq; have c1 := k1.cell; have hb1 := hb0.trans (hq.mono hb0.size))
  | (go_at_call 116; refine (HR.out _).mono ?_; rintro e w2 ⟨rfl, rfl⟩; have HS := Lib.hid (runs1_seq pg n f b ev w1.heap.size _ hp (Blk.new w1 25 (planC pg n f b ev))))
  | (go_at_call 118; refine (collect_any _ _ _ _ _ _ (runsL_len hp) HS.out runs_enters (fun _ h => h.elim) (fun k h => by subst h; simp)).mono ?_; rintro e w3 ⟨v, rfl, hown, _, hf⟩; obtain ⟨A, cap, rfl, hru, h1, h2⟩ := KeptAt.own hown rfl))
 have hb2 := hb1.alloc hb1.size (.cells (planC pg n f b ev) 25)
 have hb3 := hf.below (n := w.heap.size) (Nat.le_trans hb1.size (by simp)) (fun _ _ h => h)
 go_ret2
 exact ⟨A, cap, rfl, hru, h1, h2, hb2.trans hb3⟩
set_option maxHeartbeats 800000 in
theorem meetY_any (A1 A2 : Option Addr) (n1 c1 n2 c2 : Nat) (us vs : List Sp) (w : World) (hn1 : us.length = n1) (hm1 : n1 ≤ c1) (hc1 : c1 ≤ maxLen) (hr1 : RU w w.heap.size A1 us) (hn2 : vs.length = n2) (hm2 : n2 ≤ c2) (hc2 : c2 ≤ maxLen) (hr2 : RU w w.heap.size A2 vs) (hU : Go.Pol.Can us) (hV : Go.Pol.Can vs) :
  Calls Tryz.prog 125 #[.slice A1 n1 c1, .slice A2 n2 c2] w (SpansY w (commonF us vs) 0) := by
 have hb0 := (Below.refl w.heap.size w).alloc (Nat.le_refl _) (.cells #[.slice A1 n1 c1, .slice A2 n2 c2] 41)
 have k0 := Blk.new w 41 #[.slice A1 n1 c1, .slice A2 n2 c2]
 have r1 := hr1.on ((Below.refl w.heap.size w).alloc (Nat.le_refl _) (.cells #[.slice A1 n1 c1, .slice A2 n2 c2] 41))
 have r2 := hr2.on ((Below.refl w.heap.size w).alloc (Nat.le_refl _) (.cells #[.slice A1 n1 c1, .slice A2 n2 c2] 41))
 have HC := Lib.hid (check2_any A1 A2 n1 c1 n2 c2 us vs w.heap.size _ hn1 (Nat.le_trans hm1 hc1) r1 hn2 (Nat.le_trans hm2 hc2) r2 k0)
 clear hr1 hr2
 rw [chkS_zero.2 hU, chkS_zero.2 hV, if_pos rfl] at HC
 have hlen := commonF_len us vs
 have hl1 := hU.len
 have hl2 := hV.len
 go_enter Tryz.func125, Tryz.ntmps125
 go_wp2_with fail
 refine HC.out.mono ?_
 rintro e w1 ⟨rfl, hb1⟩
 have B1 := hb0.trans (hb1.mono hb0.size)
 have r3 := r1.on hb1
 have r4 := r2.on hb1
 clear HC k0 r1 r2 hb1 hb0
 have kX : Blk ((w1.alloc (.cells #[.slice A1 n1 c1] 41)).alloc (.cells #[.slice A2 n2 c2] 41)) w1.heap.size 41 #[.slice A1 n1 c1] := (Blk.new _ _ _).alloc _
 have kY : Blk ((w1.alloc (.cells #[.slice A1 n1 c1] 41)).alloc (.cells #[.slice A2 n2 c2] 41)) (w1.heap.size + 1) 41 #[.slice A2 n2 c2] := by
  have := Blk.new (w1.alloc (.cells #[.slice A1 n1 c1] 41)) 41 #[.slice A2 n2 c2]
  rw [World.size_alloc] at this; exact this
 have hbX : Below w1.heap.size w1 ((w1.alloc (.cells #[.slice A1 n1 c1] 41)).alloc (.cells #[.slice A2 n2 c2] 41)) := ((Below.refl w1.heap.size w1).alloc (Nat.le_refl _) _).alloc (by simp) _
 have LA : Left _ w1.heap.size (fun k => k < w1.heap.size + 2) w1.heap.size (w1.heap.size + 1) A1 n1 c1 us := ⟨hn1, hm1, by unfold maxLen at hc1; omega, r3.below hbX, fun h b o e => by have := ru_lt r3 h e; exact ⟨by omega, by omega, by omega⟩, hU.1⟩
 have LB : Left _ w1.heap.size (fun k => k < w1.heap.size + 2) w1.heap.size (w1.heap.size + 1) A2 n2 c2 vs := ⟨hn2, hm2, by unfold maxLen at hc2; omega, r4.below hbX, fun h b o e => by have := ru_lt r4 h e; exact ⟨by omega, by omega, by omega⟩, hV.1⟩
 have HS := Lib.hid (common1_seq A1 A2 n1 c1 n2 c2 us vs w1.heap.size (w1.heap.size + 1) w1.heap.size (fun k => k < w1.heap.size + 2) _ (by simp) (by simp) (by omega) kX kY LA LB)
 clear LA LB kX kY r3 r4
 generalize commonF us vs = L at *
 have hlL : L.length ≤ 1000000 := by omega
 go_wp2_with (first
  | (go_at_call 119; refine (common_any A1 A2 n1 c1 n2 c2 w1).mono ?_; rintro e w2 ⟨rfl, rfl⟩)
  | (go_at_call 118; refine (collect_any _ _ _ _ _ _ hlL HS.out common_enters (fun k h => by rcases h with rfl | rfl <;> (rw [World.size_alloc, World.size_alloc]; omega)) (fun k h => by simp; omega)).mono ?_; rintro e w3 ⟨v, rfl, hown, _, hf⟩; obtain ⟨A, cap, rfl, hru, h1, h2⟩ := KeptAt.own hown rfl))
 have B2 := B1.trans (hbX.mono B1.size)
 have B3 := hf.below (n := w.heap.size) (by have := B2.size; exact this) (fun k hk h => by have := B1.size; rcases h with rfl | rfl <;> omega)
 go_ret2
 exact ⟨A, cap, rfl, hru, h1, h2, B2.trans B3⟩
set_option maxRecDepth 100000 in
set_option maxHeartbeats 3200000 in
theorem cmRuns1_seq (r : Cr) (sv : Value) (B1 B2 : Nat) (As : Option Addr) (ns cs : Nat) (S : List Sp) (K : Nat → Prop) (w : World) (hp : PlanOk r.pg r.n r.f r.bk r.ev) (hS : Go.Pol.Can S) (hns : S.length = ns) (hms : ns ≤ cs) (hcs : cs ≤ maxLen)
  (hK1 : K B1) (hK2 : K B2) (hKs : S ≠ [] → ∀ g o, As = some ⟨g, o, none⟩ → K g) (k1 : Blk w B1 43 (crC r sv)) (k2 : Blk w B2 41 #[.slice As ns cs]) (hr : RU w w.heap.size As S) :
  SeqB Tryz.prog 140 124 #[.pointer (some ⟨B1, 0, none⟩), .pointer (some ⟨B2, 0, none⟩)] rnTA K (runsC S 0 (runsL r.pg r.n r.f r.bk r.ev)) w := by
 intro m l J Jx W hW hJ hJx hY h0
 have hkg : ∀ {A B : World} {X : Nat → Prop}, Far (fun k => ¬ (K k ∨ X k)) A B → RU A A.heap.size As S → RU B B.heap.size As S := fun {A B X} hF h => by
  by_cases hn : S = []
  ·subst hn; exact RU.nil
  ·exact (h.farC hF (fun g o e hg => hg (.inl (hKs hn g o e)))).more hF.size
 have k1W := hW.blk k1 (by simpa using hK1)
 have k2W := hW.blk k2 (by simpa using hK2)
 have hrW := hkg (X := fun _ => False) (hW.mono (fun k _ h hk => hk.elim h id)) hr
 have HU := Lib.hid (fun W => usableY_any r.pg r.n r.f r.bk r.ev W (chkG_zero.2 hp))
 have hus := runsL_can hp
 have husum := (runs_sum hp).2
 have hune := runs_ne hp
 have hulen := runsL_len hp
 clear hp
 obtain ⟨pg, n, f, bk, ev, node, live, Kp, cl⟩ := r
 simp only at k1W k1 HU hus husum hune hulen hY ⊢
 generalize runsL pg n f bk ev = us at *
 obtain ⟨nu, hnu0⟩ : ∃ nu, us.length = nu := ⟨_, rfl⟩
 rw [hnu0] at hulen
 have hnu := Lib.hid hnu0
 clear k1 k2 hW hr hnu0
 refine callsIn_of_wp Tryz.func124 rfl trivial ?_ rfl
 simp only [Tryz.ntmps124, List.size_toArray, List.length_cons, List.length_nil, Nat.reduceAdd, Nat.reduceSub, Array.replicate_succ, Array.replicate_zero, List.push_toArray, List.append_toArray, List.nil_append, List.cons_append]
 have c1 := k1W.cell
 dsimp only [crC] at c1
 gi_wp2_with fail
 refine (callsIn_wide.2 (HU.out _)).mono ?_
 unfold SpansY
 rw [hnu.out]
 rintro e w1 ⟨Au, cu, rfl, hru, hmu, hcu, hb1⟩
 have hJ1 := Lib.hid (hJ _ _ _ h0 hb1)
 have k2a := k2W.call hb1
 have hr1 := hrW.on hb1
 clear c1 k1W hrW h0 HU
 gi_wp2_with fail
 gi_loopw [6, 21] (fun v i wr => ∃ k : Nat, k ≤ nu ∧ v = .int .i64 (sumS (us.take k)) ∧ i = .int .i64 k ∧ W.heap.size ≤ wr.heap.size ∧ Hid (J (runsC S 0 (us.take k)) wr) ∧ Blk wr B2 41 #[.slice As ns cs] ∧ RU wr wr.heap.size As S ∧ KeptAt wr Au us) (fun _ i _ => nu - (intOf i).toNat)
 case atStart => exact ⟨0, by omega, by simp [sumS], rfl, hb1.size, by simpa [runsC] using hJ1, k2a, hr1, hru⟩
 case round =>
  clear hJ1 k2a hr1 hru hb1
  obtain ⟨k, hk, rfl, rfl, hwz, hJs, k2, hrs, hru⟩ := hrel
  by_cases hlt : k < nu
  ·have hlt' : decide ((k : Int) < (nu : Int)) = true := by simpa using hlt
   have hku : k < us.length := by rw [hnu.out]; exact hlt
   obtain ⟨b, o, rfl, hbl, hc, hd⟩ := RU.at_' hru.ru (k := k) hku
   have hvx := vld_iff.1 (hus.1 (us.getD k (0,0)) (by rw [List.getD_eq_getElem?_getD, List.getElem?_eq_getElem hku]; simp))
   have hst := Lib.hid (runsC_step S us hku)
   have hsm := Lib.hid (sumS_takeS us hku)
   have hs1 := sumS_take_le us hus.1 k
   have hs2 := sumS_take_le us hus.1 (k + 1)
   have hsm2 := hsm.out
   have hpf := Lib.hid (runsC_pre S us (k + 1))
   generalize us.getD k (0,0) = x at *
   obtain ⟨xa, xb⟩ := x
   dsimp only at hc hd hvx hst hsm hsm2
   obtain ⟨M, hM⟩ : ∃ M, sumS (us.take k) = M := ⟨_, rfl⟩
   rw [hM] at hst hsm hs1 hsm2 ⊢
   have hM1 : 0 ≤ M ∧ M + xb ≤ 1024 := by omega
   have hvm : vld (M, xb) = true := vld_iff.2 ⟨by show 0 ≤ M; omega, by show M < 1024; omega, by show 1 ≤ xb; omega, by show xb ≤ 1024 - M; omega⟩
   have HM := Lib.hid (fun W A2 h h2 => meetY_any As A2 ns cs 1 1 S [(M, xb)] W hns hms hcs h rfl (Nat.le_refl _) (by unfold maxLen; omega) h2 hS (Can.one hvm))
   have hIc := Can.common hS (Can.one hvm)
   have hIl := hIc.len
   have hIv := Lib.hid hIc.1
   obtain ⟨L0, hL0⟩ : ∃ L0, runsC S 0 (us.take k) = L0 := ⟨_, rfl⟩
   rw [hL0] at hst hJs
   clear hIc hvm hs1 hs2 hsm2 hL0 hM
   generalize commonF S [(M, xb)] = I at *
   obtain ⟨ni, hni0⟩ : ∃ ni, I.length = ni := ⟨_, rfl⟩
   rw [hni0] at hIl
   have hni := Lib.hid hni0
   have kX := Blk.new wr 140 #[.int .i64 xa, .int .i64 xb]
   have hba := (Below.refl wr.heap.size wr).alloc (Nat.le_refl _) (.cells #[.int .i64 xa, .int .i64 xb] 140)
   have k2a := k2.call hba
   have hrsa := hrs.on hba
   have hrua := hru.call hba
   obtain ⟨bx, hbx⟩ : ∃ bx, wr.heap.size = bx := ⟨_, rfl⟩
   rw [hbx] at kX
   clear hni0 hbl
   gi_upto_region 5 with fail
   clear hc hd
   generalize wr.alloc _ = wa at *
   have ca := kX.cell
   have c2a := k2a.cell
   have hbS := (Below.refl wa.heap.size wa).alloc (Nat.le_refl _) (.cells #[.int .i64 M, .int .i64 xb] 140)
   have kS := Blk.new wa 140 #[.int .i64 M, .int .i64 xb]
   have HM2 := Lib.hid (HM.out _ _ (hrsa.on hbS) (ru_one kS))
   gi_wp2_with fail
   refine (callsIn_wide.2 HM2.out).mono ?_
   unfold SpansY
   rw [hni.out]
   rintro e w3 ⟨Ai, ci, rfl, hri, hmi, hci, hb3⟩
   have hb3a := hbS.trans (hb3.mono hbS.size)
   have hb3r := hba.trans (hb3a.mono hba.size)
   have hJ3 := Lib.hid (hJ _ _ _ hJs.out hb3r)
   have k23 := k2a.call hb3a
   have kX3 := kX.call hb3a
   have hrs3 := hrsa.on hb3a
   have hru3 := hrua.call hb3a
   have hwz3 := Nat.le_trans hwz hb3r.size
   clear HM HM2 hbS kS hb3 hb3a hba k2a hrsa hrua kX hJs k2 hrs hru hwz ca c2a
   gi_wp2_with fail
   gi_loopw [37] (fun i wr => ∃ j : Nat, j ≤ ni ∧ i = .int .i64 j ∧ W.heap.size ≤ wr.heap.size ∧ Hid (J (L0 ++ (I.take j).map (rnOf xa M)) wr) ∧ Blk wr B2 41 #[.slice As ns cs] ∧ RU wr wr.heap.size As S ∧ KeptAt wr (some ⟨b, o, none⟩) us ∧ KeptAt wr Ai I ∧ Blk wr bx 140 #[.int .i64 xa, .int .i64 xb]) (fun i _ => ni - (intOf i).toNat)
   case atStart => exact ⟨0, by omega, rfl, hwz3, by simpa using hJ3, k23, hrs3, hru3, hri, kX3⟩
   case round =>
    clear hJ3 k23 hrs3 hru3 hri kX3 hwz3
    obtain ⟨j, hj, rfl, hwz, hJs, k2, hrs, hru, hri, kX⟩ := hrel
    by_cases hlt2 : j < ni
    ·have hlt2' : decide ((j : Int) < (ni : Int)) = true := by simpa using hlt2
     have hju : j < I.length := by rw [hni.out]; exact hlt2
     have hIn : I ≠ [] := fun h => by subst h; simp at hju
     obtain ⟨bi, oi, rfl, _, hc, hd⟩ := RU.at_' hri.ru (k := j) hju
     have hvy := vld_iff.1 (hIv.out (I.getD j (0,0)) (by rw [List.getD_eq_getElem?_getD, List.getElem?_eq_getElem hju]; simp))
     have htk : Hid ((I.take (j + 1)).map (rnOf xa M) = (I.take j).map (rnOf xa M) ++ [rnOf xa M (I.getD j (0,0))]) := Lib.hid (by rw [z_take (0, 0) I hju, List.map_append]; rfl)
     generalize I.getD j (0,0) = y at *
     obtain ⟨ya, yb⟩ := y
     dsimp only at hc hd hvy
     have hw1 : IntKind.i64.wrap (xa + ya) = xa + ya := by rw [IntKind.wrap_i64]; omega
     have hw2 : IntKind.i64.wrap (xa + ya - M) = xa + ya - M := by rw [IntKind.wrap_i64]; omega
     have hpre : Hid ((L0 ++ (I.take j).map (rnOf xa M)) ++ [rnOf xa M (ya, yb)] <+: runsC S 0 us) := Lib.hid (by
      refine List.IsPrefix.trans ?_ hpf.out
      rw [hst.out, List.append_assoc, ← htk.out]
      exact (List.prefix_append_right_inj _).2 ((List.take_prefix _ _).map _))
     have hba := (Below.refl wr.heap.size wr).alloc (Nat.le_refl _) (.cells #[.int .i64 ya, .int .i64 yb] 140)
     have kY := Blk.new wr 140 #[.int .i64 ya, .int .i64 yb]
     have hJ2 := hJ _ _ _ hJs.out hba
     have k2a := k2.call hba
     have kXa := kX.call hba
     have hrsa := hrs.on hba
     have hrua := hru.call hba
     have hria := hri.call hba
     have hwza := Nat.le_trans hwz hba.size
     obtain ⟨gy, hgy⟩ : ∃ gy, wr.heap.size = gy := ⟨_, rfl⟩
     rw [hgy] at kY
     have cXa := kXa.cell
     have cYa := kY.cell
     gi_upto_region 9 with fail
     clear hc hd
     generalize wr.alloc _ = wa at *
     have hun : us ≠ [] := fun h => by subst h; simp at hku
     obtain ⟨fn, tmps, assign, body, hy, hRd⟩ := hY (m - 1) (fun q => q = b ∨ q = bx ∨ q = bi) _ (rnOf xa M (ya, yb)) wa hJ2 (fun q hq => by
      rcases hq with rfl | rfl | rfl
      ·exact hrua.block hun rfl
      ·exact ⟨_, kXa⟩
      ·exact hria.block hIn rfl) hpre.out
     simp only [rnTA, rnTC, rnOf] at hy
     clear hY hJ2 k2 kX hrs hru hri hwz hba hJs hJx
     gi_wp2_with fail
     refine hRd.mono ?_
     rintro e W4 (⟨rfl, hJ4, hF4⟩ | ⟨rfl, hJx4⟩)
     ·have hs4 := hF4.size
      have k24 := hF4.blk k2a (fun h => h (.inl hK2))
      have kX4 := hF4.blk kXa (fun h => h (.inr (.inr (.inl rfl))))
      have hrs4 := hkg hF4 hrsa
      have hru4 := hrua.farA hF4 (fun _ g o e h => by cases e; exact h (.inr (.inl rfl)))
      have hri4 := hria.farA hF4 (fun _ g o e h => by cases e; exact h (.inr (.inr (.inr rfl))))
      gi_wp2_with fail
      go_roundw
      case rel => exact ⟨j + 1, by omega, by go_num, by omega, Lib.hid (by rw [htk.out, ← List.append_assoc]; exact hJ4), k24, hrs4, hru4, hri4, kX4⟩
      case measure => simp [intOf]; omega
     ·gi_wp2_with fail
      refine bodyPost_ret (results_none rfl _ _ _) rfl ?_
      exact ⟨⟨_, rfl⟩, .inr ⟨_, hpre.out, hJx4⟩⟩
    ·obtain rfl : j = ni := by omega
     have hlt2' : decide ((j : Int) < (j : Int)) = false := by simp
     have hE : Hid (L0 ++ (I.take j).map (rnOf xa M) = runsC S 0 (us.take (k + 1))) := Lib.hid (by rw [hst.out, List.take_of_length_le (by rw [hni.out]; omega)])
     have cX := kX.cell
     have hw1 : IntKind.i64.wrap (M + xb) = M + xb := by rw [IntKind.wrap_i64]; omega
     gi_wp2_with fail
     go_roundw
     case rel => exact ⟨k + 1, by omega, by rw [hsm.out], by go_num, hwz, Lib.hid (by rw [← hE.out]; exact hJs.out), k2, hrs, hru⟩
     case measure => simp [intOf]; omega
  ·obtain rfl : k = nu := by omega
   have hlt' : decide ((k : Int) < (k : Int)) = false := by simp
   have hE : Hid (us.take k = us) := Lib.hid (List.take_of_length_le (by rw [hnu.out]; omega))
   gi_wp2_with fail
   go_end0
   exact ⟨⟨_, rfl⟩, .inl (by have := hJs.out; rw [hE.out] at this; exact this)⟩
end Go.Proofs.YtjmmgoijnhnnaaaGreat
namespace Go.Pol
open Go Go.RowKit
theorem SysTo.fresh {b : Nat} {V : Vm} {w w1 w2 : World} {T : Nat → Prop} (h : SysTo b V w w1) (hF : Far T w1 w2) (hT : ∀ k, T k → w.heap.size ≤ k) (hty : ∀ k, T k → ∃ t cs, Blk w1 k t cs ∧ t ≠ 71 ∧ t ≠ 164) : SysTo b V w w2 := by
 refine ⟨?_, h.2.trans' hF (fun i hi ht => absurd (hT i ht) (by omega))⟩
 obtain ⟨cs, hc⟩ := h.1.typed
 refine h.1.far hF (fun ht => ?_) (fun _ _ _ _ _ _ _ _ _ _ ⟨_, hr⟩ ht => ?_)
 ·obtain ⟨t, ds, hd, h1, _⟩ := hty _ ht
  exact hd.ne hc h1
 ·obtain ⟨t, ds, hd, _, h4⟩ := hty _ ht
  exact hd.ne hr h4
theorem SysTo.trans {b : Nat} {V V1 : Vm} {w w1 w2 : World} (h : SysTo b V1 w w1) (k : SysTo b V w1 w2) : SysTo b V w w2 := ⟨k.1, h.2.trans k.2⟩
theorem SysTo.below {b : Nat} {V : Vm} {w w1 : World} (h : SysIs w b V) (k : Below w.heap.size w w1) : SysTo b V w w1 := ⟨h.call k, Far.of_below k⟩
theorem SysTo.thenBelow {b : Nat} {V : Vm} {w w1 w2 : World} (h : SysTo b V w w1) (k : Below w1.heap.size w1 w2) : SysTo b V w w2 := h.trans (.below h.1 k)
theorem SysTo.blk {b : Nat} {V V0 : Vm} {w w1 : World} (h : SysTo b V w w1) (h0 : SysIs w b V0) {g : Nat} {t : TypeId} {cs : Array Value} (hg : Blk w g t cs) (h1 : t ≠ 71) : Blk w1 g t cs :=
 h.2.blk hg (fun e => by
  have e : g = b := e
  subst e
  obtain ⟨es, he⟩ := h0.typed
  exact hg.ne he h1)
end Go.Pol
namespace Go.Proofs.YtjmmgoijnhnnaaaGreat
open Go Go.Proofs Go.RowKit Go.Pol Go.Shelf
attribute [local go_sem] Oper.semAt_some Go.Pol.wide_fn Go.Pol.wide_depth Go.Pol.wide_fn' Go.Pol.wide_depth'
def openC (V : Vm) (pg n f bk ev node : Int) : Cr × Int × Vm :=
 let r : Cr := ⟨pg, n, f, bk, ev, node, 0, [], false⟩
 if chkCm r ≠ 0 then (cr0, chkCm r, V)
 else
  let J := bec V pg n 0 0 1
  if J.1 ≠ 0 then (cr0, J.1, J.2)
  else
   let P := placeG J.2 (chkG pg n f bk ev) (guardsF pg n f bk ev)
   if P.2.1 = 0 then (r, 0, P.2.2)
   else if P.1.length = 0 then
    let E := bec P.2.2 pg n 1 1 0
    if E.1 = 0 then (cr0, P.2.1, E.2) else ({ r with cl := true }, P.2.1, E.2)
   else ({ r with cl := true }, P.2.1, P.2.2)
set_option maxRecDepth 100000 in
set_option maxHeartbeats 3200000 in
theorem cmOpen_any (bs : Nat) (V : Vm) (pg n f bk ev node : Int) (w : World) (hV : SysIs w bs V) (hKd : KindOk V) :
  Calls Tryz.prog 23 #[.pointer (some ⟨bs, 0, none⟩), planV pg n f bk ev, .int .i64 node] w fun e w' => ∃ v, e = .returned (.tuple #[v, .int .i64 (openC V pg n f bk ev node).2.1]) ∧ CrV (openC V pg n f bk ev node).1 w' v ∧ SysTo bs (openC V pg n f bk ev node).2.2 w w' := by
 have HC := Lib.hid (fun W (h : SysIs W bs V) => counts5_any bs V W h hKd)
 have HK := Lib.hid (fun W => cmCheck_any ⟨pg, n, f, bk, ev, node, 0, [], false⟩ none 0 W (Nat.le_refl _) (by unfold maxLen; omega) RU.nil)
 obtain ⟨R, hR⟩ : ∃ R, openC V pg n f bk ev node = R := ⟨_, rfl⟩
 rw [hR]
 unfold openC at hR
 simp only at hR
 generalize chkCm ⟨pg, n, f, bk, ev, node, 0, [], false⟩ = ck at *
 have hb0 := below_alloc2 ((Below.refl w.heap.size w).alloc (Nat.le_refl _) (.cells (planC pg n f bk ev) 25)) (.cells (crC cr0 (.slice none 0 0)) 43)
 have k0 := (Blk.new w 25 (planC pg n f bk ev)).alloc2 (.cells (crC cr0 (.slice none 0 0)) 43)
 have kR := Blk.new2 w (.cells (planC pg n f bk ev) 25) 43 (crC cr0 (.slice none 0 0))
 dsimp only [crC, cr0, planC, List.length_nil] at k0 hb0 kR HK ⊢
 unfold planV
 by_cases h0 : ck = 0
 case neg =>
  have h0' : (ck != 0) = true := by simpa using h0
  rw [if_pos h0] at hR
  subst hR
  clear h0
  go_enter Tryz.func23, Tryz.ntmps23
  go_wp2_with fail
  refine (HC.out _ (hV.call hb0)).mono ?_
  rintro e w1 ⟨n1, n2, n3, n4, n5, rfl, hb1⟩
  have k1 := k0.call hb1
  have kR1 := kR.call hb1
  have B1 := hb0.trans (hb1.mono hb0.size)
  have hbX := below_alloc2 ((Below.refl w1.heap.size w1).alloc (Nat.le_refl _) (.cells #[.int .i64 n1, .int .i64 n2, .int .i64 n3, .int .i64 n4, .int .i64 n5] 106)) (.cells (crC ⟨pg, n, f, bk, ev, node, 0, [], false⟩ (.slice none 0 0)) 43)
  have kr := Blk.new2 w1 (.cells #[.int .i64 n1, .int .i64 n2, .int .i64 n3, .int .i64 n4, .int .i64 n5] 106) 43 (crC ⟨pg, n, f, bk, ev, node, 0, [], false⟩ (.slice none 0 0))
  dsimp only [crC] at hbX kr
  obtain ⟨gx, hgx⟩ : ∃ gx, w1.heap.size = gx := ⟨_, rfl⟩
  rw [hgx] at kr
  have kX := k1.call hbX
  have kRX := kR1.call hbX
  have BX := B1.trans (hbX.mono B1.size)
  have c1 := (k1.alloc2 (.cells #[.int .i64 n1, .int .i64 n2, .int .i64 n3, .int .i64 n4, .int .i64 n5] 106)).cell
  have k0s : w.heap.size + 2 ≤ w1.heap.size := kR1.lt
  clear HC k0 kR hb0 hb1
  go_upto_region 5 with fail
  generalize (w1.alloc _).alloc _ = wx at *
  have crX := kr.cell
  go_wp2_with fail
  refine (HK.out _).mono ?_
  rintro e w2 ⟨rfl, hb2⟩
  have k2 := kX.call hb2
  have kR2 := kRX.call hb2
  have kr2 := kr.call hb2
  have B2 := BX.trans (hb2.mono BX.size)
  have c2 := k2.cell
  have c2R := kR2.cell
  have f2R := kR2.frozen
  clear HK k1 kR1 B1 hbX kr kX kRX BX c1 crX hb2
  go_wp2_with fail
  change bodyPost _ _ _ _ _ (put9 w2 (w.heap.size + 1) cr0 (.slice none 0 0))
  have kR9 := put9_blk kR2 cr0 (.slice none 0 0)
  have F9 := put9_far w2 (w.heap.size + 1) cr0 (.slice none 0 0)
  have B9 := put9_below B2 (g := (w.heap.size + 1)) (by omega) cr0 (.slice none 0 0)
  generalize put9 w2 (w.heap.size + 1) cr0 (.slice none 0 0) = w9 at *
  dsimp only [crC] at kR9
  have cR9 := kR9.cell
  refine bodyPost_ret (v := .tuple #[.agg (crC cr0 (.slice none 0 0)), .int .i64 ck]) (by simp [results, Tryz.results23, go_sem, cR9, crC]) rfl ?_
  exact ⟨_, rfl, ⟨none, 0, rfl, Nat.le_refl _, by unfold maxLen; omega, KeptAt.none _ _⟩, .below hV B9⟩
 subst h0
 rw [if_neg (by simp)] at hR
 have HV := Lib.hid (fun W h => reserve_any bs pg n V W h)
 have hKJ := Lib.hid (hKd.bec pg n 0 0 (tk := 1) (by omega))
 obtain ⟨J, hJ⟩ : ∃ J, bec V pg n 0 0 1 = J := ⟨_, rfl⟩
 rw [hJ] at hR HV hKJ
 obtain ⟨je, jV⟩ := J
 simp only at hR HV hKJ
 clear hJ
 by_cases h1 : je = 0
 case neg =>
  have h1' : (je != 0) = true := by simpa using h1
  rw [if_pos h1] at hR
  subst hR
  clear h1
  go_enter Tryz.func23, Tryz.ntmps23
  go_wp2_with fail
  refine (HC.out _ (hV.call hb0)).mono ?_
  rintro e w1 ⟨n1, n2, n3, n4, n5, rfl, hb1⟩
  have k1 := k0.call hb1
  have kR1 := kR.call hb1
  have B1 := hb0.trans (hb1.mono hb0.size)
  have hbX := below_alloc2 ((Below.refl w1.heap.size w1).alloc (Nat.le_refl _) (.cells #[.int .i64 n1, .int .i64 n2, .int .i64 n3, .int .i64 n4, .int .i64 n5] 106)) (.cells (crC ⟨pg, n, f, bk, ev, node, 0, [], false⟩ (.slice none 0 0)) 43)
  have kr := Blk.new2 w1 (.cells #[.int .i64 n1, .int .i64 n2, .int .i64 n3, .int .i64 n4, .int .i64 n5] 106) 43 (crC ⟨pg, n, f, bk, ev, node, 0, [], false⟩ (.slice none 0 0))
  dsimp only [crC] at hbX kr
  obtain ⟨gx, hgx⟩ : ∃ gx, w1.heap.size = gx := ⟨_, rfl⟩
  rw [hgx] at kr
  have kX := k1.call hbX
  have kRX := kR1.call hbX
  have BX := B1.trans (hbX.mono B1.size)
  have c1 := (k1.alloc2 (.cells #[.int .i64 n1, .int .i64 n2, .int .i64 n3, .int .i64 n4, .int .i64 n5] 106)).cell
  have k0s : w.heap.size + 2 ≤ w1.heap.size := kR1.lt
  clear HC k0 kR hb0 hb1
  go_upto_region 5 with fail
  generalize (w1.alloc _).alloc _ = wx at *
  have crX := kr.cell
  go_wp2_with fail
  refine (HK.out _).mono ?_
  rintro e w2 ⟨rfl, hb2⟩
  have k2 := kX.call hb2
  have kR2 := kRX.call hb2
  have kr2 := kr.call hb2
  have B2 := BX.trans (hb2.mono BX.size)
  have c2 := k2.cell
  have c2R := kR2.cell
  have f2R := kR2.frozen
  clear HK k1 kR1 B1 hbX kr kX kRX BX c1 crX hb2
  go_wp2_with fail
  refine (HV.out _ (hV.call B2)).mono ?_
  rintro e w3 ⟨rfl, h3s⟩
  have T3 := (SysTo.below hV B2).trans h3s
  have k3 := h3s.blk (hV.call B2) k2 (by decide)
  have kR3 := h3s.blk (hV.call B2) kR2 (by decide)
  have kr3 := h3s.blk (hV.call B2) kr2 (by decide)
  have c3 := k3.cell
  have c3R := kR3.cell
  have f3R := kR3.frozen
  clear HV k2 kR2 kr2 B2 c2 c2R f2R h3s
  go_wp2_with fail
  change bodyPost _ _ _ _ _ (put9 w3 (w.heap.size + 1) cr0 (.slice none 0 0))
  have kR9 := put9_blk kR3 cr0 (.slice none 0 0)
  have F9 := put9_far w3 (w.heap.size + 1) cr0 (.slice none 0 0)
  generalize put9 w3 (w.heap.size + 1) cr0 (.slice none 0 0) = w9 at *
  dsimp only [crC] at kR9
  have cR9 := kR9.cell
  refine bodyPost_ret (v := .tuple #[.agg (crC cr0 (.slice none 0 0)), .int .i64 je]) (by simp [results, Tryz.results23, go_sem, cR9, crC]) rfl ?_
  exact ⟨_, rfl, ⟨none, 0, rfl, Nat.le_refl _, by unfold maxLen; omega, KeptAt.none _ _⟩, T3.fresh F9 (fun k hk => by subst hk; omega) (fun k hk => by subst hk; exact ⟨_, _, kR3, by decide, by decide⟩)⟩
 subst h1
 rw [if_neg (by simp)] at hR
 have HP := Lib.hid (fun W h => gplace_any bs pg n f bk ev jV W h hKJ.out (guardsF_len _ _ _ _ _))
 obtain ⟨Q, hQ⟩ : ∃ Q, placeG jV (chkG pg n f bk ev) (guardsF pg n f bk ev) = Q := ⟨_, rfl⟩
 rw [hQ] at hR HP
 obtain ⟨sl, pe, pV⟩ := Q
 unfold SpanSys at HP
 simp only at hR HP
 clear hQ
 by_cases h2 : pe = 0
 case pos =>
  subst h2
  rw [if_pos rfl] at hR
  subst hR
  go_enter Tryz.func23, Tryz.ntmps23
  go_wp2_with fail
  refine (HC.out _ (hV.call hb0)).mono ?_
  rintro e w1 ⟨n1, n2, n3, n4, n5, rfl, hb1⟩
  have k1 := k0.call hb1
  have kR1 := kR.call hb1
  have B1 := hb0.trans (hb1.mono hb0.size)
  have hbX := below_alloc2 ((Below.refl w1.heap.size w1).alloc (Nat.le_refl _) (.cells #[.int .i64 n1, .int .i64 n2, .int .i64 n3, .int .i64 n4, .int .i64 n5] 106)) (.cells (crC ⟨pg, n, f, bk, ev, node, 0, [], false⟩ (.slice none 0 0)) 43)
  have kr := Blk.new2 w1 (.cells #[.int .i64 n1, .int .i64 n2, .int .i64 n3, .int .i64 n4, .int .i64 n5] 106) 43 (crC ⟨pg, n, f, bk, ev, node, 0, [], false⟩ (.slice none 0 0))
  dsimp only [crC] at hbX kr
  obtain ⟨gx, hgx⟩ : ∃ gx, w1.heap.size = gx := ⟨_, rfl⟩
  rw [hgx] at kr
  have kX := k1.call hbX
  have kRX := kR1.call hbX
  have BX := B1.trans (hbX.mono B1.size)
  have c1 := (k1.alloc2 (.cells #[.int .i64 n1, .int .i64 n2, .int .i64 n3, .int .i64 n4, .int .i64 n5] 106)).cell
  have k0s : w.heap.size + 2 ≤ w1.heap.size := kR1.lt
  clear HC k0 kR hb0 hb1
  go_upto_region 5 with fail
  generalize (w1.alloc _).alloc _ = wx at *
  have crX := kr.cell
  go_wp2_with fail
  refine (HK.out _).mono ?_
  rintro e w2 ⟨rfl, hb2⟩
  have k2 := kX.call hb2
  have kR2 := kRX.call hb2
  have kr2 := kr.call hb2
  have B2 := BX.trans (hb2.mono BX.size)
  have c2 := k2.cell
  have c2R := kR2.cell
  have f2R := kR2.frozen
  clear HK k1 kR1 B1 hbX kr kX kRX BX c1 crX hb2
  go_wp2_with fail
  refine (HV.out _ (hV.call B2)).mono ?_
  rintro e w3 ⟨rfl, h3s⟩
  have T3 := (SysTo.below hV B2).trans h3s
  have k3 := h3s.blk (hV.call B2) k2 (by decide)
  have kR3 := h3s.blk (hV.call B2) kR2 (by decide)
  have kr3 := h3s.blk (hV.call B2) kr2 (by decide)
  have c3 := k3.cell
  have c3R := kR3.cell
  have f3R := kR3.frozen
  clear HV k2 kR2 kr2 B2 c2 c2R f2R h3s
  go_wp2_with fail
  refine (HP.out _ T3.1).mono ?_
  rintro e w4 ⟨Ap, cp, rfl, _, _, hpl, h4v, h4f⟩
  have h4s : SysTo bs pV w3 w4 := ⟨h4v, h4f⟩
  have T4 := T3.trans h4s
  have k4 := h4s.blk T3.1 k3 (by decide)
  have kR4 := h4s.blk T3.1 kR3 (by decide)
  have kr4 := h4s.blk T3.1 kr3 (by decide)
  have c4 := k4.cell
  have c4R := kR4.cell
  have f4R := kR4.frozen
  have c4r := kr4.cell
  clear HP k3 kR3 kr3 c3 c3R f3R h4v h4f
  go_wp2_with fail
  change bodyPost _ _ _ _ _ (put9 w4 (w.heap.size + 1) ⟨pg, n, f, bk, ev, node, 0, [], false⟩ (.slice none 0 0))
  have kR9 := put9_blk kR4 ⟨pg, n, f, bk, ev, node, 0, [], false⟩ (.slice none 0 0)
  have F9 := put9_far w4 (w.heap.size + 1) ⟨pg, n, f, bk, ev, node, 0, [], false⟩ (.slice none 0 0)
  generalize put9 w4 (w.heap.size + 1) ⟨pg, n, f, bk, ev, node, 0, [], false⟩ (.slice none 0 0) = w9 at *
  dsimp only [crC] at kR9
  have cR9 := kR9.cell
  refine bodyPost_ret (v := .tuple #[.agg (crC ⟨pg, n, f, bk, ev, node, 0, [], false⟩ (.slice none 0 0)), .int .i64 0]) (by simp [results, Tryz.results23, go_sem, cR9, crC]) rfl ?_
  exact ⟨_, rfl, ⟨none, 0, rfl, Nat.le_refl _, by unfold maxLen; omega, KeptAt.none _ _⟩, T4.fresh F9 (fun k hk => by subst hk; omega) (fun k hk => by subst hk; exact ⟨_, _, kR4, by decide, by decide⟩)⟩
 have h2' : (pe == 0) = false := by simpa using h2
 rw [if_neg h2] at hR
 obtain ⟨sn, hsn⟩ : ∃ sn, sl.length = sn := ⟨_, rfl⟩
 rw [hsn] at hR HP
 by_cases h3 : sn = 0
 case neg =>
  have h3' : ((sn : Int) == 0) = false := by simpa using h3
  rw [if_neg h3] at hR
  subst hR
  clear h2 h3
  go_enter Tryz.func23, Tryz.ntmps23
  go_wp2_with fail
  refine (HC.out _ (hV.call hb0)).mono ?_
  rintro e w1 ⟨n1, n2, n3, n4, n5, rfl, hb1⟩
  have k1 := k0.call hb1
  have kR1 := kR.call hb1
  have B1 := hb0.trans (hb1.mono hb0.size)
  have hbX := below_alloc2 ((Below.refl w1.heap.size w1).alloc (Nat.le_refl _) (.cells #[.int .i64 n1, .int .i64 n2, .int .i64 n3, .int .i64 n4, .int .i64 n5] 106)) (.cells (crC ⟨pg, n, f, bk, ev, node, 0, [], false⟩ (.slice none 0 0)) 43)
  have kr := Blk.new2 w1 (.cells #[.int .i64 n1, .int .i64 n2, .int .i64 n3, .int .i64 n4, .int .i64 n5] 106) 43 (crC ⟨pg, n, f, bk, ev, node, 0, [], false⟩ (.slice none 0 0))
  dsimp only [crC] at hbX kr
  obtain ⟨gx, hgx⟩ : ∃ gx, w1.heap.size = gx := ⟨_, rfl⟩
  rw [hgx] at kr
  have kX := k1.call hbX
  have kRX := kR1.call hbX
  have BX := B1.trans (hbX.mono B1.size)
  have c1 := (k1.alloc2 (.cells #[.int .i64 n1, .int .i64 n2, .int .i64 n3, .int .i64 n4, .int .i64 n5] 106)).cell
  have k0s : w.heap.size + 2 ≤ w1.heap.size := kR1.lt
  clear HC k0 kR hb0 hb1
  go_upto_region 5 with fail
  generalize (w1.alloc _).alloc _ = wx at *
  have crX := kr.cell
  go_wp2_with fail
  refine (HK.out _).mono ?_
  rintro e w2 ⟨rfl, hb2⟩
  have k2 := kX.call hb2
  have kR2 := kRX.call hb2
  have kr2 := kr.call hb2
  have B2 := BX.trans (hb2.mono BX.size)
  have c2 := k2.cell
  have c2R := kR2.cell
  have f2R := kR2.frozen
  clear HK k1 kR1 B1 hbX kr kX kRX BX c1 crX hb2
  go_wp2_with fail
  refine (HV.out _ (hV.call B2)).mono ?_
  rintro e w3 ⟨rfl, h3s⟩
  have T3 := (SysTo.below hV B2).trans h3s
  have k3 := h3s.blk (hV.call B2) k2 (by decide)
  have kR3 := h3s.blk (hV.call B2) kR2 (by decide)
  have kr3 := h3s.blk (hV.call B2) kr2 (by decide)
  have c3 := k3.cell
  have c3R := kR3.cell
  have f3R := kR3.frozen
  clear HV k2 kR2 kr2 B2 c2 c2R f2R h3s
  go_wp2_with fail
  refine (HP.out _ T3.1).mono ?_
  rintro e w4 ⟨Ap, cp, rfl, _, _, hpl, h4v, h4f⟩
  have h4s : SysTo bs pV w3 w4 := ⟨h4v, h4f⟩
  have T4 := T3.trans h4s
  have k4 := h4s.blk T3.1 k3 (by decide)
  have kR4 := h4s.blk T3.1 kR3 (by decide)
  have kr4 := h4s.blk T3.1 kr3 (by decide)
  have c4 := k4.cell
  have c4R := kR4.cell
  have f4R := kR4.frozen
  have c4r := kr4.cell
  clear HP k3 kR3 kr3 c3 c3R f3R h4v h4f
  have f4r := kr4.frozen
  go_upto_region 17 with fail
  have hgw : w.heap.size + 1 ≠ gx + 1 := by rw [← hgx]; have := k0s; omega
  have kr5 := (kr4).set_ 8 (.bool true)
  have kR5 := (kR4).far (p := ⟨gx + 1, 8, none⟩) (by show w.heap.size + 1 ≠ gx + 1; exact hgw) (.bool true)
  have F5 := (Far.refl (fun k => k = gx + 1 ∨ k = w.heap.size + 1) w4).setCell (p := ⟨gx + 1, 8, none⟩) (fun _ => .inl rfl) (.bool true)
  generalize (w4).setCell ⟨gx + 1, 8, none⟩ (.bool true) = w5 at *
  simp only [List.setIfInBounds_toArray, List.set_cons_zero, List.set_cons_succ] at kr5
  have c5 := kr5.cell
  have c5RR := kR5.cell
  have f5RR := kR5.frozen
  go_wp2_with fail
  change bodyPost _ _ _ _ _ (put9 w5 (w.heap.size + 1) ⟨pg, n, f, bk, ev, node, 0, [], true⟩ (.slice none 0 0))
  have kR9 := put9_blk kR5 ⟨pg, n, f, bk, ev, node, 0, [], true⟩ (.slice none 0 0)
  have F9 := put9_far w5 (w.heap.size + 1) ⟨pg, n, f, bk, ev, node, 0, [], true⟩ (.slice none 0 0)
  generalize put9 w5 (w.heap.size + 1) ⟨pg, n, f, bk, ev, node, 0, [], true⟩ (.slice none 0 0) = w9 at *
  dsimp only [crC] at kR9
  have cR9 := kR9.cell
  refine bodyPost_ret (v := .tuple #[.agg (crC ⟨pg, n, f, bk, ev, node, 0, [], true⟩ (.slice none 0 0)), .int .i64 pe]) (by simp [results, Tryz.results23, go_sem, cR9, crC]) rfl ?_
  exact ⟨_, rfl, ⟨none, 0, rfl, Nat.le_refl _, by unfold maxLen; omega, KeptAt.none _ _⟩, T4.fresh (F5.trans (F9.mono (fun k _ hk => .inr hk))) (fun k hk => by rcases hk with rfl | rfl <;> omega) (fun k hk => by rcases hk with rfl | rfl; exact ⟨_, _, kr4, by decide, by decide⟩; exact ⟨_, _, kR4, by decide, by decide⟩)⟩
 subst h3
 rw [if_pos rfl] at hR
 have HE := Lib.hid (fun W h => release_any bs pg n pV W h)
 obtain ⟨E, hE⟩ : ∃ E, bec pV pg n 1 1 0 = E := ⟨_, rfl⟩
 rw [hE] at hR HE
 obtain ⟨ee, eV⟩ := E
 simp only at hR HE
 clear hE
 by_cases h4 : ee = 0
 case pos =>
  subst h4
  rw [if_pos rfl] at hR
  subst hR
  clear h2
  go_enter Tryz.func23, Tryz.ntmps23
  go_wp2_with fail
  refine (HC.out _ (hV.call hb0)).mono ?_
  rintro e w1 ⟨n1, n2, n3, n4, n5, rfl, hb1⟩
  have k1 := k0.call hb1
  have kR1 := kR.call hb1
  have B1 := hb0.trans (hb1.mono hb0.size)
  have hbX := below_alloc2 ((Below.refl w1.heap.size w1).alloc (Nat.le_refl _) (.cells #[.int .i64 n1, .int .i64 n2, .int .i64 n3, .int .i64 n4, .int .i64 n5] 106)) (.cells (crC ⟨pg, n, f, bk, ev, node, 0, [], false⟩ (.slice none 0 0)) 43)
  have kr := Blk.new2 w1 (.cells #[.int .i64 n1, .int .i64 n2, .int .i64 n3, .int .i64 n4, .int .i64 n5] 106) 43 (crC ⟨pg, n, f, bk, ev, node, 0, [], false⟩ (.slice none 0 0))
  dsimp only [crC] at hbX kr
  obtain ⟨gx, hgx⟩ : ∃ gx, w1.heap.size = gx := ⟨_, rfl⟩
  rw [hgx] at kr
  have kX := k1.call hbX
  have kRX := kR1.call hbX
  have BX := B1.trans (hbX.mono B1.size)
  have c1 := (k1.alloc2 (.cells #[.int .i64 n1, .int .i64 n2, .int .i64 n3, .int .i64 n4, .int .i64 n5] 106)).cell
  have k0s : w.heap.size + 2 ≤ w1.heap.size := kR1.lt
  clear HC k0 kR hb0 hb1
  go_upto_region 5 with fail
  generalize (w1.alloc _).alloc _ = wx at *
  have crX := kr.cell
  go_wp2_with fail
  refine (HK.out _).mono ?_
  rintro e w2 ⟨rfl, hb2⟩
  have k2 := kX.call hb2
  have kR2 := kRX.call hb2
  have kr2 := kr.call hb2
  have B2 := BX.trans (hb2.mono BX.size)
  have c2 := k2.cell
  have c2R := kR2.cell
  have f2R := kR2.frozen
  clear HK k1 kR1 B1 hbX kr kX kRX BX c1 crX hb2
  go_wp2_with fail
  refine (HV.out _ (hV.call B2)).mono ?_
  rintro e w3 ⟨rfl, h3s⟩
  have T3 := (SysTo.below hV B2).trans h3s
  have k3 := h3s.blk (hV.call B2) k2 (by decide)
  have kR3 := h3s.blk (hV.call B2) kR2 (by decide)
  have kr3 := h3s.blk (hV.call B2) kr2 (by decide)
  have c3 := k3.cell
  have c3R := kR3.cell
  have f3R := kR3.frozen
  clear HV k2 kR2 kr2 B2 c2 c2R f2R h3s
  go_wp2_with fail
  refine (HP.out _ T3.1).mono ?_
  rintro e w4 ⟨Ap, cp, rfl, _, _, hpl, h4v, h4f⟩
  have h4s : SysTo bs pV w3 w4 := ⟨h4v, h4f⟩
  have T4 := T3.trans h4s
  have k4 := h4s.blk T3.1 k3 (by decide)
  have kR4 := h4s.blk T3.1 kR3 (by decide)
  have kr4 := h4s.blk T3.1 kr3 (by decide)
  have c4 := k4.cell
  have c4R := kR4.cell
  have f4R := kR4.frozen
  have c4r := kr4.cell
  clear HP k3 kR3 kr3 c3 c3R f3R h4v h4f
  go_wp2_with fail
  refine (HE.out _ T4.1).mono ?_
  rintro e w5 ⟨rfl, h5s⟩
  have T5 := T4.trans h5s
  have kR5 := h5s.blk T4.1 kR4 (by decide)
  have c5R := kR5.cell
  have f5R := kR5.frozen
  go_wp2_with fail
  change bodyPost _ _ _ _ _ (put9 w5 (w.heap.size + 1) cr0 (.slice none 0 0))
  have kR9 := put9_blk kR5 cr0 (.slice none 0 0)
  have F9 := put9_far w5 (w.heap.size + 1) cr0 (.slice none 0 0)
  generalize put9 w5 (w.heap.size + 1) cr0 (.slice none 0 0) = w9 at *
  dsimp only [crC] at kR9
  have cR9 := kR9.cell
  refine bodyPost_ret (v := .tuple #[.agg (crC cr0 (.slice none 0 0)), .int .i64 pe]) (by simp [results, Tryz.results23, go_sem, cR9, crC]) rfl ?_
  exact ⟨_, rfl, ⟨none, 0, rfl, Nat.le_refl _, by unfold maxLen; omega, KeptAt.none _ _⟩, T5.fresh F9 (fun k hk => by subst hk; omega) (fun k hk => by subst hk; exact ⟨_, _, kR5, by decide, by decide⟩)⟩
 have h4' : (ee == 0) = false := by simpa using h4
 rw [if_neg h4] at hR
 subst hR
 clear h2 h4
 go_enter Tryz.func23, Tryz.ntmps23
 go_wp2_with fail
 refine (HC.out _ (hV.call hb0)).mono ?_
 rintro e w1 ⟨n1, n2, n3, n4, n5, rfl, hb1⟩
 have k1 := k0.call hb1
 have kR1 := kR.call hb1
 have B1 := hb0.trans (hb1.mono hb0.size)
 have hbX := below_alloc2 ((Below.refl w1.heap.size w1).alloc (Nat.le_refl _) (.cells #[.int .i64 n1, .int .i64 n2, .int .i64 n3, .int .i64 n4, .int .i64 n5] 106)) (.cells (crC ⟨pg, n, f, bk, ev, node, 0, [], false⟩ (.slice none 0 0)) 43)
 have kr := Blk.new2 w1 (.cells #[.int .i64 n1, .int .i64 n2, .int .i64 n3, .int .i64 n4, .int .i64 n5] 106) 43 (crC ⟨pg, n, f, bk, ev, node, 0, [], false⟩ (.slice none 0 0))
 dsimp only [crC] at hbX kr
 obtain ⟨gx, hgx⟩ : ∃ gx, w1.heap.size = gx := ⟨_, rfl⟩
 rw [hgx] at kr
 have kX := k1.call hbX
 have kRX := kR1.call hbX
 have BX := B1.trans (hbX.mono B1.size)
 have c1 := (k1.alloc2 (.cells #[.int .i64 n1, .int .i64 n2, .int .i64 n3, .int .i64 n4, .int .i64 n5] 106)).cell
 have k0s : w.heap.size + 2 ≤ w1.heap.size := kR1.lt
 clear HC k0 kR hb0 hb1
 go_upto_region 5 with fail
 generalize (w1.alloc _).alloc _ = wx at *
 have crX := kr.cell
 go_wp2_with fail
 refine (HK.out _).mono ?_
 rintro e w2 ⟨rfl, hb2⟩
 have k2 := kX.call hb2
 have kR2 := kRX.call hb2
 have kr2 := kr.call hb2
 have B2 := BX.trans (hb2.mono BX.size)
 have c2 := k2.cell
 have c2R := kR2.cell
 have f2R := kR2.frozen
 clear HK k1 kR1 B1 hbX kr kX kRX BX c1 crX hb2
 go_wp2_with fail
 refine (HV.out _ (hV.call B2)).mono ?_
 rintro e w3 ⟨rfl, h3s⟩
 have T3 := (SysTo.below hV B2).trans h3s
 have k3 := h3s.blk (hV.call B2) k2 (by decide)
 have kR3 := h3s.blk (hV.call B2) kR2 (by decide)
 have kr3 := h3s.blk (hV.call B2) kr2 (by decide)
 have c3 := k3.cell
 have c3R := kR3.cell
 have f3R := kR3.frozen
 clear HV k2 kR2 kr2 B2 c2 c2R f2R h3s
 go_wp2_with fail
 refine (HP.out _ T3.1).mono ?_
 rintro e w4 ⟨Ap, cp, rfl, _, _, hpl, h4v, h4f⟩
 have h4s : SysTo bs pV w3 w4 := ⟨h4v, h4f⟩
 have T4 := T3.trans h4s
 have k4 := h4s.blk T3.1 k3 (by decide)
 have kR4 := h4s.blk T3.1 kR3 (by decide)
 have kr4 := h4s.blk T3.1 kr3 (by decide)
 have c4 := k4.cell
 have c4R := kR4.cell
 have f4R := kR4.frozen
 have c4r := kr4.cell
 clear HP k3 kR3 kr3 c3 c3R f3R h4v h4f
 go_wp2_with fail
 refine (HE.out _ T4.1).mono ?_
 rintro e w5a ⟨rfl, h5s⟩
 have T5 := T4.trans h5s
 have kR5a := h5s.blk T4.1 kR4 (by decide)
 have kr5a := h5s.blk T4.1 kr4 (by decide)
 have c5R := kR5a.cell
 have f5R := kR5a.frozen
 have c5r := kr5a.cell
 have f5r := kr5a.frozen
 clear kR4 kr4 k4 c4 c4R f4R c4r h5s HE
 go_upto_region 17 with fail
 have hgw : w.heap.size + 1 ≠ gx + 1 := by rw [← hgx]; have := k0s; omega
 have kr5 := (kr5a).set_ 8 (.bool true)
 have kR5 := (kR5a).far (p := ⟨gx + 1, 8, none⟩) (by show w.heap.size + 1 ≠ gx + 1; exact hgw) (.bool true)
 have F5 := (Far.refl (fun k => k = gx + 1 ∨ k = w.heap.size + 1) w5a).setCell (p := ⟨gx + 1, 8, none⟩) (fun _ => .inl rfl) (.bool true)
 generalize (w5a).setCell ⟨gx + 1, 8, none⟩ (.bool true) = w5 at *
 simp only [List.setIfInBounds_toArray, List.set_cons_zero, List.set_cons_succ] at kr5
 have c5 := kr5.cell
 have c5RR := kR5.cell
 have f5RR := kR5.frozen
 go_wp2_with fail
 change bodyPost _ _ _ _ _ (put9 w5 (w.heap.size + 1) ⟨pg, n, f, bk, ev, node, 0, [], true⟩ (.slice none 0 0))
 have kR9 := put9_blk kR5 ⟨pg, n, f, bk, ev, node, 0, [], true⟩ (.slice none 0 0)
 have F9 := put9_far w5 (w.heap.size + 1) ⟨pg, n, f, bk, ev, node, 0, [], true⟩ (.slice none 0 0)
 generalize put9 w5 (w.heap.size + 1) ⟨pg, n, f, bk, ev, node, 0, [], true⟩ (.slice none 0 0) = w9 at *
 dsimp only [crC] at kR9
 have cR9 := kR9.cell
 refine bodyPost_ret (v := .tuple #[.agg (crC ⟨pg, n, f, bk, ev, node, 0, [], true⟩ (.slice none 0 0)), .int .i64 pe]) (by simp [results, Tryz.results23, go_sem, cR9, crC]) rfl ?_
 exact ⟨_, rfl, ⟨none, 0, rfl, Nat.le_refl _, by unfold maxLen; omega, KeptAt.none _ _⟩, T5.fresh (F5.trans (F9.mono (fun k _ hk => .inr hk))) (fun k hk => by rcases hk with rfl | rfl <;> omega) (fun k hk => by rcases hk with rfl | rfl; exact ⟨_, _, kr5a, by decide, by decide⟩; exact ⟨_, _, kR5a, by decide, by decide⟩)⟩
end Go.Proofs.YtjmmgoijnhnnaaaGreat
namespace Go.Pol
open Go Go.RowKit
def kindC (V : Vm) (q : Int) : Int := if 0 ≤ q ∧ q < 1024 then (V.pg q.toNat).kind else 0
def stdN (V : Vm) (p : Int) : Nat → List Sp
 | 0 => []
 | k + 1 => if kindC V (p + k) = 3 then stdN V p k ++ [(p + k, 1)] else stdN V p k
def standC (V : Vm) (p n : Int) : List Sp := setOf (stdN V p n.toNat)
theorem stdN_len (V : Vm) (p : Int) : ∀ k, (stdN V p k).length ≤ k
 | 0 => Nat.le_refl _
 | k + 1 => by
  have := stdN_len V p k
  rw [stdN]
  split <;> simp <;> omega
theorem stdN_vld (V : Vm) {p : Int} (hp : 0 ≤ p) : ∀ k : Nat, p + k ≤ 1024 → ∀ x ∈ stdN V p k, vld x = true
 | 0, _, _, h => by cases h
 | k + 1, hk, x, h => by
  rw [stdN] at h
  have ih := stdN_vld V hp k (by omega)
  split at h
  ·rcases List.mem_append.1 h with h | h
   ·exact ih x h
   ·simp only [List.mem_singleton] at h
    subst h
    exact vld_iff.2 ⟨by show 0 ≤ p + k; omega, by show p + k < 1024; omega, by show (1 : Int) ≤ 1; omega, by show (1 : Int) ≤ 1024 - (p + k); omega⟩
  ·exact ih x h
theorem stdN_of (V : Vm) {p : Int} {n : Nat} (hp : 0 ≤ p) (hn : p + n ≤ 1024) : ofE (stdN V p n) = 0 := by
 have h1 := stdN_len V p n
 unfold ofE
 rw [if_neg (by omega), if_pos (List.all_eq_true.2 (stdN_vld V hp n hn))]
end Go.Pol
namespace Go.Proofs.YtjmmgoijnhnnaaaGreat
open Go Go.Proofs Go.RowKit Go.Pol Go.Shelf
attribute [local go_sem] Oper.semAt_some Go.Pol.wide_fn Go.Pol.wide_depth Go.Pol.wide_fn' Go.Pol.wide_depth'
set_option maxRecDepth 100000 in
set_option maxHeartbeats 1600000 in
theorem standing_any (bs : Nat) (V : Vm) (pg f bk ev : Int) (n : Nat) (w : World) (hV : SysIs w bs V) (hp : 0 ≤ pg) (hn : pg + n ≤ 1024) :
  Calls Tryz.prog 67 #[.pointer (some ⟨bs, 0, none⟩), planV pg n f bk ev] w fun e w' => ∃ (A : Option Addr) (cap : Nat), e = .returned (.slice A (standC V pg n).length cap) ∧ RU w' w'.heap.size A (standC V pg n) ∧ (∀ g o, A = some ⟨g, o, none⟩ → w.heap.size ≤ g) ∧ (standC V pg n).length ≤ cap ∧ cap ≤ maxLen ∧ Below w.heap.size w w' := by
 have hb0 := (Below.refl w.heap.size w).alloc (Nat.le_refl _) (.cells (planC pg n f bk ev) 25)
 have k0 := Blk.new w 25 (planC pg n f bk ev)
 have V0 := Lib.hid hV
 have HK := Lib.hid (fun (q : Int) W h => vkind_any bs q V W h)
 have hof := stdN_of V hp hn
 unfold standC
 rw [Int.toNat_natCast]
 obtain ⟨SL, hSL0⟩ : ∃ SL, setOf (stdN V pg n) = SL := ⟨_, rfl⟩
 rw [hSL0]
 have hSL := Lib.hid hSL0
 clear hSL0
 unfold planV
 dsimp only [planC] at k0 hb0 ⊢
 obtain ⟨i0, hi, hz0, hz1, hz2⟩ := infoSp_parts
 have hws : IntKind.i64.wrap (pg + (n : Int)) = pg + n := by rw [IntKind.wrap_i64]; omega
 clear hV
 go_enter Tryz.func67, Tryz.ntmps67
 go_wp2_with fail
 go_loopw [5, 6] (fun v i wr => ∃ (k : Nat) (l : List Sp), k ≤ n ∧ i = .int .i64 (pg + k) ∧ Hid (stdN V pg k = l) ∧ wr.ownsRow w.heap.size 140 2 v l.length (spCells l) ∧ Below w.heap.size w wr ∧ Blk wr w.heap.size 25 #[.int .i64 pg, .int .i64 n, .int .i64 f, .int .i64 bk, .int .i64 ev]) (fun _ i _ => (pg + n - intOf i).toNat)
 case atStart => exact ⟨0, [], by omega, by simp, Lib.hid rfl, World.ownsRow_nil _ _ _ _, hb0, k0⟩
 case round =>
  clear hb0 k0
  obtain ⟨k, l, hk, rfl, hl, hrow, hB, k1⟩ := hrel
  have V1 := V0.out.call hB
  have c1 := k1.cell
  by_cases hlt : k < n
  ·have hlt' : decide (pg + (k : Int) < pg + (n : Int)) = true := by simp; omega
   have hw1 : IntKind.i64.wrap (pg + (k : Int) + 1) = pg + ((k + 1 : Nat) : Int) := by rw [IntKind.wrap_i64]; omega
   obtain ⟨kd, hkd⟩ : ∃ kd, kindC V (pg + (k : Int)) = kd := ⟨_, rfl⟩
   have hst : Hid (stdN V pg (k + 1) = if kd = 3 then l ++ [(pg + k, 1)] else l) := Lib.hid (by rw [stdN, hkd, hl.out])
   have HK1 := HK.out (pg + (k : Int)) wr V1
   unfold kindC at hkd
   rw [hkd] at HK1
   have HK2 := Lib.hid HK1
   obtain ⟨ll, hll⟩ : ∃ ll, l.length = ll := ⟨_, rfl⟩
   have hlb := stdN_len V pg k
   rw [hl.out, hll] at hlb
   rw [hll] at hrow
   clear hkd HK1 hl
   go_wp2_with fail
   refine HK2.out.mono ?_
   rintro e w1 ⟨rfl, hb1⟩
   have B1 := hB.trans (hb1.mono hB.size)
   have hrow1 := ownsRow_call hrow hb1
   have hs1 := B1.size
   have k2 := k1.call hb1
   clear HK2 hrow V1 hB k1 c1
   by_cases hk3 : kd = 3
   ·subst hk3
    have hst2 : Hid (stdN V pg (k + 1) = l ++ [(pg + (k : Int), 1)]) := Lib.hid (by rw [hst.out, if_pos rfl])
    have kN := Blk.new w1 140 #[.int .i64 (pg + (k : Int)), .int .i64 1]
    clear hst
    go_wp2_with (refine wpList_append_own _ rfl (.tmp 32) (.tmp 35) 41 rfl w.heap.size 140 i0 (.agg #[.int .i64 0, .int .i64 0]) 2 16 Tryz.underlying41 hi hz0 hz1 hz2 rfl (by decide) _ ll (spCells l) rfl (hrow1.alloc _) ⟨w1.heap.size, 0, none⟩ 1 1 [.int .i64 (pg + (k : Int)), .int .i64 1] rfl rfl (news_two kN) news_one2 (by unfold maxLen; omega) (by omega) (by simp; omega) ?_; intro v' w3 hown' hgrow _)
    go_roundw
    case rel =>
     refine ⟨k + 1, _, by omega, by simp, hst2, ?_, (B1.alloc hs1 _).grown hgrow (by simp; omega) (fun j hj => (hrow1.lt j hj).1), (k2.alloc _).grown hgrow (fun e => k2.not_row hrow1 (by decide) e.symm)⟩
     rw [spCells_snoc, List.length_append, List.length_singleton, hll]; exact hown'
    case measure => simp [intOf]; omega
   ·have hk3' : (kd == 3) = false := by simpa using hk3
    have hst2 : Hid (stdN V pg (k + 1) = l) := Lib.hid (by rw [hst.out, if_neg hk3])
    clear hst hk3
    go_wp2_with fail
    go_roundw
    case rel => exact ⟨k + 1, l, by omega, by simp, hst2, by rw [hll]; exact hrow1, B1, k2⟩
    case measure => simp [intOf]; omega
  ·obtain rfl : k = n := by omega
   have hlt' : decide (pg + (k : Int) < pg + (k : Int)) = false := by simp
   have hof2 := hof
   rw [hl.out] at hof2
   have hlb := stdN_len V pg k
   rw [hl.out] at hlb
   obtain ⟨A', cap', rfl, hru, hnc, hcm, hfr, hnz⟩ := own_RU hrow rfl
   have HO := Lib.hid (ofTop_any A' l.length cap' l wr rfl (by unfold maxLen; omega) hru)
   have hSL2 := hSL.out
   rw [hl.out] at hSL2
   rw [hof2, if_pos rfl, hSL2] at HO
   generalize l.length = ll at *
   clear hl hof hof2 hrow hSL hSL2
   go_wp2_with fail
   refine HO.out.mono ?_
   rintro e w1 ⟨A1, c1', rfl, hr1, hm1, hc1, hf1, hb1, _⟩
   go_wp2_with fail
   go_ret
   exact ⟨A1, c1', rfl, hr1, fun g o e => Nat.le_trans hB.size (hf1 g o e), hm1, hc1, hB.trans (hb1.mono hB.size)⟩
end Go.Proofs.YtjmmgoijnhnnaaaGreat
