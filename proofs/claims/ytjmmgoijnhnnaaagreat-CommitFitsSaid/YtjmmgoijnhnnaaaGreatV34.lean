/- That the law CommitFits returns true whatever the play is: after each call the range fits the system, as much is charged as is committed, and a call that commit. -/
import Derived.Test.YtjmmgoijnhnnaaaGreatV33
namespace Go.Proofs.YtjmmgoijnhnnaaaGreat
open Go Go.Proofs Go.RowKit Go.Pol Go.Shelf Go.ChangeShapes Go.WideShapes Go.Deep
attribute [local go_sem] Oper.semAt_some Go.Pol.wide_fn Go.Pol.wide_depth Go.Pol.wide_fn' Go.Pol.wide_depth'
theorem ac_lim {V : Vm} {L : List Nd} {r : Cr} (h : CmI V L r) (x : Int × Int) (hg : (L.getD 1 nd0).own < ((acF (V, L, r) x).2.1.getD 1 nd0).own) : ((acF (V, L, r) x).2.1.getD 1 nd0).own ≤ ((acF (V, L, r) x).2.1.getD 1 nd0).lim := by
 unfold acF at hg ⊢
 dsimp only at hg ⊢
 split at hg
 ·rename_i c; rw [if_pos c]; exact growC_lim h _ hg
 ·rename_i c; rw [if_neg c]
  split at hg
  ·exact absurd hg (Int.lt_irrefl _)
  ·split at hg
   ·exfalso
    unfold Go.Proofs.YtjmmgoijnhnnaaaGreat.purgeC at hg
    split at hg
    ·exact absurd hg (Int.lt_irrefl _)
    ·rename_i h1
     have hn := (h.of_ok (chkCm_zero.1 (by simpa using h1))).1
     have hcn : r.node.toNat = 1 := by rw [hn]; rfl
     split at hg
     ·exact absurd hg (Int.lt_irrefl _)
     ·dsimp only at hg
      split at hg
      ·exact absurd hg (Int.lt_irrefl _)
      ·rw [hcn] at hg
       have := (giveB_le h.two 1).1
       exact absurd hg (Int.not_lt.2 this)
   ·split at hg
    ·exact absurd hg (Int.lt_irrefl _)
    ·split at hg
     ·exfalso
      have h2 := h.two
      match L, h2 with
      | [a, b], _ =>
       unfold setLimB at hg
       split at hg <;> exact absurd hg (Int.lt_irrefl _)
     ·split at hg
      ·exact absurd hg (Int.not_lt.2 (closeC_le h))
      ·exact absurd hg (Int.lt_irrefl _)
set_option maxRecDepth 100000 in
theorem limit_any (A : Option Addr) (cap : Nat) (L : List Nd) (w : World) (h2 : L.length = 2) (hr : Rd w w.heap.size A (fl anC L)) :
  Calls Tryz.prog 31 #[.agg #[.slice A L.length cap]] w fun e w' => e = .returned (.int .i64 (L.getD 1 nd0).lim) ∧ Below w.heap.size w w' := by
 have hb0 := (Below.refl w.heap.size w).alloc (Nat.le_refl _) (.cells #[.slice A 2 cap] 94)
 have k0 := Blk.new w 94 #[.slice A 2 cap]
 obtain ⟨s, hs⟩ : ∃ s, w.heap.size = s := ⟨_, rfl⟩
 obtain ⟨b, o, rfl, hb, hc⟩ := hr.elem anC_len (by omega) nd0 (k := 1) (by omega)
 have q := (hb0.cell (p := ⟨b, o + 1 * 5 + 1, none⟩) hb).trans (hc 1 _ rfl)
 rw [h2]
 generalize L.getD 1 nd0 = x at *
 rw [hs] at k0
 clear hc hr h2
 go_enter Tryz.func31, Tryz.ntmps31
 go_upto_region 1 with fail
 generalize w.alloc _ = w0 at *
 try simp only [hs]
 have c0 := k0.cell
 go_wp2_with fail
 go_ret
 exact ⟨rfl, hb0⟩
set_option maxRecDepth 100000 in
set_option maxHeartbeats 6400000 in
theorem fitsLaw_any (A1 A2 : Option Addr) (n1 c1 n2 c2 : Nat) (pg n f bk ev lim : Int) (l : List Ru) (us : List (Int × Int)) (w : World) (hl : l.length = n1) (hr : Rd w w.heap.size A1 (fl ruC l)) (hz : A1 = none → c1 = 0) (hul : us.length = n2) (hA2 : Rd w w.heap.size A2 (fl acC us))
  (hus : ∀ x ∈ us, 0 ≤ x.1 ∧ x.1 ≤ 255 ∧ -9223372036854775808 ≤ x.2 ∧ x.2 ≤ 9223372036854775807) :
  Calls Tryz.prog 7 #[.agg #[.int .i64 pg, .int .i64 n, .int .i64 f, .int .i64 bk, .int .i64 ev, .int .i64 lim, .slice A1 n1 c1, .slice A2 n2 c2]] w fun e w' => e = .returned (.bool true) ∧ Below w.heap.size w w' := by
 have HFa := Lib.hid (fun W => far12_any A1 A2 n1 c1 n2 c2 pg n f bk ev lim W)
 have hb0 := (Below.refl w.heap.size w).alloc (Nat.le_refl _) (.cells #[.int .i64 pg, .int .i64 n, .int .i64 f, .int .i64 bk, .int .i64 ev, .int .i64 lim, .slice A1 n1 c1, .slice A2 n2 c2] 31)
 have k0 := Blk.new w 31 #[.int .i64 pg, .int .i64 n, .int .i64 f, .int .i64 bk, .int .i64 ev, .int .i64 lim, .slice A1 n1 c1, .slice A2 n2 c2]
 have hA2H := Lib.hid hA2
 have hulH := Lib.hid hul
 have husH := Lib.hid hus
 have hr0 := hr.on_ hb0
 obtain ⟨s, hs⟩ : ∃ s, w.heap.size = s := ⟨_, rfl⟩
 rw [hs] at k0
 clear hA2 hul hus hr
 by_cases hfar : ((decide (100 < n) || decide (30 < (n2 : Int))) || decide (60 < (n1 : Int))) = true
 ·rw [hfar] at HFa
  clear hfar
  go_enter Tryz.func7, Tryz.ntmps7
  go_upto_region 1 with fail
  generalize w.alloc _ = w0 at *
  try simp only [hs]
  have c0 := k0.cell
  go_wp2_with fail
  refine (HFa.out _).mono ?_
  rintro e w1 ⟨rfl, hb1⟩
  have B1 := hb0.trans (hb1.mono hb0.size)
  go_wp2_with fail
  refine (shown_any _).mono ?_
  rintro e w2 ⟨rfl, hb2⟩
  go_wp2_with fail
  go_ret
  exact ⟨rfl, B1.trans (hb2.mono B1.size)⟩
 have hfar' : ((decide (100 < n) || decide (30 < (n2 : Int))) || decide (60 < (n1 : Int))) = false := by simpa using hfar
 rw [hfar'] at HFa
 have hn1 : n1 ≤ 60 := by simp at hfar'; omega
 have hn2 : n2 ≤ 30 := by simp at hfar'; omega
 clear hfar hfar'
 have HPl := Lib.hid (fun W h => played_any A1 A2 n1 c1 n2 c2 pg n f bk ev lim l W hl (by omega) hz h)
 clear hl hz
 go_enter Tryz.func7, Tryz.ntmps7
 go_upto_region 1 with fail
 generalize w.alloc _ = w0 at *
 try simp only [hs]
 have c0 := k0.cell
 go_wp2_with fail
 refine (HFa.out _).mono ?_
 rintro e w1 ⟨rfl, hb1⟩
 have B1 := hb0.trans (hb1.mono hb0.size)
 have k1 := k0.call hb1
 have hr1 := hr0.on_ hb1
 have c1' := k1.cell
 clear c0 k0 hb0 hb1 hr0 HFa
 go_wp2_with fail
 refine (HPl.out _ hr1).mono ?_
 rintro e w2 ⟨hcase, hb2⟩
 have B2 := B1.trans (hb2.mono B1.size)
 have k2 := k1.call hb2
 have hB1 := B1.size
 have hk1s := k1.lt
 have hb2s := hb2.size
 clear c1' k1 hb2 hr1 HPl B1
 rcases hcase with rfl | ⟨y, bs, bb, V, L, rfl, hP⟩
 ·go_wp2_with fail
  refine (shown_any _).mono ?_
  rintro e w3 ⟨rfl, hb3⟩
  go_wp2_with fail
  go_ret
  exact ⟨rfl, B2.trans (hb3.mono B2.size)⟩
 obtain ⟨N, hN⟩ : ∃ N, w1.heap.size = N := ⟨_, rfl⟩
 rw [hN] at hP hB1
 have hsN : s < N := by rw [← hN]; exact hk1s
 have hNw2 : N ≤ w2.heap.size := by rw [← hN]; exact hb2s
 clear hN hb2s hk1s
 go_wp2_with fail
 refine (fit_any N y bs bb V L _ w2 hP).mono ?_
 rintro e w3 ⟨rfl, hb3⟩
 have hP3 := hP.call hb3
 have B3 := B2.trans (hb3.mono B2.size)
 have k3 := k2.call hb3
 have hN3 := Nat.le_trans hNw2 hb3.size
 clear k2 B2 hP hNw2 hb3
 go_upto_region 9 with fail
 go_loopw [5] (fun u wr => ∃ (i : Nat) (V : Vm) (L : List Nd) (r : Cr), u = .int .i64 i ∧ i ≤ n2 ∧ PlyAt wr N y bs bb V L r ∧ Below w.heap.size w wr ∧ N ≤ wr.heap.size ∧ Blk wr s 31 #[.int .i64 pg, .int .i64 n, .int .i64 f, .int .i64 bk, .int .i64 ev, .int .i64 lim, .slice A1 n1 c1, .slice A2 n2 c2]) (fun u _ => n2 - (intOf u).toNat)
 case atStart => exact ⟨0, V, L, _, rfl, by omega, hP3, B3, hN3, k3⟩
 case round =>
  clear k3 B3 hP3 hN3
  obtain ⟨i, V, L, r, rfl, hi, hP, hB, hNw, kp⟩ := hrel
  have cp := kp.cell
  obtain ⟨A, cap, ky, hk, hlen, hmax⟩ := hP.two
  have cy := ky.cell
  by_cases hin : i < n2
  ·have d1 : decide ((i : Int) < (n2 : Int)) = true := by simpa using hin
   by_cases hrn : 0 < r.n
   ·have d2 : decide (0 < r.n) = true := by simpa using hrn
    obtain ⟨ab, ao, rfl, hab, hac⟩ := (hA2H.out).elem acC_len (by omega) (0, 0) (k := i) (by have := hulH.out; omega)
    have hx := husH.out (us.getD i (0, 0)) (getD_mem _ (by have := hulH.out; omega))
    generalize us.getD i (0, 0) = x at *
    obtain ⟨xa, xb⟩ := x
    have x0 := (hB.cell (p := ⟨ab, ao + i * 2 + 0, none⟩) hab).trans (hac 0 _ rfl)
    have x1 := (hB.cell (p := ⟨ab, ao + i * 2 + 1, none⟩) hab).trans (hac 1 _ rfl)
    simp only [Nat.add_zero] at x0
    simp only at hx
    have hlim := Lib.hid (ac_lim hP.inv (xa, xb))
    have HA := Lib.hid (fun W h1 h2 => alone_any N y bs bb V L r xa xb W h1 h2 ⟨hx.1, hx.2.1⟩ hx.2.2.1 hx.2.2.2)
    have HU := Lib.hid (usedB_any bb 1 L wr hP.bud hP.inv.bok (by rw [hP.inv.two]; decide))
    rw [show ((1 : Nat) : Int) = 1 from rfl] at HU
    generalize (L.getD 1 nd0).own = ow at *
    generalize (L.getD 1 nd0).all = oa at *
    clear hac ky hk hlen hmax
    go_wp2_with fail
    refine HU.out.mono ?_
    rintro e w3 ⟨rfl, hb3⟩
    have hP3 := hP.call hb3
    have kp3 := kp.call hb3
    have B3 := hB.trans (hb3.mono hB.size)
    have hN3 := Nat.le_trans hNw hb3.size
    have x03 := (hb3.cell (p := ⟨ab, ao + i * 2, none⟩) (Nat.lt_of_lt_of_le hab hB.size)).trans x0
    have x13 := (hb3.cell (p := ⟨ab, ao + i * 2 + 1, none⟩) (Nat.lt_of_lt_of_le hab hB.size)).trans x1
    have cp3 := kp3.cell
    clear HU hP kp hB hNw x0 x1 cp cy hb3 hx
    go_wp2_with fail
    refine (HA.out w3 hP3 hN3).mono ?_
    rintro e w4 ⟨⟨er, rfl⟩, hP4, hb4⟩
    have kp4 : Blk w4 s 31 _ := (hb4.block s hsN).trans kp3
    have B4 := B3.trans (hb4.mono (by omega))
    have hN4 : N ≤ w4.heap.size := Nat.le_trans hN3 hb4.size
    generalize acF (V, L, r) (xa, xb) = S at *
    have HU := Lib.hid (usedB_any bb 1 S.2.1 w4 hP4.bud hP4.inv.bok (by rw [hP4.inv.two]; decide))
    rw [show ((1 : Nat) : Int) = 1 from rfl] at HU
    have hLm := Lib.hid (fun A cap W h => limit_any A cap S.2.1 W hP4.inv.two h)
    have hSv := Lib.hid (fun W h => saveB_any bb S.2.1 W h (by rw [hP4.inv.two]; decide))
    obtain ⟨A', cap', ky4, _, _, _⟩ := hP4.two
    have cy4 := ky4.cell
    generalize (S.2.1.getD 1 nd0).own = ow2 at *
    generalize (S.2.1.getD 1 nd0).all = oa2 at *
    generalize (S.2.1.getD 1 nd0).lim = li2 at *
    clear hP3 kp3 B3 hN3 x03 x13 cp3 HA hb4
    go_wp2_with fail
    refine HU.out.mono ?_
    rintro e w5 ⟨rfl, hb5⟩
    have hP5 := hP4.call hb5
    have kp5 := kp4.call hb5
    have B5 := B4.trans (hb5.mono B4.size)
    have hN5 := Nat.le_trans hN4 hb5.size
    clear HU hP4 kp4 B4 hN4 hb5 ky4 cy4
    have HFt := fit_any N y bs bb _ _ _ w5 hP5
    go_wp2_with fail
    refine HFt.mono ?_
    rintro e w6 ⟨rfl, hb6⟩
    have hP6 := hP5.call hb6
    have kp6 := kp5.call hb6
    have B6 := B5.trans (hb6.mono B5.size)
    have hN6 := Nat.le_trans hN5 hb6.size
    obtain ⟨A6, cap6, ky6, _, _, _⟩ := hP6.two
    have cy6 := ky6.cell
    clear hP5 kp5 B5 hN5 hb6
    by_cases hab2 : ow < ow2
    ·have d3 : decide (ow < ow2) = true := by simpa using hab2
     have d4 : decide (li2 < ow2) = false := by have := hlim.out hab2; simpa using this
     go_wp2_with fail
     refine (hSv.out w6 hP6.bud).mono ?_
     rintro e w7 ⟨⟨A7, cap7, rfl, hrd7, _, _⟩, hb7⟩
     have hP7 := hP6.call hb7
     have kp7 := kp6.call hb7
     have B7 := B6.trans (hb7.mono B6.size)
     have hN7 := Nat.le_trans hN6 hb7.size
     clear hP6 kp6 B6 hN6 hb7 cy6 ky6
     go_wp2_with fail
     refine (hLm.out A7 cap7 w7 hrd7).mono ?_
     rintro e w8 ⟨rfl, hb8⟩
     have hP8 := hP7.call hb8
     have kp8 := kp7.call hb8
     have B8 := B7.trans (hb8.mono B7.size)
     have hN8 := Nat.le_trans hN7 hb8.size
     go_wp2_with fail
     go_roundw
     case rel => exact ⟨i + 1, S.1, S.2.1, S.2.2, by go_num, by omega, hP8, B8, hN8, kp8⟩
     case measure => simp [intOf]; omega
    ·have d3 : decide (ow < ow2) = false := by simpa using hab2
     go_wp2_with fail
     go_roundw
     case rel => exact ⟨i + 1, S.1, S.2.1, S.2.2, by go_num, by omega, hP6, B6, hN6, kp6⟩
     case measure => simp [intOf]; omega
   ·have d2 : decide (0 < r.n) = false := by simpa using hrn
    go_wp2_with fail
    refine (shown_any _).mono ?_
    rintro e w2 ⟨rfl, hb2⟩
    go_wp2_with fail
    go_ret
    exact ⟨rfl, hB.trans (hb2.mono hB.size)⟩
  ·have d1 : decide ((i : Int) < (n2 : Int)) = false := by simpa using hin
   go_wp2_with fail
   refine (shown_any _).mono ?_
   rintro e w2 ⟨rfl, hb2⟩
   go_wp2_with fail
   go_ret
   exact ⟨rfl, hB.trans (hb2.mono hB.size)⟩
end Go.Proofs.YtjmmgoijnhnnaaaGreat
