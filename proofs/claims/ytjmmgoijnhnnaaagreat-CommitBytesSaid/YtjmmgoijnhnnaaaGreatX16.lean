/- That the law CommitBytes returns true whatever the play, the page and the bytes are: what is in a page that stays below Live does not change, and a page that is. -/
import Derived.Test.YtjmmgoijnhnnaaaGreatX15
namespace Go.Pol
open Go Go.RowKit
def Kn (V : Vm) (p a : Nat) (kn : Bool) (wt : Int) : Prop := if kn = true then kd V p = 2 ∧ (V.pg p).byt a = wt else kd V p ≠ 2
theorem whF_at {p : Nat} {a : Int} (hp : p < 1024) (ha : 0 ≤ a ∧ a < 64) (V : Vm) : whF V ((p : Int) * 64 + a) = if kd V p = 2 then 0 else 61 := by
 unfold whF kd
 rw [if_neg (by omega), show (((p : Int) * 64 + a) / 64).toNat = p by omega]
 by_cases h : (V.pg p).kind = 2
 ·rw [if_neg (by simpa using h), if_pos h]
 ·rw [if_pos h, if_neg h]
theorem Kn.write {V : Vm} {p : Nat} {wt v : Int} {a : Int} (hp : p < 1024) (ha : 0 ≤ a ∧ a < 64) (h : Kn V p a.toNat true wt) : whF V ((p : Int) * 64 + a) = 0 ∧ Kn (writeF V ((p : Int) * 64 + a) v) p a.toNat true v := by
 obtain ⟨h1, h2⟩ := h
 have hw := whF_at hp ha V
 rw [if_pos h1] at hw
 refine ⟨hw, ?_⟩
 unfold writeF
 rw [if_pos hw, show (((p : Int) * 64 + a) / 64).toNat = p by omega, show (((p : Int) * 64 + a) % 64).toNat = a.toNat by omega]
 refine ⟨?_, ?_⟩
 ·unfold kd Vm.setP at *
  simp only [if_pos]
  exact h1
 ·unfold Vm.setP Pg.byteP
  simp
theorem Kn.hold {V W : Vm} {p a : Nat} {kn : Bool} {wt : Int} (hP : Plain V) (h : Kn V p a kn wt) (hH : Hold V W) (hk : kd W p = 2) : Kn W p a true (if kn = true then wt else 0) := by
 refine ⟨hk, ?_⟩
 rw [hH p hk a]
 cases kn with
 | true => exact h.2
 | false => exact hP.byt p h a
theorem PlyAt.sysTo {W W' : World} {N y bs bb : Nat} {V V' : Vm} {L : List Nd} {r : Cr} (h : PlyAt W N y bs bb V L r) (k : SysTo bs V' W W') (hI : CmI V' L r) : PlyAt W' N y bs bb V' L r := by
 have T := BothTo.bySys h.sys h.bud k
 obtain ⟨A, cap, ky, hk, h1, h2⟩ := h.two
 exact ⟨T.sys, T.bud, ⟨A, cap, T.blk h.sys ky (by decide) (by decide), T.kept h.sys hk, h1, h2⟩, h.lo, hI⟩
theorem CmI.fresh {V : Vm} {L : List Nd} {pg n f bk ev : Int} (h : CmI V L ⟨pg, n, f, bk, ev, 1, 0, [], false⟩) (p : Nat) : Go.Pol.kd V p ≠ 2 := by
 rcases h.st with ⟨_, h2⟩ | ⟨ho, _, hk, _⟩
 ·rw [h2]; decide
 ·have e := hk rfl p
  rw [e]
  by_cases hm : mem (p : Int) (runsL pg n f bk ev) = true
  ·rw [if_pos hm]
   have h1 := (idxF_rng (runsL pg n f bk ev) 0 p (runs_pos ho.plan) hm).1
   rw [if_neg]
   ·decide
   ·show ¬ ((decide ((idxF (p : Int) 0 (runsL pg n f bk ev)).1 < 0) || false) = true)
    simp
    omega
  ·rw [if_neg hm]
   split <;> decide
end Go.Pol
namespace Go.Proofs.YtjmmgoijnhnnaaaGreat
open Go Go.Proofs Go.RowKit Go.Pol Go.Shelf Go.ChangeShapes Go.WideShapes Go.Deep
attribute [local go_sem] Oper.semAt_some Go.Pol.wide_fn Go.Pol.wide_depth Go.Pol.wide_fn' Go.Pol.wide_depth'
theorem ac_hold {V : Vm} {L : List Nd} {r : Cr} (h : CmI V L r) (x : Int × Int) (hx : x.1 % 12 ≠ 8) : Hold V (acF (V, L, r) x).1 := by
 unfold acF
 dsimp only
 split
 ·exact Hold.grow h.pln _ _ _
 ·split
  ·exact Hold.refl V
  ·split
   ·unfold Go.Proofs.YtjmmgoijnhnnaaaGreat.purgeC
    split
    ·exact Hold.refl V
    ·split
     ·exact Hold.refl V
     ·dsimp only
      split <;> exact (Stay.bec _ _ _ _ _ (by decide)).hold
   ·split
    ·exact Hold.refl V
    ·split
     ·exact (Stay.close V L r).hold
     ·exact Hold.refl V
set_option maxRecDepth 100000 in
set_option maxHeartbeats 6400000 in
theorem bytesLaw_any (A1 A2 : Option Addr) (n1 c1 n2 c2 : Nat) (pg n f bk ev lim y0 y1 bv : Int) (us : List (Int × Int)) (w : World) (hul : us.length = n2) (hA2 : Rd w w.heap.size A2 (fl acC us))
  (hus : ∀ x ∈ us, 0 ≤ x.1 ∧ x.1 ≤ 255 ∧ -9223372036854775808 ≤ x.2 ∧ x.2 ≤ 9223372036854775807) (hy0 : 0 ≤ y0 ∧ y0 ≤ 255) (hy1 : 0 ≤ y1 ∧ y1 ≤ 255) :
  Calls Tryz.prog 3 #[.agg #[.int .i64 pg, .int .i64 n, .int .i64 f, .int .i64 bk, .int .i64 ev, .int .i64 lim, .slice A1 n1 c1, .slice A2 n2 c2], .agg #[.int .u8 y0, .int .u8 y1], .int .u8 bv] w fun e w' => e = .returned (.bool true) ∧ Below w.heap.size w w' := by
 have HFa := Lib.hid (fun W => far12_any A1 A2 n1 c1 n2 c2 pg n f bk ev lim W)
 have hb0 := (Below.refl w.heap.size w).alloc (Nat.le_refl _) (.cells #[.int .i64 pg, .int .i64 n, .int .i64 f, .int .i64 bk, .int .i64 ev, .int .i64 lim, .slice A1 n1 c1, .slice A2 n2 c2] 31)
 have k0 := Blk.new w 31 #[.int .i64 pg, .int .i64 n, .int .i64 f, .int .i64 bk, .int .i64 ev, .int .i64 lim, .slice A1 n1 c1, .slice A2 n2 c2]
 have hA2H := Lib.hid hA2
 have hulH := Lib.hid hul
 have husH := Lib.hid hus
 obtain ⟨s, hs⟩ : ∃ s, w.heap.size = s := ⟨_, rfl⟩
 rw [hs] at k0
 clear hA2 hul hus
 have hb0' := Lib.hid hb0
 by_cases hfar : ((decide (100 < n) || decide (30 < (n2 : Int))) || decide (60 < (n1 : Int))) = true
 ·rw [hfar] at HFa
  clear hfar
  go_enter Tryz.func3, Tryz.ntmps3
  go_upto_region 1 with fail
  have hz : (w.alloc (.cells #[.int .i64 pg, .int .i64 n, .int .i64 f, .int .i64 bk, .int .i64 ev, .int .i64 lim, .slice A1 n1 c1, .slice A2 n2 c2] 31)).heap.size = s + 1 := by simp [hs]
  generalize w.alloc _ = w0 at *
  have hba := (Below.refl w0.heap.size w0).alloc (Nat.le_refl _) (.cells #[.int .u8 y0, .int .u8 y1] 32)
  have ky := Blk.new w0 32 #[.int .u8 y0, .int .u8 y1]
  have k1 := k0.call hba
  have B1 := hb0.trans (hba.mono hb0.size)
  rw [hz] at ky
  generalize w0.alloc _ = w1 at *
  try simp only [hs, hz]
  have q0 := fun z : Ext w1 => z.cell (ky.cell 0)
  have q1 := fun z : Ext w1 => z.cell (ky.cell 1)
  refine region_ext (by kernel_rfl) (by kernel_rfl) ?_
  repeat (go_big_quiet_step (fail))
  refine wpQuiet_nil ?_
  rintro w2 ⟨⟨_, hw2⟩, rfl⟩
  have B2 := B1.trans (hw2.mono B1.size)
  have k2 := k1.call hw2
  have c2' := k2.cell
  clear k0 k1 hb0 hba ky q0 q1 hw2 B1
  go_wp2_with fail
  refine (HFa.out _).mono ?_
  rintro e w3 ⟨rfl, hb3⟩
  have B3 := B2.trans (hb3.mono B2.size)
  go_wp2_with fail
  refine (shown_any _).mono ?_
  rintro e w4 ⟨rfl, hb4⟩
  go_wp2_with fail
  go_ret
  exact ⟨rfl, B3.trans (hb4.mono B3.size)⟩
 have hfar' : ((decide (100 < n) || decide (30 < (n2 : Int))) || decide (60 < (n1 : Int))) = false := by simpa using hfar
 rw [hfar'] at HFa
 have hn2 : n2 ≤ 30 := by simp at hfar'; omega
 clear hfar hfar'
 have HPl := Lib.hid (fun W => played_any none A2 0 0 n2 c2 pg n f bk ev lim [] W rfl (by omega) (fun _ => rfl) (fun k hk => absurd hk (by simp [fl])))
 obtain ⟨m0, hm0⟩ : ∃ m, y0 % 50 = m := ⟨_, rfl⟩
 have tm0 : Int.tmod y0 50 = m0 := by rw [Int.tmod_eq_emod_of_nonneg hy0.1]; exact hm0
 have hm0r : 0 ≤ m0 ∧ m0 < 50 := by omega
 obtain ⟨m1, hm1⟩ : ∃ m, y1 % 64 = m := ⟨_, rfl⟩
 have tm1 : Int.tmod y1 64 = m1 := by rw [Int.tmod_eq_emod_of_nonneg hy1.1]; exact hm1
 have hm1r : 0 ≤ m1 ∧ m1 < 64 := by omega
 have HN := Lib.hid (fun W => refNth_any pg n f bk ev m0 W (nthC ⟨pg, n, f, bk, ev, 1, 0, [], false⟩ m0) rfl)
 have hng := Lib.hid (nthC_range (r := ⟨pg, n, f, bk, ev, 1, 0, [], false⟩) (i := m0))
 unfold planV at HN
 generalize nthC _ m0 = S at *
 obtain ⟨sp, se⟩ := S
 simp only at HN hng
 clear hm0 hm1
 go_enter Tryz.func3, Tryz.ntmps3
 go_upto_region 1 with fail
 have hz : (w.alloc (.cells #[.int .i64 pg, .int .i64 n, .int .i64 f, .int .i64 bk, .int .i64 ev, .int .i64 lim, .slice A1 n1 c1, .slice A2 n2 c2] 31)).heap.size = s + 1 := by simp [hs]
 generalize w.alloc _ = w0 at *
 have hba := (Below.refl w0.heap.size w0).alloc (Nat.le_refl _) (.cells #[.int .u8 y0, .int .u8 y1] 32)
 have ky := Blk.new w0 32 #[.int .u8 y0, .int .u8 y1]
 have k1 := k0.call hba
 have B1 := hb0.trans (hba.mono hb0.size)
 rw [hz] at ky
 generalize w0.alloc _ = w1 at *
 try simp only [hs, hz]
 have q0 := fun z : Ext w1 => z.cell (ky.cell 0)
 have q1 := fun z : Ext w1 => z.cell (ky.cell 1)
 refine region_ext (by kernel_rfl) (by kernel_rfl) ?_
 repeat (go_big_quiet_step (fail))
 refine wpQuiet_nil ?_
 rintro w2 ⟨⟨_, hw2⟩, rfl⟩
 have B2 := B1.trans (hw2.mono B1.size)
 have k2 := k1.call hw2
 have c2' := k2.cell
 clear k0 k1 hb0 hba ky q0 q1 hw2 B1
 go_wp2_with fail
 refine (HFa.out _).mono ?_
 rintro e w3 ⟨rfl, hb3⟩
 have B3 := B2.trans (hb3.mono B2.size)
 have k3 := k2.call hb3
 have c3' := k3.cell
 have f3' := k3.frozen
 clear B2 k2 c2' hb3 HFa
 go_upto_region 5 with fail
 have B4 := B3.setCell (p := ⟨s, 6, none⟩) (by show w.heap.size ≤ s; omega) (.slice none 0 0)
 have k4 := k3.set_ 6 (.slice none 0 0)
 generalize w3.setCell ⟨s, 6, none⟩ _ = w4 at *
 simp only [List.setIfInBounds_toArray, List.set_cons_zero, List.set_cons_succ] at k4
 have c4 := k4.cell
 clear B3 k3 c3' f3'
 go_wp2_with fail
 refine (HPl.out _).mono ?_
 rintro e w5 ⟨hcase, hb5⟩
 have B5 := B4.trans (hb5.mono B4.size)
 have k5 := k4.call hb5
 have hB4 := B4.size
 have hk4s := k4.lt
 have hb5s := hb5.size
 clear c4 k4 hb5 HPl B4
 rcases hcase with rfl | ⟨y, bs, bb, V, L, rfl, hP⟩
 ·go_wp2_with fail
  refine (shown_any _).mono ?_
  rintro e w6 ⟨rfl, hb6⟩
  go_wp2_with fail
  go_ret
  exact ⟨rfl, B5.trans (hb6.mono B5.size)⟩
 obtain ⟨N, hN⟩ : ∃ N, w4.heap.size = N := ⟨_, rfl⟩
 rw [hN] at hP hB4
 have hsN : s < N := by rw [← hN]; exact hk4s
 have hNw5 : N ≤ w5.heap.size := by rw [← hN]; exact hb5s
 clear hN hk4s hb5s
 have c5 := k5.cell
 go_wp2_with fail
 refine (HN.out _).mono ?_
 rintro e w6 ⟨rfl, hb6⟩
 have hP6 := hP.call hb6
 have B6 := B5.trans (hb6.mono B5.size)
 have k6 := k5.call hb6
 have hN6 := Nat.le_trans hNw5 hb6.size
 clear c5 k5 B5 hP hb6 hNw5 HN
 by_cases hse : se = 0
 case neg =>
  have d1 : (se != 0) = true := by simpa using hse
  clear hse
  go_wp2_with fail
  refine (shown_any _).mono ?_
  rintro e w7 ⟨rfl, hb7⟩
  go_wp2_with fail
  go_ret
  exact ⟨rfl, B6.trans (hb7.mono B6.size)⟩
 subst hse
 obtain ⟨hp0, hp1⟩ := hng.out rfl
 obtain ⟨P, rfl⟩ : ∃ P : Nat, sp = P := ⟨sp.toNat, by omega⟩
 obtain ⟨wh, hwh⟩ : ∃ wh : Int, (P : Int) * 64 + m1 = wh := ⟨_, rfl⟩
 have hwh2 : -9223372036854775808 ≤ (P : Int) * 64 ∧ (P : Int) * 64 ≤ 9223372036854775807 := by omega
 have hkn : Kn V P m1.toNat false 0 := hP6.inv.fresh P
 have hPr : P < 1024 := by omega
 clear hng hp0 hp1
 go_upto_region 15 with fail
 go_loopw [14, 15, 16] (fun u14 u15 u16 wr => ∃ (i : Nat) (V : Vm) (L : List Nd) (r : Cr) (kn : Bool) (wt : Int), u14 = .int .u8 wt ∧ u15 = .bool kn ∧ u16 = .int .i64 i ∧ i ≤ n2 ∧ PlyAt wr N y bs bb V L r ∧ Below w.heap.size w wr ∧ N ≤ wr.heap.size ∧ Blk wr s 31 #[.int .i64 pg, .int .i64 n, .int .i64 f, .int .i64 bk, .int .i64 ev, .int .i64 lim, .slice none 0 0, .slice A2 n2 c2] ∧ Kn V P m1.toNat kn wt) (fun _ _ u16 _ => n2 - (intOf u16).toNat)
 case atStart => exact ⟨0, V, L, _, false, 0, rfl, rfl, rfl, by omega, hP6, B6, hN6, k6, hkn⟩
 case round =>
  clear k6 B6 hP6 hN6 hkn
  obtain ⟨i, V, L, r, kn, wt, rfl, rfl, rfl, hi, hP, hB, hNw, kp, hkn⟩ := hrel
  have cp := kp.cell
  obtain ⟨A, cap, ky, hk, hlen, hmax⟩ := hP.two
  have cy := ky.cell
  by_cases hin : i < n2
  ·have d1 : decide ((i : Int) < (n2 : Int)) = true := by simpa using hin
   by_cases hrn : 0 < r.n
   ·have d2 : decide (0 < r.n) = true := by simpa using hrn
    obtain ⟨ab, ao, rfl, hab, hac⟩ := (hA2H.out).elem acC_len (by omega) (0, 0) (k := i) (by have := hulH.out; omega)
    have hx := husH.out (us.getD i (0, 0)) (getD_mem _ (by have := hulH.out; omega))
    generalize us.getD i (0, 0) = x at *
    obtain ⟨xa, xb⟩ := x
    have x0 := (hB.cell (p := ⟨ab, ao + i * 2 + 0, none⟩) hab).trans (hac 0 _ rfl)
    have x1 := (hB.cell (p := ⟨ab, ao + i * 2 + 1, none⟩) hab).trans (hac 1 _ rfl)
    simp only [Nat.add_zero] at x0
    simp only at hx
    have HA := Lib.hid (fun W h1 h2 => alone_any N y bs bb V L r xa xb W h1 h2 ⟨hx.1, hx.2.1⟩ hx.2.2.1 hx.2.2.2)
    have HW := Lib.hid (fun W h => write_any bs wh bv V W h)
    obtain ⟨m, hm12⟩ : ∃ m, xa % 12 = m := ⟨_, rfl⟩
    have ht : Int.tmod xa 12 = m := by rw [Int.tmod_eq_emod_of_nonneg hx.1]; exact hm12
    have hmH := Lib.hid hm12
    clear hac ky hk hm12
    go_upto_region 18 with fail
    have hba := (Below.refl wr.heap.size wr).alloc (Nat.le_refl _) (.cells #[.int .u8 xa, .int .i64 xb] 51)
    have kx := Blk.new wr 51 #[.int .u8 xa, .int .i64 xb]
    obtain ⟨bx, hbx⟩ : ∃ bx, wr.heap.size = bx := ⟨_, rfl⟩
    have hP1 := hP.call hba
    have kp1 := kp.call hba
    have B1 := hB.trans (hba.mono hB.size)
    have hN1 := Nat.le_trans hNw hba.size
    rw [hbx] at kx
    clear hP hB kp hNw cp cy hba hlen hmax
    generalize wr.alloc _ = w1 at *
    try simp only [hbx]
    obtain ⟨A, cap, ky1, hk1, hlen, hmax⟩ := hP1.two
    have cy1 := ky1.cell
    have cx := kx.cell
    have cp1 := kp1.cell
    clear ky1 hk1 hlen hmax hbx
    by_cases h8 : m = 8
    ·subst h8
     cases kn with
     | false =>
      go_wp2_with fail
      go_roundw
      case rel => exact ⟨i + 1, V, L, r, false, wt, rfl, rfl, by go_num, by omega, hP1, B1, hN1, kp1, hkn⟩
      case measure => simp [intOf]; omega
     | true =>
      obtain ⟨hwf, hkn2⟩ := Kn.write (v := bv) hPr hm1r hkn
      rw [hwh] at hwf hkn2
      have hknH := Lib.hid hkn2
      clear hkn hkn2
      have HW1 := HW.out w1 hP1.sys
      rw [hwf] at HW1
      clear hwf
      go_wp2_with fail
      refine HW1.mono ?_
      rintro e w2 ⟨rfl, h2⟩
      have hP2 := hP1.sysTo h2 (hP1.inv.write wh bv)
      have kp2 := h2.blk hP1.sys kp1 (by decide)
      have B2 := B1.trans (h2.2.below (by have := B1.size; omega) (fun k hk e => by have e : k = bs := e; have := hP1.lo; omega))
      have hN2 : N ≤ w2.heap.size := Nat.le_trans hN1 h2.2.size
      go_wp2_with fail
      go_roundw
      case rel => exact ⟨i + 1, _, L, r, true, bv, rfl, rfl, by go_num, by omega, hP2, B2, hN2, kp2, hknH.out⟩
      case measure => simp [intOf]; omega
    by_cases h9 : m = 9
    ·subst h9
     cases kn with
     | false =>
      go_wp2_with fail
      go_roundw
      case rel => exact ⟨i + 1, V, L, r, false, wt, rfl, rfl, by go_num, by omega, hP1, B1, hN1, kp1, hkn⟩
      case measure => simp [intOf]; omega
     | true =>
      obtain ⟨hwf, hkn2⟩ := Kn.write (v := bv) hPr hm1r hkn
      rw [hwh] at hwf hkn2
      have hknH := Lib.hid hkn2
      clear hkn hkn2
      have HW1 := HW.out w1 hP1.sys
      rw [hwf] at HW1
      clear hwf
      go_wp2_with fail
      refine HW1.mono ?_
      rintro e w2 ⟨rfl, h2⟩
      have hP2 := hP1.sysTo h2 (hP1.inv.write wh bv)
      have kp2 := h2.blk hP1.sys kp1 (by decide)
      have B2 := B1.trans (h2.2.below (by have := B1.size; omega) (fun k hk e => by have e : k = bs := e; have := hP1.lo; omega))
      have hN2 : N ≤ w2.heap.size := Nat.le_trans hN1 h2.2.size
      go_wp2_with fail
      go_roundw
      case rel => exact ⟨i + 1, _, L, r, true, bv, rfl, rfl, by go_num, by omega, hP2, B2, hN2, kp2, hknH.out⟩
      case measure => simp [intOf]; omega
    have e8 : (m == 8) = false := by simpa using h8
    have e9 : (m == 9) = false := by simpa using h9
    have hH := Lib.hid (ac_hold hP1.inv (xa, xb) (by show xa % 12 ≠ 8; rw [hmH.out]; exact h8))
    have HA' := Lib.hid (HA.out w1 hP1 hN1)
    have hPl := Lib.hid hP1.inv.pln
    clear h8 h9 HA HW hx hP1
    go_wp2_with fail
    refine HA'.out.mono ?_
    rintro e w2 ⟨⟨er, rfl⟩, hP2, hb2⟩
    have kp2 : Blk w2 s 31 _ := (hb2.block s hsN).trans kp1
    have B2 := B1.trans (hb2.mono (by omega))
    have hN2 : N ≤ w2.heap.size := Nat.le_trans hN1 hb2.size
    generalize acF (V, L, r) (xa, xb) = S at *
    have HR := read_any bs wh S.1 w2 hP2.sys
    have hwf := whF_at hPr hm1r S.1
    rw [hwh] at hwf
    rw [hwf, show (wh / 64).toNat = P by omega, show (wh % 64).toNat = m1.toNat by omega] at HR
    obtain ⟨A, cap, ky2, hk2, hlen, hmax⟩ := hP2.two
    have cy2 := ky2.cell
    have cp2 := kp2.cell
    clear ky2 hk2 hlen hmax kp1 cp1 cy1 cx kx HA' hwf hb2 B1 hN1
    by_cases hkd : Go.Pol.kd S.1 P = 2
    ·have hK2 := Lib.hid (Kn.hold hPl.out hkn hH.out hkd)
     rw [if_pos hkd, if_pos rfl, hK2.out.2] at HR
     clear hkd hPl hH
     cases kn with
     | true =>
      rw [if_pos rfl] at HR hK2
      go_wp2_with fail
      refine HR.mono ?_
      rintro e w3 ⟨rfl, hw3⟩
      replace hw3 := hw3.symm
      subst hw3
      go_wp2_with fail
      go_roundw
      case rel => exact ⟨i + 1, S.1, S.2.1, S.2.2, true, wt, rfl, rfl, by go_num, by omega, hP2, B2, hN2, kp2, hK2.out⟩
      case measure => simp [intOf]; omega
     | false =>
      rw [if_neg (by simp)] at HR hK2
      go_wp2_with fail
      refine HR.mono ?_
      rintro e w3 ⟨rfl, hw3⟩
      replace hw3 := hw3.symm
      subst hw3
      go_wp2_with fail
      go_roundw
      case rel => exact ⟨i + 1, S.1, S.2.1, S.2.2, true, 0, rfl, rfl, by go_num, by omega, hP2, B2, hN2, kp2, hK2.out⟩
      case measure => simp [intOf]; omega
    ·rw [if_neg hkd, if_neg (by decide)] at HR
     have hK2 : Hid (Kn S.1 P m1.toNat false wt) := Lib.hid (by unfold Kn; simpa using hkd)
     clear hkd hPl hH
     go_wp2_with fail
     refine HR.mono ?_
     rintro e w3 ⟨rfl, hw3⟩
     replace hw3 := hw3.symm
     subst hw3
     go_wp2_with fail
     go_roundw
     case rel => exact ⟨i + 1, S.1, S.2.1, S.2.2, false, wt, rfl, rfl, by go_num, by omega, hP2, B2, hN2, kp2, hK2.out⟩
     case measure => simp [intOf]; omega
   ·have d2 : decide (0 < r.n) = false := by simpa using hrn
    go_wp2_with fail
    refine (shown_any _).mono ?_
    rintro e w2 ⟨rfl, hb2⟩
    go_wp2_with fail
    go_ret
    exact ⟨rfl, hB.trans (hb2.mono hB.size)⟩
  ·have d1 : decide ((i : Int) < (n2 : Int)) = false := by simpa using hin
   go_wp2_with fail
   refine (shown_any _).mono ?_
   rintro e w2 ⟨rfl, hb2⟩
   go_wp2_with fail
   go_ret
   exact ⟨rfl, hB.trans (hb2.mono hB.size)⟩
end Go.Proofs.YtjmmgoijnhnnaaaGreat
