/- Walk: the law SpansLaws. -/
import Derived.Test.YtfmnlpgboolpmaaSSpecE
import Derived.Test.YtfmnlpgboolpmaaSWalkG
namespace Go.Proofs.Ytfmnlpgboolpmaa
open Go Go.Proofs Go.RowKit Go.Pol Go.Shelf

set_option maxRecDepth 100000 in
set_option maxHeartbeats 6400000 in
theorem lawsLaw_any (A1 A2 : Option Addr) (n1 c1 n2 c2 : Nat) (us vs : List Sp) (pv : Int) (w : World) (hn1 : us.length = n1) (hm1 : n1 ≤ c1) (hc1 : c1 ≤ maxLen) (hr1 : RU w w.heap.size A1 us) (hn2 : vs.length = n2) (hm2 : n2 ≤ c2) (hc2 : c2 ≤ maxLen) (hr2 : RU w w.heap.size A2 vs)
    (hz1 : A1 = none → c1 = 0) (hz2 : A2 = none → c2 = 0) (hpv : 0 ≤ pv ∧ pv ≤ 65535) :
    Calls Try.prog 16 #[.slice A1 n1 c1, .slice A2 n2 c2, .int .u16 pv] w fun e w' => e = .returned (.bool true) ∧ Below w.heap.size w w' := by
  by_cases hlen : 600 < n1
  · have hlen' : decide (600 < (n1 : Int)) = true := by simp; omega
    go_enter Try.func16, Try.ntmps16
    go_wp2_with fail
    refine (awake3_any _).mono ?_
    rintro e w2 ⟨rfl, hb2⟩
    go_wp2_with fail
    go_ret
    exact ⟨rfl, hb2⟩
  have hlen' : decide (600 < (n1 : Int)) = false := by simp; omega
  by_cases hlen2 : 600 < n2
  · have hlen2' : decide (600 < (n2 : Int)) = true := by simp; omega
    go_enter Try.func16, Try.ntmps16
    go_wp2_with fail
    refine (awake3_any _).mono ?_
    rintro e w2 ⟨rfl, hb2⟩
    go_wp2_with fail
    go_ret
    exact ⟨rfl, hb2⟩
  have hlen2' : decide (600 < (n2 : Int)) = false := by simp; omega
  have hb0 := (Below.refl w.heap.size w).alloc (Nat.le_refl _) (.cells #[.int .i64 0, .int .i64 1024] 40)
  have k0 := Blk.new w 40 #[.int .i64 0, .int .i64 1024]
  have s0 := hr1.on hb0
  have t0 := hr2.on hb0
  have m1 := Nat.le_trans hm1 hc1
  have m2 := Nat.le_trans hm2 hc2
  by_cases hz : chk2 us vs = 0
  case neg =>
    have H1 : Hid (∀ W, RU W W.heap.size A1 us → RU W W.heap.size A2 vs → Calls Try.prog 36 #[.slice A1 n1 c1, .slice A2 n2 c2] W (SpansL W (combF 1 us vs) (chk2 us vs))) := Lib.hid (fun W h1 h2 => by have h := unionT_any A1 A2 n1 c1 n2 c2 us vs W hn1 hm1 hc1 h1 hn2 hm2 hc2 h2 hz1 hz2; rw [union_eq] at h; exact h)
    have H3 : Hid (∀ W, RU W W.heap.size A1 us → RU W W.heap.size A2 vs → Calls Try.prog 35 #[.slice A1 n1 c1, .slice A2 n2 c2] W (SpansL W (combF 2 us vs) (chk2 us vs))) := Lib.hid (fun W h1 h2 => by have h := meet_any A1 A2 n1 c1 n2 c2 us vs W hn1 hm1 hc1 h1 hn2 hm2 hc2 h2; rw [meet_eq] at h; exact h.mono fun _ _ h => h.light)
    have H5 : Hid (∀ W, RU W W.heap.size A1 us → RU W W.heap.size A2 vs → Calls Try.prog 64 #[.slice A1 n1 c1, .slice A2 n2 c2] W (SpansL W (combF 3 us vs) (chk2 us vs))) := Lib.hid (fun W h1 h2 => by have h := minus_any A1 A2 n1 c1 n2 c2 us vs W hn1 hm1 hc1 h1 hn2 hm2 hc2 h2; rw [minus_eq] at h; exact h.mono fun _ _ h => h.light)
    unfold combF at H1 H3 H5
    simp only [if_neg hz] at H1 H3 H5
    unfold SpansL at H1 H3 H5
    simp only [List.length_nil] at H1 H3 H5
    generalize chk2 us vs = er at *
    have hz' : (er != 0) = true := by simpa using hz
    have x1 : (er == er) = true := by simp
    clear hz hr1 hr2 k0
    go_enter Try.func16, Try.ntmps16
    go_wp2_with fail
    refine (H1.out _ s0 t0).mono ?_
    rintro e w1 ⟨X1, d1, rfl, _, _, _, hb1⟩
    have B1 := hb0.trans (hb1.mono hb0.size)
    have s1 := s0.on hb1
    have t1 := t0.on hb1
    go_wp2_with fail
    refine (H3.out _ s1 t1).mono ?_
    rintro e w2 ⟨X2, d2, rfl, _, _, _, hb2⟩
    have B2 := B1.trans (hb2.mono B1.size)
    have s2 := s1.on hb2
    have t2 := t1.on hb2
    go_wp2_with fail
    refine (H5.out _ s2 t2).mono ?_
    rintro e w3 ⟨X3, d3, rfl, _, _, _, hb3⟩
    have B3 := B2.trans (hb3.mono B2.size)
    go_wp2_with fail
    refine (awake3_any _).mono ?_
    rintro e w4 ⟨rfl, hb4⟩
    go_wp2_with fail
    go_ret
    exact ⟨rfl, B3.trans (hb4.mono B3.size)⟩
  obtain ⟨cA, cB⟩ := chk2_zero hz
  have cU := comb_can 1 us vs
  have cM := comb_can 2 us vs
  have cD := comb_can 3 us vs
  have cX := all_can cA
  have cY := all_can cB
  have cZ := all_can cU
  have mU := Lib.hid (fun q => comb_mem (how := 1) hz rfl q)
  have mM := Lib.hid (fun q => comb_mem (how := 2) hz rfl q)
  have mD := Lib.hid (fun q => comb_mem (how := 3) hz rfl q)
  have mZ := Lib.hid (fun q => all_mem cU q)
  have eV := law_minus hz
  have eW := law_not hz
  have eK := law_join hz
  have eO := law_both hz
  have H1 : Hid (∀ W, RU W W.heap.size A1 us → RU W W.heap.size A2 vs → Calls Try.prog 36 #[.slice A1 n1 c1, .slice A2 n2 c2] W (SpansL W (combF 1 us vs) 0)) := Lib.hid (fun W h1 h2 => union_can cA cB rfl A1 A2 n1 c1 n2 c2 W hn1 hm1 hc1 h1 hn2 hm2 hc2 h2 hz1 hz2)
  have H2 : Hid (∀ W, RU W W.heap.size A1 us → RU W W.heap.size A2 vs → Calls Try.prog 35 #[.slice A1 n1 c1, .slice A2 n2 c2] W (SpansOwn W (combF 2 us vs) 0)) := Lib.hid (fun W h1 h2 => by
    have h := meet_own A1 A2 n1 c1 n2 c2 us vs W hn1 hm1 hc1 h1 hn2 hm2 hc2 h2
    rw [meet_eq, chkS_zero.2 cA, chkS_zero.2 cB, if_pos rfl] at h
    exact h)
  have H3 : Hid (∀ W, RU W W.heap.size A1 us → RU W W.heap.size A2 vs → Calls Try.prog 64 #[.slice A1 n1 c1, .slice A2 n2 c2] W (SpansL W (combF 3 us vs) 0)) := Lib.hid (fun W h1 h2 => by
    have h := minus_any A1 A2 n1 c1 n2 c2 us vs W hn1 hm1 hc1 h1 hn2 hm2 hc2 h2
    rw [minus_eq, chkS_zero.2 cA, chkS_zero.2 cB, if_pos rfl] at h
    exact h.mono fun _ _ h => h.light)
  generalize combF 1 us vs = U at *
  generalize combF 2 us vs = M at *
  generalize combF 3 us vs = D at *
  have N1 := Lib.hid (fun W h => not_can cA A1 n1 c1 W hn1 hm1 hc1 h)
  have N2 := Lib.hid (fun W h => not_can cB A2 n2 c2 W hn2 hm2 hc2 h)
  have N3 := Lib.hid (fun A cap W h1 h2 h3 => not_can cU A U.length cap W rfl h1 h2 h3)
  generalize allF us = X at *
  generalize allF vs = Y at *
  generalize allF U = Z at *
  clear hz hlen hlen2 hr1 hr2
  have P1 := Lib.hid (fun q hq W h => has_can cA (q := q) hq A1 n1 c1 W hn1 hm1 hc1 h)
  have P2 := Lib.hid (fun q hq W h => has_can cB (q := q) hq A2 n2 c2 W hn2 hm2 hc2 h)
  have P3 := Lib.hid (fun q hq A cap W h1 h2 h3 => has_can cU (q := q) hq A U.length cap W rfl h1 h2 h3)
  have P4 := Lib.hid (fun q hq A cap W h1 h2 h3 => has_can cM (q := q) hq A M.length cap W rfl h1 h2 h3)
  have P5 := Lib.hid (fun q hq A cap W h1 h2 h3 => has_can cD (q := q) hq A D.length cap W rfl h1 h2 h3)
  have P6 := Lib.hid (fun q hq A cap W h1 h2 h3 => has_can cZ (q := q) hq A Z.length cap W rfl h1 h2 h3)
  have G1 := Lib.hid (fun A cap W h1 h2 => check_can cU A U.length cap W rfl h1 h2)
  have G2 := Lib.hid (fun A cap W h1 h2 => check_can cM A M.length cap W rfl h1 h2)
  have G3 := Lib.hid (fun A cap W h1 h2 => check_can cD A D.length cap W rfl h1 h2)
  have G4 := Lib.hid (fun A cap W h1 h2 => check_can cZ A Z.length cap W rfl h1 h2)
  have Q1 := Lib.hid (fun A cap W h1 h2 h3 h4 => meet_can cA cY eV A1 A n1 c1 Y.length cap W hn1 hm1 hc1 h1 rfl h2 h3 h4)
  have Q2 := Lib.hid (fun A A' cap cap' W h1 h2 h3 h4 h5 h6 => meet_can cX cY eW A A' X.length cap Y.length cap' W rfl h1 h2 h3 rfl h4 h5 h6)
  have Q3 := Lib.hid (fun A cap W h1 h2 h3 h4 h5 => union_can cA cM eK A1 A n1 c1 M.length cap W hn1 hm1 hc1 h1 rfl h2 h3 h4 hz1 h5)
  have Q4 := Lib.hid (fun A cap W h1 h2 h3 h4 => meet_can cA cU eO A1 A n1 c1 U.length cap W hn1 hm1 hc1 h1 rfl h2 h3 h4)
  have hn1' := Lib.hid hn1
  clear eV eW eK eO cA cB cU cM cD cX cY cZ hz1 hz2 hn2 hm2 hc2 m2
  unfold SpansL at H1 H3 N1 N2 N3 Q3
  unfold SpansOwn at H2 Q1 Q2 Q4
  rw [hn1] at Q3 Q4
  obtain ⟨lU, hlU⟩ : ∃ l, U.length = l := ⟨_, rfl⟩
  obtain ⟨lM, hlM⟩ : ∃ l, M.length = l := ⟨_, rfl⟩
  obtain ⟨lD, hlD⟩ : ∃ l, D.length = l := ⟨_, rfl⟩
  obtain ⟨lX, hlX⟩ : ∃ l, X.length = l := ⟨_, rfl⟩
  obtain ⟨lY, hlY⟩ : ∃ l, Y.length = l := ⟨_, rfl⟩
  obtain ⟨lZ, hlZ⟩ : ∃ l, Z.length = l := ⟨_, rfl⟩
  rw [hlU] at H1 N3 P3 G1 Q4
  rw [hlM] at H2 P4 G2 Q3
  rw [hlD] at H3 P5 G3 Q1
  rw [hlX] at N1 Q2
  rw [hlY] at N2 Q1 Q2
  rw [hlZ] at N3 P6 G4 Q2
  replace hlD := Lib.hid hlD
  replace hlZ := Lib.hid hlZ
  clear hlU hlM hlX hlY hn1
  go_enter Try.func16, Try.ntmps16
  go_wp2_with fail
  refine (H1.out _ s0 t0).mono ?_
  rintro e W1 ⟨AU, aU, rfl, ru, iU, jU, hb1⟩
  have B1 := hb0.trans (hb1.mono hb0.size)
  have k1 := k0.call hb1
  have s1 := s0.on hb1
  have t1 := t0.on hb1
  clear hb0 hb1 k0 s0 t0
  go_wp2_with fail
  refine (H2.out _ s1 t1).mono ?_
  rintro e W2 ⟨AM, aM, rfl, rm, iM, jM, _, hb2, hzM⟩
  have B2 := B1.trans (hb2.mono B1.size)
  have k2 := k1.call hb2
  have s2 := s1.on hb2
  have t2 := t1.on hb2
  have u2 := ru.on hb2
  clear B1 hb2 k1 s1 t1 ru
  go_wp2_with fail
  refine (H3.out _ s2 t2).mono ?_
  rintro e W3 ⟨AD, aD, rfl, rd, iD, jD, hb3⟩
  have B3 := B2.trans (hb3.mono B2.size)
  have k3 := k2.call hb3
  have s3 := s2.on hb3
  have t3 := t2.on hb3
  have u3 := u2.on hb3
  have m3 := rm.on hb3
  clear B2 hb3 k2 s2 t2 u2 rm
  have cc3 := k3.cell
  go_wp2_with fail
  refine (N1.out _ s3).mono ?_
  rintro e W4 ⟨AX, aX, rfl, rx, iX, jX, hb4⟩
  have B4 := B3.trans (hb4.mono B3.size)
  have k4 := k3.call hb4
  have s4 := s3.on hb4
  have t4 := t3.on hb4
  have u4 := u3.on hb4
  have m4 := m3.on hb4
  have d4 := rd.on hb4
  clear B3 hb4 k3 s3 t3 u3 m3 rd
  have cc4 := k4.cell
  go_wp2_with fail
  refine (N2.out _ t4).mono ?_
  rintro e W5 ⟨AY, aY, rfl, ry, iY, jY, hb5⟩
  have B5 := B4.trans (hb5.mono B4.size)
  have k5 := k4.call hb5
  have s5 := s4.on hb5
  have t5 := t4.on hb5
  have u5 := u4.on hb5
  have m5 := m4.on hb5
  have d5 := d4.on hb5
  have x5 := rx.on hb5
  clear B4 hb5 k4 s4 t4 u4 m4 d4 rx
  have cc5 := k5.cell
  go_wp2_with fail
  refine (N3.out _ _ _ iU jU u5).mono ?_
  rintro e W6 ⟨AZ, aZ, rfl, rz, iZ, jZ, hb6⟩
  have B6 := B5.trans (hb6.mono B5.size)
  have k6 := k5.call hb6
  have s6 := s5.on hb6
  have t6 := t5.on hb6
  have u6 := u5.on hb6
  have m6 := m5.on hb6
  have d6 := d5.on hb6
  have x6 := x5.on hb6
  have y6 := ry.on hb6
  clear B5 hb6 k5 s5 t5 u5 m5 d5 x5 ry
  clear k6
  go_wp2_with fail
  refine (G1.out _ _ _ (Nat.le_trans iU jU) u6).mono ?_
  rintro e W7 ⟨rfl, hb7⟩
  have B7 := B6.trans (hb7.mono B6.size)
  have s7 := s6.on hb7
  have t7 := t6.on hb7
  have u7 := u6.on hb7
  have m7 := m6.on hb7
  have d7 := d6.on hb7
  have x7 := x6.on hb7
  have y7 := y6.on hb7
  have z7 := rz.on hb7
  clear B6 hb7 s6 t6 u6 m6 d6 x6 y6 rz
  go_wp2_with fail
  refine (G2.out _ _ _ (Nat.le_trans iM jM) m7).mono ?_
  rintro e W8 ⟨rfl, hb8⟩
  have B8 := B7.trans (hb8.mono B7.size)
  have s8 := s7.on hb8
  have t8 := t7.on hb8
  have u8 := u7.on hb8
  have m8 := m7.on hb8
  have d8 := d7.on hb8
  have x8 := x7.on hb8
  have y8 := y7.on hb8
  have z8 := z7.on hb8
  clear B7 hb8 s7 t7 u7 m7 d7 x7 y7 z7
  go_wp2_with fail
  refine (G3.out _ _ _ (Nat.le_trans iD jD) d8).mono ?_
  rintro e W9 ⟨rfl, hb9⟩
  have B9 := B8.trans (hb9.mono B8.size)
  have s9 := s8.on hb9
  have t9 := t8.on hb9
  have u9 := u8.on hb9
  have m9 := m8.on hb9
  have d9 := d8.on hb9
  have x9 := x8.on hb9
  have y9 := y8.on hb9
  have z9 := z8.on hb9
  clear B8 hb9 s8 t8 u8 m8 d8 x8 y8 z8
  go_wp2_with fail
  refine (G4.out _ _ _ (Nat.le_trans iZ jZ) z9).mono ?_
  rintro e W10 ⟨rfl, hb10⟩
  have B10 := B9.trans (hb10.mono B9.size)
  have s10 := s9.on hb10
  have t10 := t9.on hb10
  have u10 := u9.on hb10
  have m10 := m9.on hb10
  have d10 := d9.on hb10
  have x10 := x9.on hb10
  have y10 := y9.on hb10
  have z10 := z9.on hb10
  clear B9 hb10 s9 t9 u9 m9 d9 x9 y9 z9
  go_upto_region 15 with fail
  have kq := Blk.new W10 40 #[.int .i64 (pv % 1024), .int .i64 1]
  have hbq := (Below.refl W10.heap.size W10).alloc (Nat.le_refl _) (.cells #[.int .i64 (pv % 1024), .int .i64 1] 40)
  have hq0 : 0 ≤ pv % 1024 := Int.emod_nonneg _ (by omega)
  have hq1 : pv % 1024 < 1024 := Int.emod_lt_of_pos _ (by omega)
  generalize pv % 1024 = q at *
  have Bq := B10.trans (hbq.mono B10.size)
  have sq := s10.on hbq
  have tq := t10.on hbq
  have uq := u10.on hbq
  have mq := m10.on hbq
  have dq := d10.on hbq
  have xq := x10.on hbq
  have yq := y10.on hbq
  have zq := z10.on hbq
  clear B10 s10 t10 u10 m10 d10 x10 y10 z10 hbq G1 G2 G3 G4
  generalize W10.alloc (.cells #[.int .i64 q, .int .i64 1] 40) = Wq at *
  have p1 := Lib.hid (fun W h => P1.out q ⟨hq0, hq1⟩ W h)
  have p2 := Lib.hid (fun W h => P2.out q ⟨hq0, hq1⟩ W h)
  have p3 := Lib.hid (fun A cap W h1 h2 h3 => P3.out q ⟨hq0, hq1⟩ A cap W h1 h2 h3)
  have p4 := Lib.hid (fun A cap W h1 h2 h3 => P4.out q ⟨hq0, hq1⟩ A cap W h1 h2 h3)
  have p5 := Lib.hid (fun A cap W h1 h2 h3 => P5.out q ⟨hq0, hq1⟩ A cap W h1 h2 h3)
  have p6 := Lib.hid (fun A cap W h1 h2 h3 => P6.out q ⟨hq0, hq1⟩ A cap W h1 h2 h3)
  have eU : mem q U = (mem q us || mem q vs) := mU.out q
  have eM : mem q M = (mem q us && mem q vs) := mM.out q
  have eD : mem q D = (mem q us && !mem q vs) := mD.out q
  have eZ : mem q Z = !(mem q us || mem q vs) := by rw [mZ.out q, decide_eq_true ⟨hq0, hq1⟩, Bool.true_and, eU]
  rw [eU] at p3
  rw [eM] at p4
  rw [eD] at p5
  rw [eZ] at p6
  clear P1 P2 P3 P4 P5 P6 mU mM mD mZ eU eM eD eZ
  generalize mem q us = ba at *
  generalize mem q vs = bb at *
  have cc20 := kq.cell
  go_wp2_with fail
  refine (p1.out _ sq).mono ?_
  rintro e W21 ⟨rfl, hb21⟩
  have B21 := Bq.trans (hb21.mono Bq.size)
  have k21 := kq.call hb21
  have s21 := sq.on hb21
  have t21 := tq.on hb21
  have u21 := uq.on hb21
  have m21 := mq.on hb21
  have d21 := dq.on hb21
  have x21 := xq.on hb21
  have y21 := yq.on hb21
  have z21 := zq.on hb21
  clear Bq hb21 kq sq tq uq mq dq xq yq zq
  have cc21 := k21.cell
  go_wp2_with fail
  refine (p2.out _ t21).mono ?_
  rintro e W22 ⟨rfl, hb22⟩
  have B22 := B21.trans (hb22.mono B21.size)
  have k22 := k21.call hb22
  have s22 := s21.on hb22
  have t22 := t21.on hb22
  have u22 := u21.on hb22
  have m22 := m21.on hb22
  have d22 := d21.on hb22
  have x22 := x21.on hb22
  have y22 := y21.on hb22
  have z22 := z21.on hb22
  clear B21 hb22 k21 s21 t21 u21 m21 d21 x21 y21 z21
  have cc22 := k22.cell
  go_wp2_with fail
  refine (p3.out _ _ _ iU jU u22).mono ?_
  rintro e W23 ⟨rfl, hb23⟩
  have B23 := B22.trans (hb23.mono B22.size)
  have k23 := k22.call hb23
  have s23 := s22.on hb23
  have t23 := t22.on hb23
  have u23 := u22.on hb23
  have m23 := m22.on hb23
  have d23 := d22.on hb23
  have x23 := x22.on hb23
  have y23 := y22.on hb23
  have z23 := z22.on hb23
  clear B22 hb23 k22 s22 t22 u22 m22 d22 x22 y22 z22
  have cc23 := k23.cell
  go_wp2_with fail
  refine (p4.out _ _ _ iM jM m23).mono ?_
  rintro e W24 ⟨rfl, hb24⟩
  have B24 := B23.trans (hb24.mono B23.size)
  have k24 := k23.call hb24
  have s24 := s23.on hb24
  have t24 := t23.on hb24
  have u24 := u23.on hb24
  have m24 := m23.on hb24
  have d24 := d23.on hb24
  have x24 := x23.on hb24
  have y24 := y23.on hb24
  have z24 := z23.on hb24
  clear B23 hb24 k23 s23 t23 u23 m23 d23 x23 y23 z23
  have cc24 := k24.cell
  go_wp2_with fail
  refine (p5.out _ _ _ iD jD d24).mono ?_
  rintro e W25 ⟨rfl, hb25⟩
  have B25 := B24.trans (hb25.mono B24.size)
  have k25 := k24.call hb25
  have s25 := s24.on hb25
  have t25 := t24.on hb25
  have u25 := u24.on hb25
  have m25 := m24.on hb25
  have d25 := d24.on hb25
  have x25 := x24.on hb25
  have y25 := y24.on hb25
  have z25 := z24.on hb25
  clear B24 hb25 k24 s24 t24 u24 m24 d24 x24 y24 z24
  have cc25 := k25.cell
  go_wp2_with fail
  refine (p6.out _ _ _ iZ jZ z25).mono ?_
  rintro e W26 ⟨rfl, hb26⟩
  have B26 := B25.trans (hb26.mono B25.size)
  have k26 := k25.call hb26
  have s26 := s25.on hb26
  have t26 := t25.on hb26
  have u26 := u25.on hb26
  have m26 := m25.on hb26
  have d26 := d25.on hb26
  have x26 := x25.on hb26
  have y26 := y25.on hb26
  have z26 := z25.on hb26
  clear B25 hb26 k25 s25 t25 u25 m25 d25 x25 y25 z25
  clear k26 p1 p2 p3 p4 p5 p6
  cases ba <;> cases bb
  all_goals
    go_wp2_with fail
    refine (Q1.out _ _ _ s26 iY jY y26).mono ?_
    rintro e W27 ⟨V1, v1, rfl, rv, iV, jV, _, hb27, hzw⟩
    have B27 := B26.trans (hb27.mono B26.size)
    have s27 := s26.on hb27
    have t27 := t26.on hb27
    have u27 := u26.on hb27
    have m27 := m26.on hb27
    have d27 := d26.on hb27
    have x27 := x26.on hb27
    have y27 := y26.on hb27
    have z27 := z26.on hb27
    clear B26 hb27 s26 t26 u26 m26 d26 x26 y26 z26
    go_wp2_with fail
    refine (Q2.out _ _ _ _ _ iX jX x27 iY jY y27).mono ?_
    rintro e W28 ⟨V2, v2, rfl, rw_, iW, jW, _, hb28, hzw⟩
    have B28 := B27.trans (hb28.mono B27.size)
    have s28 := s27.on hb28
    have t28 := t27.on hb28
    have u28 := u27.on hb28
    have m28 := m27.on hb28
    have d28 := d27.on hb28
    have x28 := x27.on hb28
    have y28 := y27.on hb28
    have z28 := z27.on hb28
    have v28 := rv.on hb28
    clear B27 hb28 s27 t27 u27 m27 d27 x27 y27 z27 rv
    go_wp2_with fail
    refine (Q3.out _ _ _ s28 iM jM m28 hzM).mono ?_
    rintro e W29 ⟨V3, v3, rfl, rk, iK, jK, hb29⟩
    have B29 := B28.trans (hb29.mono B28.size)
    have s29 := s28.on hb29
    have t29 := t28.on hb29
    have u29 := u28.on hb29
    have m29 := m28.on hb29
    have d29 := d28.on hb29
    have x29 := x28.on hb29
    have y29 := y28.on hb29
    have z29 := z28.on hb29
    have v29 := v28.on hb29
    have g29 := rw_.on hb29
    clear B28 hb29 s28 t28 u28 m28 d28 x28 y28 z28 v28 rw_
    go_wp2_with fail
    refine (Q4.out _ _ _ s29 iU jU u29).mono ?_
    rintro e W30 ⟨V4, v4, rfl, ro, iO, jO, _, hb30, hzw⟩
    have B30 := B29.trans (hb30.mono B29.size)
    have s30 := s29.on hb30
    have t30 := t29.on hb30
    have u30 := u29.on hb30
    have m30 := m29.on hb30
    have d30 := d29.on hb30
    have x30 := x29.on hb30
    have y30 := y29.on hb30
    have z30 := z29.on hb30
    have v30 := v29.on hb30
    have g30 := g29.on hb30
    have h30 := rk.on hb30
    clear B29 hb30 s29 t29 u29 m29 d29 x29 y29 z29 v29 g29 rk
    have HS := Lib.hid (sameT_any V1 AD lD v1 aD D D _ hlD.out (Nat.le_trans iV jV) rfl v30 d30)
    go_wp2_with fail
    refine (HS.out).mono ?_
    rintro e W31 ⟨rfl, hb31⟩
    have B31 := B30.trans (hb31.mono B30.size)
    have s31 := s30.on hb31
    have t31 := t30.on hb31
    have u31 := u30.on hb31
    have m31 := m30.on hb31
    have d31 := d30.on hb31
    have x31 := x30.on hb31
    have y31 := y30.on hb31
    have z31 := z30.on hb31
    have v31 := v30.on hb31
    have g31 := g30.on hb31
    have h31 := h30.on hb31
    have o31 := ro.on hb31
    clear B30 hb31 s30 t30 u30 m30 d30 x30 y30 z30 v30 g30 h30 ro
    clear HS
    have HS := Lib.hid (sameT_any V2 AZ lZ v2 aZ Z Z _ hlZ.out (Nat.le_trans iW jW) rfl g31 z31)
    go_wp2_with fail
    refine (HS.out).mono ?_
    rintro e W32 ⟨rfl, hb32⟩
    have B32 := B31.trans (hb32.mono B31.size)
    have s32 := s31.on hb32
    have t32 := t31.on hb32
    have u32 := u31.on hb32
    have m32 := m31.on hb32
    have d32 := d31.on hb32
    have x32 := x31.on hb32
    have y32 := y31.on hb32
    have z32 := z31.on hb32
    have v32 := v31.on hb32
    have g32 := g31.on hb32
    have h32 := h31.on hb32
    have o32 := o31.on hb32
    clear B31 hb32 s31 t31 u31 m31 d31 x31 y31 z31 v31 g31 h31 o31
    clear HS
    have HS := Lib.hid (sameT_any V3 A1 n1 v3 c1 us us _ hn1'.out (Nat.le_trans iK jK) rfl h32 s32)
    go_wp2_with fail
    refine (HS.out).mono ?_
    rintro e W33 ⟨rfl, hb33⟩
    have B33 := B32.trans (hb33.mono B32.size)
    have s33 := s32.on hb33
    have t33 := t32.on hb33
    have u33 := u32.on hb33
    have m33 := m32.on hb33
    have d33 := d32.on hb33
    have x33 := x32.on hb33
    have y33 := y32.on hb33
    have z33 := z32.on hb33
    have v33 := v32.on hb33
    have g33 := g32.on hb33
    have h33 := h32.on hb33
    have o33 := o32.on hb33
    clear B32 hb33 s32 t32 u32 m32 d32 x32 y32 z32 v32 g32 h32 o32
    clear HS
    have HS := Lib.hid (sameT_any V4 A1 n1 v4 c1 us us _ hn1'.out (Nat.le_trans iO jO) rfl o33 s33)
    go_wp2_with fail
    refine (HS.out).mono ?_
    rintro e W34 ⟨rfl, hb34⟩
    have B34 := B33.trans (hb34.mono B33.size)
    have s34 := s33.on hb34
    have t34 := t33.on hb34
    have u34 := u33.on hb34
    have m34 := m33.on hb34
    have d34 := d33.on hb34
    have x34 := x33.on hb34
    have y34 := y33.on hb34
    have z34 := z33.on hb34
    have v34 := v33.on hb34
    have g34 := g33.on hb34
    have h34 := h33.on hb34
    have o34 := o33.on hb34
    clear B33 hb34 s33 t33 u33 m33 d33 x33 y33 z33 v33 g33 h33 o33
    clear HS
    go_wp2_with fail
    refine (awake3_any _).mono ?_
    rintro e wz ⟨rfl, hbz⟩
    go_wp2_with fail
    go_ret
    exact ⟨rfl, B34.trans (hbz.mono B34.size)⟩
end Go.Proofs.Ytfmnlpgboolpmaa
