/- Walk: the law SpansSets. -/
import Derived.Test.YtfmnlpgboolpmaaSWalkJ
import Derived.Test.YtfmnlpgboolpmaaSWalkG
namespace Go.Proofs.Ytfmnlpgboolpmaa
open Go Go.Proofs Go.RowKit Go.Pol Go.Shelf

set_option maxRecDepth 100000 in
set_option maxHeartbeats 1600000 in
theorem setsLaw3_any (A1 A2 : Option Addr) (n1 c1 n2 c2 : Nat) (us vs : List Sp) (p q : Int) (w : World) (hn1 : us.length = n1) (hm1 : n1 ≤ c1) (hc1 : c1 ≤ maxLen) (hr1 : RU w w.heap.size A1 us) (hn2 : vs.length = n2) (hm2 : n2 ≤ c2) (hc2 : c2 ≤ maxLen) (hr2 : RU w w.heap.size A2 vs)
    (hz1 : A1 = none → c1 = 0) (hz2 : A2 = none → c2 = 0) :
    Calls Try.prog 15 #[.slice A1 n1 c1, .slice A2 n2 c2, .agg #[.int .i64 p, .int .i64 q]] w fun e w' => e = .returned (.bool true) ∧ Below w.heap.size w w' := by
  have HL1 := Lib.hid (fun W => long_any A1 n1 c1 W (Nat.le_trans hm1 hc1))
  have HL2 := Lib.hid (fun W => long_any A2 n2 c2 W (Nat.le_trans hm2 hc2))
  have hb0 := (Below.refl w.heap.size w).alloc (Nat.le_refl _) (.cells #[.int .i64 p, .int .i64 q] 40)
  have k0 := Blk.new w 40 #[.int .i64 p, .int .i64 q]
  have s0 := hr1.on hb0
  have t0 := hr2.on hb0
  by_cases hlen : 2100 < n1
  · rw [decide_eq_true hlen] at HL1
    go_enter Try.func15, Try.ntmps15
    go_wp2_with fail
    refine (HL1.out _).mono ?_
    rintro e w1 ⟨rfl, rfl⟩
    go_wp2_with fail
    refine (awake3_any _).mono ?_
    rintro e w2 ⟨rfl, hb2⟩
    go_wp2_with fail
    go_ret
    exact ⟨rfl, hb0.trans (hb2.mono hb0.size)⟩
  rw [decide_eq_false hlen] at HL1
  by_cases hlen2 : 2100 < n2
  · rw [decide_eq_true hlen2] at HL2
    go_enter Try.func15, Try.ntmps15
    go_wp2_with fail
    refine (HL1.out _).mono ?_
    rintro e w1 ⟨rfl, rfl⟩
    go_wp2_with fail
    refine (HL2.out _).mono ?_
    rintro e w1 ⟨rfl, rfl⟩
    go_wp2_with fail
    refine (awake3_any _).mono ?_
    rintro e w2 ⟨rfl, hb2⟩
    go_wp2_with fail
    go_ret
    exact ⟨rfl, hb0.trans (hb2.mono hb0.size)⟩
  rw [decide_eq_false hlen2] at HL2
  have m1 := Nat.le_trans hm1 hc1
  have m2 := Nat.le_trans hm2 hc2
  have H1 : Hid (∀ W, RU W W.heap.size A1 us → RU W W.heap.size A2 vs → Calls Try.prog 36 #[.slice A1 n1 c1, .slice A2 n2 c2] W (SpansL W (combF 1 us vs) (chk2 us vs))) := Lib.hid (fun W h1 h2 => by have h := unionT_any A1 A2 n1 c1 n2 c2 us vs W hn1 hm1 hc1 h1 hn2 hm2 hc2 h2 hz1 hz2; rw [union_eq] at h; exact h)
  have H2 : Hid (∀ W, RU W W.heap.size A1 us → RU W W.heap.size A2 vs → Calls Try.prog 62 #[.slice A1 n1 c1, .slice A2 n2 c2] W (SpansL W (combF 1 us vs) (chk2 us vs))) := Lib.hid (fun W h1 h2 => (rUnion_any A1 A2 n1 c1 n2 c2 us vs W hn1 m1 h1 hn2 m2 h2).mono fun _ _ h => h.light)
  have H3 : Hid (∀ W, RU W W.heap.size A1 us → RU W W.heap.size A2 vs → Calls Try.prog 35 #[.slice A1 n1 c1, .slice A2 n2 c2] W (SpansL W (combF 2 us vs) (chk2 us vs))) := Lib.hid (fun W h1 h2 => by have h := meet_any A1 A2 n1 c1 n2 c2 us vs W hn1 hm1 hc1 h1 hn2 hm2 hc2 h2; rw [meet_eq] at h; exact h.mono fun _ _ h => h.light)
  have H4 : Hid (∀ W, RU W W.heap.size A1 us → RU W W.heap.size A2 vs → Calls Try.prog 63 #[.slice A1 n1 c1, .slice A2 n2 c2] W (SpansL W (combF 2 us vs) (chk2 us vs))) := Lib.hid (fun W h1 h2 => (rMeet_any A1 A2 n1 c1 n2 c2 us vs W hn1 m1 h1 hn2 m2 h2).mono fun _ _ h => h.light)
  have H5 : Hid (∀ W, RU W W.heap.size A1 us → RU W W.heap.size A2 vs → Calls Try.prog 64 #[.slice A1 n1 c1, .slice A2 n2 c2] W (SpansL W (combF 3 us vs) (chk2 us vs))) := Lib.hid (fun W h1 h2 => by have h := minus_any A1 A2 n1 c1 n2 c2 us vs W hn1 hm1 hc1 h1 hn2 hm2 hc2 h2; rw [minus_eq] at h; exact h.mono fun _ _ h => h.light)
  have H6 : Hid (∀ W, RU W W.heap.size A1 us → RU W W.heap.size A2 vs → Calls Try.prog 65 #[.slice A1 n1 c1, .slice A2 n2 c2] W (SpansL W (combF 3 us vs) (chk2 us vs))) := Lib.hid (fun W h1 h2 => (rMinus_any A1 A2 n1 c1 n2 c2 us vs W hn1 m1 h1 hn2 m2 h2).mono fun _ _ h => h.light)
  have H7 : Hid (∀ W, RU W W.heap.size A1 us → Calls Try.prog 66 #[.slice A1 n1 c1, .agg #[.int .i64 p, .int .i64 q]] W (SpansL W (notF us (p, q)) (askS us (p, q)))) := Lib.hid (fun W h1 => by have h := not_any A1 n1 c1 us p q W hn1 hm1 hc1 h1; rw [not_eq] at h; exact h.mono fun _ _ h => h.light)
  have H8 := Lib.hid (fun W h1 => rNot_any A1 n1 c1 us p q W hn1 m1 h1)
  clear hn1 hn2 hm1 hm2 hc1 hc2 hz1 hz2 hr1 hr2 m1 m2
  generalize combF 1 us vs = R1 at *
  generalize combF 2 us vs = R2 at *
  generalize combF 3 us vs = R3 at *
  generalize notF us (p, q) = R4 at *
  generalize chk2 us vs = e1 at *
  generalize askS us (p, q) = e2 at *
  unfold SpansL at H1 H2 H3 H4 H5 H6 H7 H8
  have x1 : (e1 != e1) = false := by simp
  have x2 : (e1 == e1) = true := by simp
  have x3 : (e2 == e2) = true := by simp
  obtain ⟨l1, hl1⟩ : ∃ l1, R1.length = l1 := ⟨_, rfl⟩
  obtain ⟨l2, hl2⟩ : ∃ l2, R2.length = l2 := ⟨_, rfl⟩
  obtain ⟨l3, hl3⟩ : ∃ l3, R3.length = l3 := ⟨_, rfl⟩
  obtain ⟨l4, hl4⟩ : ∃ l4, R4.length = l4 := ⟨_, rfl⟩
  rw [hl1] at H1 H2
  rw [hl2] at H3 H4
  rw [hl3] at H5 H6
  rw [hl4] at H7 H8
  replace hl1 := Lib.hid hl1
  replace hl2 := Lib.hid hl2
  replace hl3 := Lib.hid hl3
  replace hl4 := Lib.hid hl4
  go_enter Try.func15, Try.ntmps15
  go_wp2_with fail
  refine (HL1.out _).mono ?_
  rintro e w1 ⟨rfl, rfl⟩
  go_wp2_with fail
  refine (HL2.out _).mono ?_
  rintro e w1 ⟨rfl, rfl⟩
  go_wp2_with fail
  refine (H1.out _ s0 t0).mono ?_
  rintro e W1 ⟨X1, x1, rfl, u1, i1, j1, hb1⟩
  have B1 := hb0.trans (hb1.mono hb0.size)
  have k1 := k0.call hb1
  have s1 := s0.on hb1
  have t1 := t0.on hb1
  clear hb1 k0 s0 t0
  go_wp2_with fail
  refine (H2.out _ s1 t1).mono ?_
  rintro e W2 ⟨Y1, y1, rfl, v1, _, _, hb2⟩
  have B2 := B1.trans (hb2.mono B1.size)
  have k2 := k1.call hb2
  have s2 := s1.on hb2
  have t2 := t1.on hb2
  have u1_2 := u1.on hb2
  clear B1 hb2 k1 s1 t1 u1
  have HS1 := Lib.hid (sameT_any X1 Y1 l1 x1 y1 R1 R1 _ hl1.out (Nat.le_trans i1 j1) rfl u1_2 v1)
  go_wp2_with fail
  refine (HS1.out).mono ?_
  rintro e W3 ⟨rfl, hb3⟩
  have B3 := B2.trans (hb3.mono B2.size)
  have k3 := k2.call hb3
  have s3 := s2.on hb3
  have t3 := t2.on hb3
  clear B2 hb3 k2 s2 t2
  go_wp2_with fail
  refine (H3.out _ s3 t3).mono ?_
  rintro e W4 ⟨X2, x2, rfl, u2, i2, j2, hb4⟩
  have B4 := B3.trans (hb4.mono B3.size)
  have k4 := k3.call hb4
  have s4 := s3.on hb4
  have t4 := t3.on hb4
  clear B3 hb4 k3 s3 t3
  go_wp2_with fail
  refine (H4.out _ s4 t4).mono ?_
  rintro e W5 ⟨Y2, y2, rfl, v2, _, _, hb5⟩
  have B5 := B4.trans (hb5.mono B4.size)
  have k5 := k4.call hb5
  have s5 := s4.on hb5
  have t5 := t4.on hb5
  have u2_5 := u2.on hb5
  clear B4 hb5 k4 s4 t4 u2
  have HS2 := Lib.hid (sameT_any X2 Y2 l2 x2 y2 R2 R2 _ hl2.out (Nat.le_trans i2 j2) rfl u2_5 v2)
  go_wp2_with fail
  refine (HS2.out).mono ?_
  rintro e W6 ⟨rfl, hb6⟩
  have B6 := B5.trans (hb6.mono B5.size)
  have k6 := k5.call hb6
  have s6 := s5.on hb6
  have t6 := t5.on hb6
  clear B5 hb6 k5 s5 t5
  go_wp2_with fail
  refine (H5.out _ s6 t6).mono ?_
  rintro e W7 ⟨X3, x3, rfl, u3, i3, j3, hb7⟩
  have B7 := B6.trans (hb7.mono B6.size)
  have k7 := k6.call hb7
  have s7 := s6.on hb7
  have t7 := t6.on hb7
  clear B6 hb7 k6 s6 t6
  go_wp2_with fail
  refine (H6.out _ s7 t7).mono ?_
  rintro e W8 ⟨Y3, y3, rfl, v3, _, _, hb8⟩
  have B8 := B7.trans (hb8.mono B7.size)
  have k8 := k7.call hb8
  have s8 := s7.on hb8
  have t8 := t7.on hb8
  have u3_8 := u3.on hb8
  clear B7 hb8 k7 s7 t7 u3
  have z8 := k8.cell
  go_wp2_with fail
  refine (H7.out _ s8).mono ?_
  rintro e W9 ⟨X4, x4, rfl, u4, i4, j4, hb9⟩
  have B9 := B8.trans (hb9.mono B8.size)
  have k9 := k8.call hb9
  have s9 := s8.on hb9
  have t9 := t8.on hb9
  have u3_9 := u3_8.on hb9
  have v3_9 := v3.on hb9
  clear B8 hb9 k8 s8 t8 u3_8 v3
  have z9 := k9.cell
  go_wp2_with fail
  refine (H8.out _ s9).mono ?_
  rintro e W10 ⟨Y4, y4, rfl, v4, _, _, hb10⟩
  have B10 := B9.trans (hb10.mono B9.size)
  have k10 := k9.call hb10
  have s10 := s9.on hb10
  have t10 := t9.on hb10
  have u3_10 := u3_9.on hb10
  have v3_10 := v3_9.on hb10
  have u4_10 := u4.on hb10
  clear B9 hb10 k9 s9 t9 u3_9 v3_9 u4
  clear k10 s10 t10
  have HS3 := Lib.hid (sameT_any X3 Y3 l3 x3 y3 R3 R3 _ hl3.out (Nat.le_trans i3 j3) rfl u3_10 v3_10)
  go_wp2_with fail
  refine (HS3.out).mono ?_
  rintro e W11 ⟨rfl, hb11⟩
  have B11 := B10.trans (hb11.mono B10.size)
  have u4_11 := u4_10.on hb11
  have v4_11 := v4.on hb11
  clear B10 hb11 u4_10 v4
  have HS4 := Lib.hid (sameT_any X4 Y4 l4 x4 y4 R4 R4 _ hl4.out (Nat.le_trans i4 j4) rfl u4_11 v4_11)
  go_wp2_with fail
  refine (HS4.out).mono ?_
  rintro e W12 ⟨rfl, hb12⟩
  have B12 := B11.trans (hb12.mono B11.size)
  clear B11 hb12
  go_wp2_with fail
  refine (awake3_any _).mono ?_
  rintro e wz ⟨rfl, hbz⟩
  go_wp2_with fail
  go_ret
  exact ⟨rfl, B12.trans (hbz.mono B12.size)⟩
end Go.Proofs.Ytfmnlpgboolpmaa
