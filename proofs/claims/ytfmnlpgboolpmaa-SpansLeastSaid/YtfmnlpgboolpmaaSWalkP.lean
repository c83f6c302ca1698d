/- Walks: the law's place and within; the law SpansLeast. -/
import Derived.Test.YtfmnlpgboolpmaaSSpecG
import Derived.Test.YtfmnlpgboolpmaaSWalkG
namespace Go.Proofs.Ytfmnlpgboolpmaa
open Go Go.Proofs Go.RowKit Go.Pol Go.Shelf

set_option maxRecDepth 100000 in
set_option maxHeartbeats 1600000 in
theorem placeLaw_any (A : Option Addr) (n cap : Nat) (us : List Sp) (p m al : Int) (w : World) (hn : us.length = n) (hm : n ≤ cap) (hc : cap ≤ maxLen) (hr : RU w w.heap.size A us) :
    Calls Try.prog 60 #[.slice A n cap, .int .i64 p, .agg #[.int .i64 m, .int .i64 al]] w fun e w' => e = .returned (.bool (placeT us p m al)) ∧ Below w.heap.size w w' := by
  have hb0 := (Below.refl w.heap.size w).alloc (Nat.le_refl _) (.cells #[.int .i64 m, .int .i64 al] 72)
  have k0 := Blk.new w 72 #[.int .i64 m, .int .i64 al]
  have z0 := k0.cell
  obtain ⟨R, hR⟩ : ∃ R, placeT us p m al = R := ⟨_, rfl⟩
  rw [hR]
  have hR' := Lib.hid hR
  clear hR
  have hbad : Hid (¬ (0 ≤ p ∧ p < 1024 ∧ 1 ≤ m ∧ m ≤ 1024 - p ∧ 1 ≤ al ∧ p % al = 0) → R = false) := Lib.hid (fun h => by rw [← hR'.out, placeT, decide_eq_false h]; rfl)
  by_cases h0 : p < 0
  · have h0' : decide (p < 0) = true := by simpa using h0
    have hE := Lib.hid (hbad.out (fun h => by omega))
    go_enter Try.func60, Try.ntmps60
    go_wp2_with fail
    go_ret
    exact ⟨ret_bool hE.out.symm, hb0⟩
  have h0' : decide (p < 0) = false := by simpa using h0
  by_cases h1 : 1024 ≤ p
  · have h1' : decide (1024 ≤ p) = true := by simpa using h1
    have hE := Lib.hid (hbad.out (fun h => by omega))
    go_enter Try.func60, Try.ntmps60
    go_wp2_with fail
    go_ret
    exact ⟨ret_bool hE.out.symm, hb0⟩
  have h1' : decide (1024 ≤ p) = false := by simpa using h1
  by_cases h2 : m < 1
  · have h2' : decide (m < 1) = true := by simpa using h2
    have hE := Lib.hid (hbad.out (fun h => by omega))
    go_enter Try.func60, Try.ntmps60
    go_wp2_with fail
    go_ret
    exact ⟨ret_bool hE.out.symm, hb0⟩
  have h2' : decide (m < 1) = false := by simpa using h2
  by_cases h3 : 1024 - p < m
  · have h3' : decide (1024 - p < m) = true := by simpa using h3
    have hE := Lib.hid (hbad.out (fun h => by omega))
    go_enter Try.func60, Try.ntmps60
    go_wp2_with fail
    go_ret
    exact ⟨ret_bool hE.out.symm, hb0⟩
  have h3' : decide (1024 - p < m) = false := by simpa using h3
  by_cases h4 : al < 1
  · have h4' : decide (al < 1) = true := by simpa using h4
    have hE := Lib.hid (hbad.out (fun h => by omega))
    go_enter Try.func60, Try.ntmps60
    go_wp2_with fail
    go_ret
    exact ⟨ret_bool hE.out.symm, hb0⟩
  have h4' : decide (al < 1) = false := by simpa using h4
  have htm : Int.tmod p al = p % al := Int.tmod_eq_emod_of_nonneg (by omega)
  have hal : (al == 0) = false := by simp; omega
  by_cases h6 : p % al = 0
  case neg =>
    have h6' : (p % al != 0) = true := by simpa using h6
    have hE := Lib.hid (hbad.out (fun h => h6 h.2.2.2.2.2))
    clear h6
    go_enter Try.func60, Try.ntmps60
    go_wp2_with fail
    go_ret
    exact ⟨ret_bool hE.out.symm, hb0⟩
  case pos =>
    have h6' : (p % al != 0) = false := by simpa using h6
    have hE : Hid (R = (decide (askS us (p, m) = 0) && (gapsF us (p, m)).isEmpty)) := Lib.hid (by rw [← hR'.out, placeT, decide_eq_true ⟨by omega, by omega, by omega, by omega, by omega, h6⟩, Bool.true_and])
    have HH := Lib.hid (has_any A n cap us p m _ hn hm hc (hr.on hb0))
    generalize askS us (p, m) = er at *
    generalize (gapsF us (p, m)).isEmpty = B at *
    clear h6 hbad hR' hn
    by_cases he : er = 0
    · subst he
      have hE2 : Hid (R = B) := Lib.hid (by rw [hE.out]; rfl)
      have he' : (decide ((0 : Int) = 0) && B) = B := by simp
      rw [he'] at HH
      go_enter Try.func60, Try.ntmps60
      go_wp2_with fail
      refine HH.out.mono ?_
      rintro e w1 ⟨rfl, hb1⟩
      go_wp2_with fail
      go_ret
      exact ⟨ret_bool hE2.out.symm, hb0.trans (hb1.mono hb0.size)⟩
    · have he' : (er == 0) = false := by simpa using he
      have hE2 : Hid (R = false) := Lib.hid (by rw [hE.out, decide_eq_false he]; rfl)
      clear he
      go_enter Try.func60, Try.ntmps60
      go_wp2_with fail
      refine HH.out.mono ?_
      rintro e w1 ⟨rfl, hb1⟩
      go_wp2_with fail
      go_ret
      exact ⟨ret_bool hE2.out.symm, hb0.trans (hb1.mono hb0.size)⟩

set_option maxRecDepth 100000 in
set_option maxHeartbeats 1600000 in
theorem withinLaw_any (A : Option Addr) (n cap : Nat) (us : List Sp) (p : Int) (w : World) (hn : us.length = n) (hm : n ≤ maxLen) (hr : RU w w.heap.size A us) (hp : 0 ≤ p ∧ p < 1024) (hv : ∀ x ∈ us, vld x = true) :
    Calls Try.prog 61 #[.slice A n cap, .int .i64 p] w fun e w' => e = .returned (.int .i64 (withinF p us)) ∧ Below w.heap.size w w' := by
  unfold maxLen at hm
  obtain ⟨R, hR⟩ : ∃ R, withinF p us = R := ⟨_, rfl⟩
  rw [hR]
  have hR' := Lib.hid hR
  have hn' := Lib.hid hn
  have hv' := Lib.hid hv
  clear hR hn hv
  go_enter Try.func61, Try.ntmps61
  go_wp2_with fail
  go_loopw [5] (fun i wr => ∃ k : Nat, k ≤ n ∧ i = .int .i64 k ∧ Hid (R = withinF p (us.drop k)) ∧ Below w.heap.size w wr) (fun i _ => n - (intOf i).toNat)
  case atStart => exact ⟨0, by omega, rfl, Lib.hid (by rw [← hR'.out]; rfl), Below.refl _ _⟩
  case round =>
    obtain ⟨k, hk, rfl, hL, hB⟩ := hrel
    by_cases hlt : k < n
    · have hlt' : decide ((k : Int) < (n : Int)) = true := by simpa using hlt
      obtain ⟨b, o, rfl, hbl, hc, hd⟩ := RU.at_' (hr.on hB) (k := k) (by have := hn'.out; omega)
      have hvx := vld_iff.1 (hv'.out (us.getD k (0,0)) (by rw [List.getD_eq_getElem?_getD, List.getElem?_eq_getElem (by have := hn'.out; omega)]; simp))
      have hst : Hid (R = if (us.getD k (0,0)).1 ≤ p ∧ p - (us.getD k (0,0)).1 < (us.getD k (0,0)).2 then (us.getD k (0,0)).2 else withinF p (us.drop (k + 1))) := Lib.hid (by rw [hL.out, drop_cons (0,0) us k (by have := hn'.out; omega)]; rfl)
      generalize us.getD k (0,0) = x at *
      obtain ⟨xa, xb⟩ := x
      dsimp only at hc hd hvx hst
      have q1 := fun z : Ext wr => z.cell hc
      have q2 := fun z : Ext wr => z.cell hd
      by_cases h1 : xa ≤ p
      · have h1' : decide (xa ≤ p) = true := by simpa using h1
        by_cases h2 : p - xa < xb
        · have h2' : decide (p - xa < xb) = true := by simpa using h2
          have hE : Hid (R = xb) := Lib.hid (by rw [hst.out, if_pos ⟨h1, h2⟩])
          go_upto_region 4 with fail
          refine region_ext (by kernel_rfl) (by kernel_rfl) ?_
          repeat (go_big_quiet_step (fail))
          refine wpQuiet_nil ?_
          rintro w2 ⟨⟨_, hw2⟩, rfl⟩
          have hB2 := hB.trans (hw2.mono hB.size)
          have hd2 := (hw2.cell (p := ⟨b, o + k * 2 + 1, none⟩) hbl).trans hd
          go_wp2_with fail
          go_ret
          exact ⟨ret_int hE.out.symm, hB2⟩
        · have h2' : decide (p - xa < xb) = false := by simpa using h2
          have hN : Hid (R = withinF p (us.drop (k + 1))) := Lib.hid (by rw [hst.out, if_neg (fun h => h2 h.2)])
          go_upto_region 4 with fail
          refine region_ext (by kernel_rfl) (by kernel_rfl) ?_
          repeat (go_big_quiet_step (fail))
          refine wpQuiet_nil ?_
          rintro w2 ⟨⟨_, hw2⟩, rfl⟩
          have hB2 := hB.trans (hw2.mono hB.size)
          go_wp2_with fail
          go_roundw
          case rel => exact ⟨k + 1, by omega, by go_num, hN, hB2⟩
          case measure => simp [intOf]; omega
      · have h1' : decide (xa ≤ p) = false := by simpa using h1
        have hN : Hid (R = withinF p (us.drop (k + 1))) := Lib.hid (by rw [hst.out, if_neg (fun h => h1 h.1)])
        go_upto_region 4 with fail
        refine region_ext (by kernel_rfl) (by kernel_rfl) ?_
        repeat (go_big_quiet_step (fail))
        refine wpQuiet_nil ?_
        rintro w2 ⟨⟨_, hw2⟩, rfl⟩
        have hB2 := hB.trans (hw2.mono hB.size)
        go_wp2_with fail
        go_roundw
        case rel => exact ⟨k + 1, by omega, by go_num, hN, hB2⟩
        case measure => simp [intOf]; omega
    · have hlt' : decide ((k : Int) < (n : Int)) = false := by simp; omega
      have hE : Hid (R = 0) := Lib.hid (by rw [hL.out, List.drop_eq_nil_of_le (by have := hn'.out; omega)]; rfl)
      go_wp2_with fail
      go_ret
      exact ⟨ret_int hE.out.symm, hB⟩

set_option maxRecDepth 100000 in
set_option maxHeartbeats 3200000 in
theorem leastLaw3_any (A : Option Addr) (n cap : Nat) (us : List Sp) (m al pv : Int) (w : World) (hn : us.length = n) (hm : n ≤ cap) (hc : cap ≤ maxLen) (hr : RU w w.heap.size A us) (hpv : 0 ≤ pv ∧ pv ≤ 65535) :
    Calls Try.prog 14 #[.slice A n cap, .agg #[.int .i64 m, .int .i64 al], .int .u16 pv] w fun e w' => e = .returned (.bool true) ∧ Below w.heap.size w w' := by
  have hb0 := (Below.refl w.heap.size w).alloc (Nat.le_refl _) (.cells #[.int .i64 m, .int .i64 al] 72)
  have k0 := Blk.new w 72 #[.int .i64 m, .int .i64 al]
  have z0 := k0.cell
  have r0 := hr.on hb0
  by_cases hlen : 600 < n
  · have hlen' : decide (600 < (n : Int)) = true := by simp; omega
    go_enter Try.func14, Try.ntmps14
    go_wp2_with fail
    refine (awake3_any _).mono ?_
    rintro e w2 ⟨rfl, hb2⟩
    go_wp2_with fail
    go_ret
    exact ⟨rfl, hb0.trans (hb2.mono hb0.size)⟩
  have hlen' : decide (600 < (n : Int)) = false := by simp; omega
  have m1 := Nat.le_trans hm hc
  have hq0 : 0 ≤ pv % 1024 := Int.emod_nonneg _ (by omega)
  have hq1 : pv % 1024 < 1024 := Int.emod_lt_of_pos _ (by omega)
  have HF := Lib.hid (fun W h => first_any A n cap us m al W hn m1 h)
  have HB := Lib.hid (fun W h => best_any A n cap us m al W hn m1 h)
  have HP := Lib.hid (fun p W h => placeLaw_any A n cap us p m al W hn hm hc h)
  by_cases h0 : placeE us m al = 0
  case neg =>
    obtain ⟨e1, e2, e3⟩ := least_bad h0
    rw [e1] at HF
    rw [e2] at HB
    generalize placeE us m al = er at *
    have x1 : (er != er) = false := by simp
    have x2 : (er != 0) = true := by simpa using h0
    have x3 : (er != 4) = true := by simpa using e3
    clear e1 e2 e3 h0 hlen HP hn
    go_enter Try.func14, Try.ntmps14
    go_wp2_with fail
    refine (HF.out _ r0).mono ?_
    rintro e w1 ⟨rfl, hb1⟩
    have B1 := hb0.trans (hb1.mono hb0.size)
    have k1 := k0.call hb1
    have z1 := k1.cell
    have r1 := r0.on hb1
    go_wp2_with fail
    refine (HB.out _ r1).mono ?_
    rintro e w2 ⟨rfl, hb2⟩
    have B2 := B1.trans (hb2.mono B1.size)
    go_wp2_with fail
    refine (awake3_any _).mono ?_
    rintro e w3 ⟨rfl, hb3⟩
    go_wp2_with fail
    go_ret
    exact ⟨rfl, B2.trans (hb3.mono B2.size)⟩
  case pos =>
    by_cases hne : placesF us m al = []
    · obtain ⟨e1, e2, e3⟩ := least_none h0 hne
      rw [e1] at HF
      rw [e2] at HB
      have HP2 := Lib.hid (HP.out (pv % 1024))
      rw [e3] at HP2
      clear e1 e2 e3 h0 hne hlen HP hn
      go_enter Try.func14, Try.ntmps14
      go_wp2_with fail
      refine (HF.out _ r0).mono ?_
      rintro e w1 ⟨rfl, hb1⟩
      have B1 := hb0.trans (hb1.mono hb0.size)
      have k1 := k0.call hb1
      have z1 := k1.cell
      have r1 := r0.on hb1
      go_wp2_with fail
      refine (HB.out _ r1).mono ?_
      rintro e w2 ⟨rfl, hb2⟩
      have B2 := B1.trans (hb2.mono B1.size)
      have k2 := k1.call hb2
      have z2 := k2.cell
      have r2 := r1.on hb2
      go_wp2_with fail
      refine (HP2.out _ r2).mono ?_
      rintro e w3 ⟨rfl, hb3⟩
      have B3 := B2.trans (hb3.mono B2.size)
      go_wp2_with fail
      refine (awake3_any _).mono ?_
      rintro e w4 ⟨rfl, hb4⟩
      go_wp2_with fail
      go_ret
      exact ⟨rfl, B3.trans (hb4.mono B3.size)⟩
    · obtain ⟨e1, e2, e3⟩ := least_some h0 hne
      have hu := (placeE_zero h0).1
      obtain ⟨F, hF⟩ : ∃ F, firstF us m al = F := ⟨_, rfl⟩
      obtain ⟨B, hBB⟩ : ∃ B, bestF us m al = B := ⟨_, rfl⟩
      rw [hF] at HF e1 e3
      rw [hBB] at HB e2 e3
      obtain ⟨a, f1⟩ := F
      obtain ⟨b, f2⟩ := B
      simp only at e1 e2 e3 HF HB
      subst e1; subst e2
      have HPa := Lib.hid (HP.out a)
      rw [e3.atA] at HPa
      have HPb := Lib.hid (HP.out b)
      rw [e3.atB] at HPb
      have hb1024 : 0 ≤ b ∧ b < 1024 := by have := ((placeT_iff hu).1 e3.atB).1; omega
      have HW := Lib.hid (fun p hp W h => withinLaw_any A n cap us p W hn m1 h hp hu.1)
      have HWb := Lib.hid (fun W h => HW.out b hb1024 W h)
      have HWp := Lib.hid (fun W h => HW.out (pv % 1024) ⟨hq0, hq1⟩ W h)
      have HPp := Lib.hid (HP.out (pv % 1024))
      have hlow := Lib.hid (e3.low (pv % 1024))
      clear e3 HP HW hF hBB hu h0 hne hlen hn
      generalize withinF b us = wb at *
      generalize withinF (pv % 1024) us = wq at *
      generalize hpt : placeT us (pv % 1024) m al = T at *
      clear hpt
      go_enter Try.func14, Try.ntmps14
      go_wp2_with fail
      refine (HF.out _ r0).mono ?_
      rintro e w1 ⟨rfl, hb1⟩
      have B1 := hb0.trans (hb1.mono hb0.size)
      have k1 := k0.call hb1
      have z1 := k1.cell
      have r1 := r0.on hb1
      go_wp2_with fail
      refine (HB.out _ r1).mono ?_
      rintro e w2 ⟨rfl, hb2⟩
      have B2 := B1.trans (hb2.mono B1.size)
      have k2 := k1.call hb2
      have z2 := k2.cell
      have r2 := r1.on hb2
      clear hb0 k0 z0 r0 B1 k1 z1 r1 hb1 hb2
      go_wp2_with fail
      refine (HPa.out _ r2).mono ?_
      rintro e w3 ⟨rfl, hb3⟩
      have B3 := B2.trans (hb3.mono B2.size)
      have k3 := k2.call hb3
      have z3 := k3.cell
      have r3 := r2.on hb3
      clear B2 k2 z2 r2 hb3
      go_wp2_with fail
      refine (HPb.out _ r3).mono ?_
      rintro e w4 ⟨rfl, hb4⟩
      have B4 := B3.trans (hb4.mono B3.size)
      have k4 := k3.call hb4
      have z4 := k4.cell
      have r4 := r3.on hb4
      clear B3 k3 z3 r3 hb4
      go_wp2_with fail
      refine (HPp.out _ r4).mono ?_
      rintro e w5 ⟨rfl, hb5⟩
      have B5 := B4.trans (hb5.mono B4.size)
      have r5 := r4.on hb5
      clear B4 k4 z4 r4 hb5
      cases T with
      | false =>
        go_wp2_with fail
        refine (awake3_any _).mono ?_
        rintro e w6 ⟨rfl, hb6⟩
        go_wp2_with fail
        go_ret
        exact ⟨rfl, B5.trans (hb6.mono B5.size)⟩
      | true =>
        have y1 : decide (a ≤ pv % 1024) = true := by simpa using (hlow.out rfl).1
        have y2 : decide (wb ≤ wq) = true := by simpa using (hlow.out rfl).2
        go_wp2_with fail
        refine (HWp.out _ r5).mono ?_
        rintro e w6 ⟨rfl, hb6⟩
        have B6 := B5.trans (hb6.mono B5.size)
        have r6 := r5.on hb6
        go_wp2_with fail
        refine (HWb.out _ r6).mono ?_
        rintro e w7 ⟨rfl, hb7⟩
        have B7 := B6.trans (hb7.mono B6.size)
        go_wp2_with fail
        refine (awake3_any _).mono ?_
        rintro e w8 ⟨rfl, hb8⟩
        go_wp2_with fail
        go_ret
        exact ⟨rfl, B7.trans (hb8.mono B7.size)⟩
end Go.Proofs.Ytfmnlpgboolpmaa
