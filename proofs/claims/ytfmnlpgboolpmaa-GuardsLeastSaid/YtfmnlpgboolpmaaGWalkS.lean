/- Walk: the law GuardsLeast. -/
import Derived.Test.YtfmnlpgboolpmaaGWalkO
import Derived.Test.YtfmnlpgboolpmaaGWalkP
namespace Go.Proofs.Ytfmnlpgboolpmaa
open Go Go.Proofs Go.RowKit Go.Pol

theorem ord_fin : ∀ p : Fin 1025, 1 ≤ p.val → Lib.bitLen (p.val - 1) ≤ 10 ∧ p.val ≤ 2 ^ Lib.bitLen (p.val - 1) ∧ (0 < Lib.bitLen (p.val - 1) → 2 ^ (Lib.bitLen (p.val - 1) - 1) < p.val) := by decide +kernel
theorem leastF_cases (u f b ev : Int) : leastF u f b ev = (0, 0, 7) ∨ ∃ (p : Int) (k : Nat), leastF u f b ev = (p, (k : Int), 0) ∧ 1 ≤ u ∧ u ≤ p ∧ p ≤ 1024 ∧ k ≤ 10 ∧ p ≤ ((2 ^ k : Nat) : Int) ∧ (0 < k → ((2 ^ (k - 1) : Nat) : Int) < p) ∧
    chkG 0 p f b ev = 0 ∧ u ≤ (countF 0 p f b ev).1 ∧ (chkG 0 (p - 1) f b ev = 0 → (countF 0 (p - 1) f b ev).1 < u) := by
  unfold leastF
  by_cases hb : badLeast u f b ev
  · rw [if_pos hb]; exact .inl rfl
  · rw [if_neg hb]
    unfold badLeast at hb
    have hw : wrongG f b ev = false := by cases h : wrongG f b ev with | false => rfl | true => exact absurd (.inr (.inr h)) hb
    have hw' := wrongG_iff.1 hw
    have hu : 1 ≤ u ∧ u ≤ 1024 := ⟨by omega, by omega⟩
    have hge := leastP_ge (u := u) (f := f) (b := b) (ev := ev) hu.1
    by_cases hL : 1024 < leastP u f b ev
    · rw [if_pos hL]; exact .inl rfl
    · rw [if_neg hL]
      have hpl : PlanOk 0 (leastP u f b ev) f b ev := ⟨by omega, by omega, by omega, by omega, hw'.1.1, hw'.1.2, hw'.2.1.1, hw'.2.1.2, hw'.2.2.1, hw'.2.2.2, by omega⟩
      have h1 := least_at hu hw'.2.2.1 hpl
      have h2 : chkG 0 (leastP u f b ev - 1) f b ev = 0 → (countF 0 (leastP u f b ev - 1) f b ev).1 < u := fun h => least_low hu.1 hw'.2.2.1 (by omega) (chkG_zero.1 h)
      have h0 := chkG_zero.2 hpl
      generalize leastP u f b ev = p at *
      obtain ⟨q, rfl⟩ : ∃ q : Nat, p = (q : Int) := ⟨p.toNat, by omega⟩
      have e : ((q : Int) - 1).toNat = q - 1 := by omega
      have o := ord_fin ⟨q, by omega⟩ (by simp only; omega)
      simp only at o
      rw [e]
      exact .inr ⟨q, Lib.bitLen (q - 1), rfl, hu.1, by omega, by omega, o.1, by omega, fun h => by have := o.2.2 h; omega, h0, h1, h2⟩

set_option maxRecDepth 100000 in
set_option maxHeartbeats 1600000 in
theorem leastLaw_any (u f b ev : Int) (w : World) :
    Calls Try.prog 7 #[.int .i64 u, .agg #[.int .i64 f, .int .i64 b, .int .i64 ev]] w fun e w' => e = .returned (.bool true) ∧ Below w.heap.size w w' := by
  have H1 := Lib.hid (fun W => least_any u f b ev W _ rfl)
  have hb0 := (Below.refl w.heap.size w).alloc (Nat.le_refl _) (.cells #[.int .i64 f, .int .i64 b, .int .i64 ev] 23)
  have k0 := Blk.new w 23 #[.int .i64 f, .int .i64 b, .int .i64 ev]
  have c0 := k0.cell
  rcases leastF_cases u f b ev with hR | ⟨p, k, hR, hu, hup, hp, hk, hpk, hkp, hc1, hc2, hc3⟩
  · rw [hR] at H1
    go_enter Try.func7, Try.ntmps7
    go_wp2_with fail
    refine (H1.out _).mono ?_
    rintro e w1 ⟨rfl, hb1⟩
    have B1 := hb0.trans (hb1.mono hb0.size)
    go_wp2_with fail
    refine (awake_any _).mono ?_
    rintro e w2 ⟨rfl, hb2⟩
    go_wp2_with fail
    go_ret
    exact ⟨rfl, B1.trans (hb2.mono B1.size)⟩
  · rw [hR] at H1
    have H2 := Lib.hid (fun W => count_any 0 p f b ev W)
    have H3 := Lib.hid (fun W => count_any 0 (p - 1) f b ev W)
    rw [hc1] at H2
    obtain ⟨C, hC⟩ : ∃ C, countF 0 p f b ev = C := ⟨_, rfl⟩
    obtain ⟨D, hD⟩ : ∃ D, countF 0 (p - 1) f b ev = D := ⟨_, rfl⟩
    obtain ⟨er, her⟩ : ∃ er, chkG 0 (p - 1) f b ev = er := ⟨_, rfl⟩
    rw [hC] at H2 hc2
    rw [hD, her] at H3
    rw [hD, her] at hc3
    clear hC hD her hc1 hR
    obtain ⟨c1, c2⟩ := C
    obtain ⟨d1, d2⟩ := D
    simp only at H2 H3 hc2 hc3
    have x1 : decide (p < u) = false := by simpa using hup
    have x2 : decide (1024 < p) = false := by simpa using hp
    have x3 : decide ((k : Int) < 0) = false := by simp
    have x4 : decide (10 < (k : Int)) = false := by simp; omega
    have x5 : decide (u ≤ c1) = true := by simpa using hc2
    obtain ⟨bb, hbb⟩ : ∃ bb : Int, (2 : Int) ^ k = bb := ⟨_, rfl⟩
    have hpow : (1 : Int) ≤ 2 ^ k ∧ (2 : Int) ^ k ≤ 1024 := by
      rcases (show k = 0 ∨ k = 1 ∨ k = 2 ∨ k = 3 ∨ k = 4 ∨ k = 5 ∨ k = 6 ∨ k = 7 ∨ k = 8 ∨ k = 9 ∨ k = 10 by omega) with rfl | rfl | rfl | rfl | rfl | rfl | rfl | rfl | rfl | rfl | rfl <;> decide
    have hpk' : p ≤ bb := by rw [← hbb]; simpa using hpk
    rw [hbb] at hpow
    have hw0 : wrap64 ((2 : Int) ^ k) = bb := by rw [hbb]; unfold wrap64; omega
    have x6 : decide (bb < p) = false := by simpa using hpk'
    clear hbb
    go_enter Try.func7, Try.ntmps7
    go_wp2_with fail
    refine (H1.out _).mono ?_
    rintro e w1 ⟨rfl, hb1⟩
    have B1 := hb0.trans (hb1.mono hb0.size)
    have k1 := k0.call hb1
    have z1 := k1.cell
    clear hb1 k0 c0 H1
    by_cases hk0 : k = 0
    · subst hk0
      go_wp2_with fail
      refine (H2.out _).mono ?_
      rintro e w2 ⟨rfl, hb2⟩
      have B2 := B1.trans (hb2.mono B1.size)
      have k2 := k1.call hb2
      have z2 := k2.cell
      clear hb2 k1 z1 H2 B1
      go_wp2_with fail
      refine (H3.out _).mono ?_
      rintro e w3 ⟨rfl, hb3⟩
      have B3 := B2.trans (hb3.mono B2.size)
      clear hb3 k2 z2 H3 B2
      by_cases he : er = 0
      · have y1 : (er != 0) = false := by simpa using he
        have y2 : decide (d1 < u) = true := by simpa using hc3 he
        clear he
        go_wp2_with fail
        refine (awake_any _).mono ?_
        rintro e w4 ⟨rfl, hb4⟩
        go_wp2_with fail
        go_ret
        exact ⟨rfl, B3.trans (hb4.mono B3.size)⟩
      · have y1 : (er != 0) = true := by simpa using he
        clear he
        go_wp2_with fail
        refine (awake_any _).mono ?_
        rintro e w4 ⟨rfl, hb4⟩
        go_wp2_with fail
        go_ret
        exact ⟨rfl, B3.trans (hb4.mono B3.size)⟩
    · have x7 : decide (0 < (k : Int)) = true := by simpa using Nat.pos_of_ne_zero hk0
      obtain ⟨j, rfl⟩ : ∃ j, k = j + 1 := ⟨k - 1, by omega⟩
      have e1 : ((j + 1 : Nat) : Int) - 1 = (j : Int) := by omega
      obtain ⟨b2, hb2⟩ : ∃ b2 : Int, (2 : Int) ^ j = b2 := ⟨_, rfl⟩
      have hp2 : (1 : Int) ≤ 2 ^ j ∧ (2 : Int) ^ j ≤ 1024 := by
        rcases (show j = 0 ∨ j = 1 ∨ j = 2 ∨ j = 3 ∨ j = 4 ∨ j = 5 ∨ j = 6 ∨ j = 7 ∨ j = 8 ∨ j = 9 by omega) with rfl | rfl | rfl | rfl | rfl | rfl | rfl | rfl | rfl | rfl <;> decide
      have hkp' : b2 < p := by rw [← hb2]; have := hkp (by omega); simpa using this
      rw [hb2] at hp2
      have hw2 : wrap64 ((2 : Int) ^ j) = b2 := by rw [hb2]; unfold wrap64; omega
      have x8 : decide (p ≤ b2) = false := by simpa using hkp'
      go_wp2_with fail
      refine (H2.out _).mono ?_
      rintro e w2 ⟨rfl, hb3⟩
      have B2 := B1.trans (hb3.mono B1.size)
      have k2 := k1.call hb3
      have z2 := k2.cell
      clear hb3 k1 z1 H2 B1
      go_wp2_with fail
      refine (H3.out _).mono ?_
      rintro e w3 ⟨rfl, hb3⟩
      have B3 := B2.trans (hb3.mono B2.size)
      clear hb3 k2 z2 H3 B2
      by_cases he : er = 0
      · have y1 : (er != 0) = false := by simpa using he
        have y2 : decide (d1 < u) = true := by simpa using hc3 he
        clear he
        go_wp2_with fail
        refine (awake_any _).mono ?_
        rintro e w4 ⟨rfl, hb4⟩
        go_wp2_with fail
        go_ret
        exact ⟨rfl, B3.trans (hb4.mono B3.size)⟩
      · have y1 : (er != 0) = true := by simpa using he
        clear he
        go_wp2_with fail
        refine (awake_any _).mono ?_
        rintro e w4 ⟨rfl, hb4⟩
        go_wp2_with fail
        go_ret
        exact ⟨rfl, B3.trans (hb4.mono B3.size)⟩

end Go.Proofs.Ytfmnlpgboolpmaa
