/- Walks: the reference's Hit. -/
import Derived.Test.YtfmnlpgboolpmaaGSpecC
namespace Go.Proofs.Ytfmnlpgboolpmaa
open Go Go.Proofs Go.RowKit Go.Pol
set_option maxHeartbeats 800000 in
theorem refHit_any (pg n f b ev a m : Int) (w : World) (R : Int × Int × Int) (hR : hitR pg n f b ev a m = R) :
    Calls Try.prog 25 #[planV pg n f b ev, .int .i64 a, .int .i64 m] w fun e w' => e = .returned (.tuple #[.int .i64 R.1, .int .i64 R.2.1, .int .i64 R.2.2]) ∧ Below w.heap.size w w' := by
  have HC := Lib.hid (fun W => rgcheck_any pg n f b ev W)
  have hb0 := (Below.refl w.heap.size w).alloc (Nat.le_refl _) (.cells (planC pg n f b ev) 25)
  have k0 := Blk.new w 25 (planC pg n f b ev)
  have c0 := k0.cell
  by_cases hc : chkG pg n f b ev = 0
  case neg =>
    have hE : Hid (R = (0, 0, chkG pg n f b ev)) := Lib.hid (by rw [← hR, hitR, if_neg hc])
    generalize chkG pg n f b ev = er at *
    have hc1 : (er == 0) = false := by simpa using hc
    have hc' : (er != 0) = true := by simpa using hc
    clear hc hR
    go_enter Try.func25, Try.ntmps25
    go_wp2_with (go_at_call 33; refine (HC.out _).mono ?_; rintro e w1 ⟨rfl, hq⟩)
    refine bodyPost_ret (v := .tuple #[.int .i64 0, .int .i64 0, .int .i64 er]) (by simp [results, Try.results25, go_sem]) rfl ⟨by rw [hE.out], hb0.trans (hq.mono hb0.size)⟩
  have hp := chkG_zero.1 hc
  have HK := Lib.hid (fun q W h0 h1 => kind_any pg n f b ev q W hp h0 h1)
  rw [hc] at HC
  clear hp
  by_cases hbad : badHit a m
  · have hE : Hid (R = (0, 0, 2)) := Lib.hid (by rw [← hR, hitR, if_pos hc, if_pos hbad])
    clear hc hR
    by_cases b1 : a < 0
    · have b1' : decide (a < 0) = true := by simpa using b1
      go_enter Try.func25, Try.ntmps25
      go_wp2_with (go_at_call 33; refine (HC.out _).mono ?_; rintro e w1 ⟨rfl, hq⟩)
      refine bodyPost_ret (v := .tuple #[.int .i64 0, .int .i64 0, .int .i64 2]) (by simp [results, Try.results25, go_sem]) rfl ⟨by rw [hE.out], hb0.trans (hq.mono hb0.size)⟩
    · have b1' : decide (a < 0) = false := by simpa using b1
      by_cases b2 : 65536 < a
      · have b2' : decide (65536 < a) = true := by simpa using b2
        go_enter Try.func25, Try.ntmps25
        go_wp2_with (go_at_call 33; refine (HC.out _).mono ?_; rintro e w1 ⟨rfl, hq⟩)
        refine bodyPost_ret (v := .tuple #[.int .i64 0, .int .i64 0, .int .i64 2]) (by simp [results, Try.results25, go_sem]) rfl ⟨by rw [hE.out], hb0.trans (hq.mono hb0.size)⟩
      · have b2' : decide (65536 < a) = false := by simpa using b2
        by_cases b3 : m < 1
        · have b3' : decide (m < 1) = true := by simpa using b3
          go_enter Try.func25, Try.ntmps25
          go_wp2_with (go_at_call 33; refine (HC.out _).mono ?_; rintro e w1 ⟨rfl, hq⟩)
          refine bodyPost_ret (v := .tuple #[.int .i64 0, .int .i64 0, .int .i64 2]) (by simp [results, Try.results25, go_sem]) rfl ⟨by rw [hE.out], hb0.trans (hq.mono hb0.size)⟩
        · have b3' : decide (m < 1) = false := by simpa using b3
          have b4 : 65536 - a < m := by unfold badHit at hbad; omega
          have b4' : decide (65536 - a < m) = true := by simpa using b4
          go_enter Try.func25, Try.ntmps25
          go_wp2_with (go_at_call 33; refine (HC.out _).mono ?_; rintro e w1 ⟨rfl, hq⟩)
          refine bodyPost_ret (v := .tuple #[.int .i64 0, .int .i64 0, .int .i64 2]) (by simp [results, Try.results25, go_sem]) rfl ⟨by rw [hE.out], hb0.trans (hq.mono hb0.size)⟩
  · have hHR : Hid (R = hitS (kindG pg n f b ev) ((a + m - 1) / 64) 1100 (a / 64)) := Lib.hid (by rw [← hR, hitR, if_pos hc, if_neg hbad])
    unfold badHit at hbad
    have b1 : 0 ≤ a := by omega
    have b2 : a ≤ 65536 := by omega
    have b3 : 1 ≤ m := by omega
    have b4 : m ≤ 65536 - a := by omega
    have b1' : decide (a < 0) = false := by simpa using b1
    have b2' : decide (65536 < a) = false := by simpa using b2
    have b3' : decide (m < 1) = false := by simp; omega
    have b4' : decide (65536 - a < m) = false := by simpa using b4
    have hd1 : Int.tdiv a 64 = a / 64 := Int.tdiv_eq_ediv_of_nonneg b1
    have hd2 : Int.tdiv (a + m - 1) 64 = (a + m - 1) / 64 := Int.tdiv_eq_ediv_of_nonneg (by omega)
    have hpa : 0 ≤ a / 64 ∧ a / 64 ≤ 1024 := by omega
    have hla : 0 ≤ (a + m - 1) / 64 ∧ (a + m - 1) / 64 ≤ 1024 := by omega
    clear hc hR hbad
    go_enter Try.func25, Try.ntmps25
    go_wp2_with (go_at_call 33; refine (HC.out _).mono ?_; rintro e w1 ⟨rfl, hq⟩; have k1 := k0.call hq)
    have hb1 := hb0.trans (hq.mono hb0.size)
    go_loopw [10] (fun i wr => ∃ (fu : Nat) (p : Int), i = .int .i64 p ∧ 0 ≤ p ∧ p ≤ 1025 ∧ (a + m - 1) / 64 - p < fu ∧ Blk wr w.heap.size 25 (planC pg n f b ev) ∧ Below w.heap.size w wr ∧ Hid (R = hitS (kindG pg n f b ev) ((a + m - 1) / 64) fu p)) (fun i _ => ((a + m - 1) / 64 + 1 - intOf i).toNat)
    case atStart => exact ⟨1100, a / 64, rfl, by omega, by omega, by omega, k1, hb1, hHR⟩
    case round =>
      obtain ⟨fu, p, rfl, hp0, hp1, hfu, kP, hB, hH⟩ := hrel
      have cP := kP.cell
      by_cases hle : p ≤ (a + m - 1) / 64
      · have hle' : decide (p ≤ (a + m - 1) / 64) = true := by simpa using hle
        obtain ⟨fu', rfl⟩ : ∃ k, fu = k + 1 := ⟨fu - 1, by omega⟩
        have HK1 := Lib.hid (fun W => HK.out p W hp0 (by omega))
        have hstep : Hid (R = if kindG pg n f b ev p ≠ 0 then (kindG pg n f b ev p, p, 0) else hitS (kindG pg n f b ev) ((a + m - 1) / 64) fu' (p + 1)) := Lib.hid (by rw [hH.out, hitS, if_neg (by omega)])
        obtain ⟨K, hK⟩ : ∃ K, kindG pg n f b ev p = K := ⟨_, rfl⟩
        rw [hK] at HK1 hstep
        clear hK hH
        by_cases hk0 : K = 0
        · have hk0' : (K != 0) = false := by simpa using hk0
          have hN : Hid (R = hitS (kindG pg n f b ev) ((a + m - 1) / 64) fu' (p + 1)) := Lib.hid (by rw [hstep.out, if_neg (by simpa using hk0)])
          clear hk0 hstep
          go_wp2_with (go_at_call 76; refine (HK1.out _).mono ?_; rintro e w3 ⟨rfl, hq3⟩)
          go_roundw
          case rel => exact ⟨fu', p + 1, by go_num, by omega, by omega, by omega, kP.call hq3, hB.trans (hq3.mono hB.size), hN⟩
          case measure => simp [intOf]; omega
        · have hk0' : (K != 0) = true := by simpa using hk0
          have hE : Hid (R = (K, p, 0)) := Lib.hid (by rw [hstep.out, if_pos hk0])
          clear hk0 hstep
          go_upto_region 10 with (go_at_call 76; refine (HK1.out _).mono ?_; rintro e w3 ⟨rfl, hq3⟩)
          have kP3 := kP.call hq3
          have cP3 := kP3.cell
          have hB3 := hB.trans (hq3.mono hB.size)
          go_wp2_with (go_at_call 76; refine (HK1.out _).mono ?_; rintro e w4 ⟨rfl, hq4⟩)
          refine bodyPost_ret (v := .tuple #[.int .i64 K, .int .i64 p, .int .i64 0]) (by simp [results, Try.results25, go_sem]) rfl ⟨by rw [hE.out], hB3.trans (hq4.mono hB3.size)⟩
      · have hle' : decide (p ≤ (a + m - 1) / 64) = false := by simpa using hle
        have hE : Hid (R = (0, -1, 0)) := Lib.hid (by
          rw [hH.out]
          cases fu with
          | zero => rfl
          | succ k => rw [hitS, if_pos (by omega)])
        go_wp2_with fail
        refine bodyPost_ret (v := .tuple #[.int .i64 0, .int .i64 (-1), .int .i64 0]) (by simp [results, Try.results25, go_sem]) rfl ⟨by rw [hE.out], hB⟩
end Go.Proofs.Ytfmnlpgboolpmaa
