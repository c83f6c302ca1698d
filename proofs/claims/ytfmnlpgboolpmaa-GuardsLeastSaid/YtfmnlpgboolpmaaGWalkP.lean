/- Walks: the reference's Least of layer 11. -/
import Derived.Test.YtfmnlpgboolpmaaGWalkM
import Derived.Test.YtfmnlpgboolpmaaGSpecD
namespace Go.Proofs.Ytfmnlpgboolpmaa
open Go Go.Proofs Go.RowKit Go.Pol

set_option maxHeartbeats 1600000 in
theorem refLeast_any (u f b ev : Int) (w : World) (R : Int × Int × Int) (hR : leastR u f b ev = R) :
    Calls Try.prog 22 #[.int .i64 u, .agg #[.int .i64 f, .int .i64 b, .int .i64 ev]] w fun e w' => e = .returned (.tuple #[.int .i64 R.1, .int .i64 R.2.1, .int .i64 R.2.2]) ∧ Below w.heap.size w w' := by
  have hb0 := (Below.refl w.heap.size w).alloc (Nat.le_refl _) (.cells #[.int .i64 f, .int .i64 b, .int .i64 ev] 23)
  have k0 := Blk.new w 23 #[.int .i64 f, .int .i64 b, .int .i64 ev]
  have c0 := k0.cell
  have HW := Lib.hid (fun W => rspec_any f b ev W)
  by_cases hu1 : u < 1
  · have hu1' : decide (u < 1) = true := by simpa using hu1
    have hE : Hid (R = (0, 0, 7)) := Lib.hid (by rw [← hR, leastR, if_pos (by unfold badLeast; omega)])
    clear hR
    go_enter Try.func22, Try.ntmps22
    go_wp2_with fail
    refine bodyPost_ret (v := .tuple #[.int .i64 0, .int .i64 0, .int .i64 7]) (by simp [results, Try.results22, go_sem]) rfl ⟨by rw [hE.out], hb0⟩
  have hu1' : decide (u < 1) = false := by simpa using hu1
  by_cases hu2 : 1024 < u
  · have hu2' : decide (1024 < u) = true := by simpa using hu2
    have hE : Hid (R = (0, 0, 7)) := Lib.hid (by rw [← hR, leastR, if_pos (by unfold badLeast; omega)])
    clear hR
    go_enter Try.func22, Try.ntmps22
    go_wp2_with fail
    refine bodyPost_ret (v := .tuple #[.int .i64 0, .int .i64 0, .int .i64 7]) (by simp [results, Try.results22, go_sem]) rfl ⟨by rw [hE.out], hb0⟩
  have hu2' : decide (1024 < u) = false := by simpa using hu2
  cases hw : wrongG f b ev with
  | true =>
    rw [hw] at HW
    have hE : Hid (R = (0, 0, 7)) := Lib.hid (by rw [← hR, leastR, if_pos (by unfold badLeast; exact .inr (.inr hw))])
    clear hR hw
    go_enter Try.func22, Try.ntmps22
    go_wp2_with (go_at_call 73; refine (HW.out _).mono ?_; rintro e w1 ⟨rfl, hq⟩)
    refine bodyPost_ret (v := .tuple #[.int .i64 0, .int .i64 0, .int .i64 7]) (by simp [results, Try.results22, go_sem]) rfl ⟨by rw [hE.out], hb0.trans (hq.mono hb0.size)⟩
  | false =>
    rw [hw] at HW
    have hR2 : Hid (R = leastS u f b ev 1100 u) := Lib.hid (by rw [← hR, leastR, if_neg (by unfold badLeast; rw [hw]; simp; omega)])
    clear hR hw
    go_enter Try.func22, Try.ntmps22
    go_wp2_with (go_at_call 73; refine (HW.out _).mono ?_; rintro e w1 ⟨rfl, hq⟩; have k1 := k0.call hq)
    have hb1 := hb0.trans (hq.mono hb0.size)
    go_loopw [7] (fun i wr => ∃ (fu : Nat) (p : Int), i = .int .i64 p ∧ u ≤ p ∧ p ≤ 1025 ∧ 1024 - p < fu ∧ Blk wr w.heap.size 23 #[.int .i64 f, .int .i64 b, .int .i64 ev] ∧ Below w.heap.size w wr ∧ Hid (R = leastS u f b ev fu p)) (fun i _ => (1025 - intOf i).toNat)
    case atStart => exact ⟨1100, u, rfl, by omega, by omega, by omega, k1, hb1, hR2⟩
    case round =>
      obtain ⟨fu, p, rfl, hp0, hp1, hfu, kS, hB, hH⟩ := hrel
      have cS := kS.cell
      by_cases hle : p ≤ 1024
      · have hle' : decide (p ≤ 1024) = true := by simpa using hle
        obtain ⟨fu', rfl⟩ : ∃ k, fu = k + 1 := ⟨fu - 1, by omega⟩
        have hst : Hid (R = if chkG 0 p f b ev ≠ 0 ∨ (countF 0 p f b ev).1 < u then leastS u f b ev fu' (p + 1) else (p, (Lib.bitLen (p - 1).toNat : Int), 0)) := Lib.hid (by rw [hH.out, leastS, if_neg (by omega)])
        have HC := Lib.hid (fun W => refCount_any 0 p f b ev W)
        generalize chkG 0 p f b ev = er at *
        obtain ⟨C, hC⟩ : ∃ C, countF 0 p f b ev = C := ⟨_, rfl⟩
        rw [hC] at HC hst
        obtain ⟨c1, c2⟩ := C
        dsimp only at HC hst
        clear hC hH
        by_cases he : er = 0
        · have he' : (er != 0) = false := by simpa using he
          by_cases hc : c1 < u
          · have hc' : decide (c1 < u) = true := by simpa using hc
            have hN : Hid (R = leastS u f b ev fu' (p + 1)) := Lib.hid (by rw [hst.out, if_pos (.inr hc)])
            clear he hc hst
            go_wp2_with (go_at_call 31; refine (HC.out _).mono ?_; rintro e w3 ⟨rfl, hq3⟩)
            go_roundw
            case rel => exact ⟨fu', p + 1, by go_num, by omega, by omega, by omega, kS.call hq3, hB.trans (hq3.mono hB.size), hN⟩
            case measure => simp [intOf]; omega
          · have hc' : decide (c1 < u) = false := by simpa using hc
            have hE : Hid (R = (p, (Lib.bitLen (p - 1).toNat : Int), 0)) := Lib.hid (by rw [hst.out, if_neg (by rintro (h | h); exact h he; exact hc h)])
            clear he hc hst
            go_wp2_with (go_at_call 31; refine (HC.out _).mono ?_; rintro e w3 ⟨rfl, hq3⟩)
            have hB3 := hB.trans (hq3.mono hB.size)
            go_loopw [11] (fun i wr => ∃ k : Nat, k ≤ 10 ∧ i = .int .i64 k ∧ Below w.heap.size w wr ∧ Hid (∀ j : Nat, j < k → (2 : Int) ^ j < p)) (fun i _ => (20 - intOf i).toNat)
            case atStart => exact ⟨0, by omega, rfl, hB3, Lib.hid (fun j h => absurd h (by omega))⟩
            case round =>
              obtain ⟨k, hk, rfl, hB3, hJ⟩ := hrel
              have hpow : (1 : Int) ≤ 2 ^ k ∧ (2 : Int) ^ k ≤ 1024 := by
                rcases (show k = 0 ∨ k = 1 ∨ k = 2 ∨ k = 3 ∨ k = 4 ∨ k = 5 ∨ k = 6 ∨ k = 7 ∨ k = 8 ∨ k = 9 ∨ k = 10 by omega) with rfl | rfl | rfl | rfl | rfl | rfl | rfl | rfl | rfl | rfl | rfl <;> decide
              obtain ⟨bb, hbb⟩ : ∃ bb : Int, (2 : Int) ^ k = bb := ⟨_, rfl⟩
              rw [hbb] at hpow
              have hbb' := Lib.hid hbb
              have hw0 : wrap64 ((2 : Int) ^ k) = bb := by rw [hbb]; unfold wrap64; omega
              clear hbb
              by_cases hlt : bb < p
              · have hlt' : decide (bb < p) = true := by simpa using hlt
                have hk9 : Hid (k ≤ 9) := Lib.hid (by
                  by_cases h : k = 10
                  · subst h; have := hbb'.out; omega
                  · omega)
                go_wp2_with fail
                go_roundw
                case rel => exact ⟨k + 1, by have := hk9.out; omega, by simp, hB3, Lib.hid (fun j hj => by
                  by_cases h : j = k
                  · subst h; rw [hbb'.out]; exact hlt
                  · exact hJ.out j (by omega))⟩
                case measure => simp [intOf]; omega
              · have hlt' : decide (bb < p) = false := by simpa using hlt
                have hE2 : Hid (R = (p, (k : Int), 0)) := Lib.hid (by
                  have hp2 : p.toNat < 1025 := by omega
                  have h := ord_of ⟨p.toNat, hp2⟩ ⟨k, by omega⟩ (by simp only; omega) (by
                    simp only
                    have h1 := hbb'.out
                    have h2 : ((2 ^ k : Nat) : Int) = (2 : Int) ^ k := by simp
                    omega) (fun j hj => by
                    simp only at hj ⊢
                    have h1 := hJ.out j.val hj
                    have h2 : ((2 ^ j.val : Nat) : Int) = (2 : Int) ^ j.val := by simp
                    omega)
                  simp only at h
                  rw [hE.out, show (p - 1).toNat = p.toNat - 1 by omega, h])
                go_wp2_with fail
                refine bodyPost_ret (v := .tuple #[.int .i64 p, .int .i64 (k : Int), .int .i64 0]) (by simp [results, Try.results22, go_sem]) rfl ⟨by rw [hE2.out], hB3⟩
        · have he' : (er != 0) = true := by simpa using he
          have hN : Hid (R = leastS u f b ev fu' (p + 1)) := Lib.hid (by rw [hst.out, if_pos (.inl he)])
          clear he hst
          go_wp2_with (go_at_call 31; refine (HC.out _).mono ?_; rintro e w3 ⟨rfl, hq3⟩)
          go_roundw
          case rel => exact ⟨fu', p + 1, by go_num, by omega, by omega, by omega, kS.call hq3, hB.trans (hq3.mono hB.size), hN⟩
          case measure => simp [intOf]; omega
      · have hle' : decide (p ≤ 1024) = false := by simpa using hle
        have hE : Hid (R = (0, 0, 7)) := Lib.hid (by
          rw [hH.out]
          cases fu with
          | zero => rfl
          | succ k => rw [leastS, if_pos (by omega)])
        go_wp2_with fail
        refine bodyPost_ret (v := .tuple #[.int .i64 0, .int .i64 0, .int .i64 7]) (by simp [results, Try.results22, go_sem]) rfl ⟨by rw [hE.out], hB⟩
end Go.Proofs.Ytfmnlpgboolpmaa
