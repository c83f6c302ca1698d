/- Walks: bits.Len of small numbers, Least of layer 11. -/
import Derived.Test.YtfmnlpgboolpmaaGWalkC
import Derived.Lib.BitFns
import Derived.Lib.Strings
import Derived.Lib.Small
import Derived.Lib.Walk
namespace Go.Pol
def badLeast (u f b ev : Int) : Prop := u < 1 ∨ 1024 < u ∨ wrongG f b ev = true
instance badLeastDec (u f b ev : Int) : Decidable (badLeast u f b ev) := by unfold badLeast; infer_instance
def leastP (u f b ev : Int) : Int := u + f + b + (if 0 < ev then (u - 1) / ev else 0)
def leastF (u f b ev : Int) : Int × Int × Int :=
  if badLeast u f b ev then (0, 0, 7) else if 1024 < leastP u f b ev then (0, 0, 7) else (leastP u f b ev, (Lib.bitLen (leastP u f b ev - 1).toNat : Int), 0)
theorem tab_size : Lib.len8tab.size = 256 := by decide +kernel
theorem tab_fin : ∀ i : Fin 256, ((Lib.len8tab[i.val]?).map UInt8.toNat).getD 0 = Lib.bitLen i.val := by decide +kernel
theorem tab_get (i : Nat) (h : i < Lib.len8tab.size) : (Lib.len8tab[i]'h).toNat = Lib.bitLen i := by
  have h2 : i < 256 := by rw [← tab_size]; exact h
  have := tab_fin ⟨i, h2⟩
  simpa [getElem?_pos Lib.len8tab i h] using this
end Go.Pol
namespace Go.Proofs.Ytfmnlpgboolpmaa
open Go Go.Proofs Go.RowKit Go.Pol

set_option maxHeartbeats 4000000 in
set_option maxRecDepth 100000 in
theorem len64_any (x : Int) (w : World) (h0 : 0 ≤ x) (h1 : x ≤ 4000) :
    Calls Try.prog 104 #[.int .u64 x] w fun e w' => e = .returned (.int .i64 (Lib.bitLen x.toNat : Nat)) ∧ w = w' := by
  have q1 : decide (4294967296 ≤ x) = false := by simp; omega
  have q2 : decide (65536 ≤ x) = false := by simp; omega
  obtain ⟨L, hL⟩ : ∃ L : Int, ((Lib.bitLen x.toNat : Nat) : Int) = L := ⟨_, rfl⟩
  rw [hL]
  have hL' := Lib.hid hL
  clear hL
  by_cases hx : 256 ≤ x
  · have q3 : decide (256 ≤ x) = true := by simpa using hx
    have hsz : (x / 256).toNat < Lib.len8tab.size := by rw [tab_size]; omega
    have hb := Lib.bitLen_le8' (x / 256) (by omega) (by omega)
    have hs := Lib.hid (Lib.bitLen_shift8 x.toNat (by omega) (by omega))
    have ht := Lib.hid (show (x / 256).toNat = x.toNat / 256 by omega)
    have hg := Lib.hid (tab_get (x / 256).toNat hsz)
    go_enter Try.func104, Try.ntmps104
    go_wp2
    go_ret
    simp only [Array.getD, List.size_toArray, List.length_cons, List.length_nil]
    refine ⟨?_, by first | trivial | rfl⟩
    simp
    rw [hg.out, ← hL'.out, hs.out, ← ht.out]
    simp only [wrap64]
    omega
  · have q3 : decide (256 ≤ x) = false := by simpa using hx
    have hsz : x.toNat < Lib.len8tab.size := by rw [tab_size]; omega
    have hb := Lib.bitLen_le8' x (by omega) (by omega)
    have hg := Lib.hid (tab_get x.toNat hsz)
    go_enter Try.func104, Try.ntmps104
    go_wp2
    go_ret
    refine ⟨?_, by first | trivial | rfl⟩
    simp
    rw [hg.out, ← hL'.out]
    simp only [wrap64]
    omega

theorem len_any (x : Int) (w : World) (h0 : 0 ≤ x) (h1 : x ≤ 4000) :
    Calls Try.prog 72 #[.int .u64 x] w fun e w' => e = .returned (.int .i64 (Lib.bitLen x.toNat : Nat)) ∧ w = w' := by
  have HL := Lib.hid (fun W => len64_any x W h0 h1)
  generalize (Lib.bitLen x.toNat : Nat) = L at *
  go_enter Try.func72, Try.ntmps72
  go_wp2_with (go_at_call 104; refine (HL.out _).mono ?_; rintro e w' ⟨rfl, rfl⟩)
  go_ret
  exact ⟨rfl, rfl⟩

set_option maxHeartbeats 400000 in
theorem least_any (u f b ev : Int) (w : World) (R : Int × Int × Int) (hR : leastF u f b ev = R) :
    Calls Try.prog 21 #[.int .i64 u, .agg #[.int .i64 f, .int .i64 b, .int .i64 ev]] w fun e w' => e = .returned (.tuple #[.int .i64 R.1, .int .i64 R.2.1, .int .i64 R.2.2]) ∧ Below w.heap.size w w' := by
  have hb0 := (Below.refl w.heap.size w).alloc (Nat.le_refl _) (.cells #[.int .i64 f, .int .i64 b, .int .i64 ev] 23)
  have k0 := Blk.new w 23 #[.int .i64 f, .int .i64 b, .int .i64 ev]
  have c0 := k0.cell
  have HO := Lib.hid (fun W => outside_any u 1 1024 W)
  have HW := Lib.hid (fun W => gwrong_any f b ev W)
  by_cases hu : 1 ≤ u ∧ u ≤ 1024
  case neg =>
    have hE : Hid (R = (0, 0, 7)) := Lib.hid (by rw [← hR, leastF, if_pos (by unfold badLeast; omega)])
    have hv : (!(decide (1 ≤ u) && decide (u ≤ 1024))) = true := by
      rw [Bool.eq_iff_iff]; simp; omega
    rw [hv] at HO
    clear hR hu hv
    go_enter Try.func21, Try.ntmps21
    go_wp2_with (go_at_call 70; refine (HO.out _).mono ?_; rintro e w' ⟨rfl, rfl⟩)
    refine bodyPost_ret (v := .tuple #[.int .i64 0, .int .i64 0, .int .i64 7]) (by simp [results, Try.results21, go_sem]) rfl ⟨by rw [hE.out], hb0⟩
  have hv : (!(decide (1 ≤ u) && decide (u ≤ 1024))) = false := by
    simp; omega
  rw [hv] at HO
  cases hw : wrongG f b ev with
  | true =>
    rw [hw] at HW
    have hE : Hid (R = (0, 0, 7)) := Lib.hid (by rw [← hR, leastF, if_pos (by unfold badLeast; exact .inr (.inr hw))])
    clear hR hu hv hw
    go_enter Try.func21, Try.ntmps21
    go_wp2_with (first
      | (go_at_call 70; refine (HO.out _).mono ?_; rintro e w' ⟨rfl, rfl⟩)
      | (go_at_call 71; refine (HW.out _).mono ?_; rintro e w1 ⟨rfl, hq⟩))
    refine bodyPost_ret (v := .tuple #[.int .i64 0, .int .i64 0, .int .i64 7]) (by simp [results, Try.results21, go_sem]) rfl ⟨by rw [hE.out], hb0.trans (hq.mono hb0.size)⟩
  | false =>
    rw [hw] at HW
    have hw' := wrongG_iff.1 hw
    have hR2 : Hid (R = if 1024 < leastP u f b ev then (0, 0, 7) else (leastP u f b ev, (Lib.bitLen (leastP u f b ev - 1).toNat : Int), 0)) := Lib.hid (by rw [← hR, leastF, if_neg (by unfold badLeast; rw [hw]; simp; omega)])
    clear hR hv hw
    by_cases h0 : 0 < ev
    · have h0' : decide (0 < ev) = true := by simpa using h0
      have hd : Int.tdiv (u - 1) ev = (u - 1) / ev := Int.tdiv_eq_ediv_of_nonneg (by omega)
      have hdb : 0 ≤ (u - 1) / ev ∧ (u - 1) / ev ≤ 1024 := by
        have h1 : 0 ≤ (u - 1) / ev := Int.ediv_nonneg (by omega) (by omega)
        have h2 := Int.ediv_le_self (a := u - 1) ev (by omega)
        omega
      have hP : Hid (leastP u f b ev = u + f + b + (u - 1) / ev) := Lib.hid (by rw [leastP, if_pos h0])
      generalize (u - 1) / ev = dv at *
      rw [hP.out] at hR2
      clear hP
      have hlb : 1 ≤ u + f + b + dv ∧ u + f + b + dv ≤ 3000 := by omega
      have HL := Lib.hid (fun W => len_any (u + f + b + dv - 1) W (by omega) (by omega))
      by_cases hbig : 1024 < u + f + b + dv
      · have hbig' : decide (1024 < u + f + b + dv) = true := by simpa using hbig
        have hE : Hid (R = (0, 0, 7)) := Lib.hid (by rw [hR2.out, if_pos hbig])
        clear hR2
        go_enter Try.func21, Try.ntmps21
        go_wp2_with (first
          | (go_at_call 70; refine (HO.out _).mono ?_; rintro e w' ⟨rfl, rfl⟩)
          | (go_at_call 71; refine (HW.out _).mono ?_; rintro e w1 ⟨rfl, hq⟩; have k1 := k0.call hq; have c1 := k1.cell)
          | (go_at_call 72; refine (HL.out _).mono ?_; rintro e w' ⟨rfl, rfl⟩))
        refine bodyPost_ret (v := .tuple #[.int .i64 0, .int .i64 0, .int .i64 7]) (by simp [results, Try.results21, go_sem]) rfl ⟨by rw [hE.out], hb0.trans (hq.mono hb0.size)⟩
      · have hbig' : decide (1024 < u + f + b + dv) = false := by simpa using hbig
        have hE : Hid (R = (u + f + b + dv, (Lib.bitLen (u + f + b + dv - 1).toNat : Int), 0)) := Lib.hid (by rw [hR2.out, if_neg hbig])
        clear hR2
        generalize (Lib.bitLen (u + f + b + dv - 1).toNat : Nat) = BL at *
        go_enter Try.func21, Try.ntmps21
        go_wp2_with (first
          | (go_at_call 70; refine (HO.out _).mono ?_; rintro e w' ⟨rfl, rfl⟩)
          | (go_at_call 71; refine (HW.out _).mono ?_; rintro e w1 ⟨rfl, hq⟩; have k1 := k0.call hq; have c1 := k1.cell)
          | (go_at_call 72; refine (HL.out _).mono ?_; rintro e w' ⟨rfl, rfl⟩))
        refine bodyPost_ret (v := .tuple #[.int .i64 (u + f + b + dv), .int .i64 (BL : Int), .int .i64 0]) (by simp [results, Try.results21, go_sem]) rfl ⟨by rw [hE.out], hb0.trans (hq.mono hb0.size)⟩
    · have h0' : decide (0 < ev) = false := by simpa using h0
      have hP : Hid (leastP u f b ev = u + f + b) := Lib.hid (by rw [leastP, if_neg h0]; omega)
      rw [hP.out] at hR2
      clear hP
      have hlb : 1 ≤ u + f + b ∧ u + f + b ≤ 3000 := by omega
      have HL := Lib.hid (fun W => len_any (u + f + b - 1) W (by omega) (by omega))
      by_cases hbig : 1024 < u + f + b
      · have hbig' : decide (1024 < u + f + b) = true := by simpa using hbig
        have hE : Hid (R = (0, 0, 7)) := Lib.hid (by rw [hR2.out, if_pos hbig])
        clear hR2
        go_enter Try.func21, Try.ntmps21
        go_wp2_with (first
          | (go_at_call 70; refine (HO.out _).mono ?_; rintro e w' ⟨rfl, rfl⟩)
          | (go_at_call 71; refine (HW.out _).mono ?_; rintro e w1 ⟨rfl, hq⟩; have k1 := k0.call hq; have c1 := k1.cell)
          | (go_at_call 72; refine (HL.out _).mono ?_; rintro e w' ⟨rfl, rfl⟩))
        refine bodyPost_ret (v := .tuple #[.int .i64 0, .int .i64 0, .int .i64 7]) (by simp [results, Try.results21, go_sem]) rfl ⟨by rw [hE.out], hb0.trans (hq.mono hb0.size)⟩
      · have hbig' : decide (1024 < u + f + b) = false := by simpa using hbig
        have hE : Hid (R = (u + f + b, (Lib.bitLen (u + f + b - 1).toNat : Int), 0)) := Lib.hid (by rw [hR2.out, if_neg hbig])
        clear hR2
        generalize (Lib.bitLen (u + f + b - 1).toNat : Nat) = BL at *
        go_enter Try.func21, Try.ntmps21
        go_wp2_with (first
          | (go_at_call 70; refine (HO.out _).mono ?_; rintro e w' ⟨rfl, rfl⟩)
          | (go_at_call 71; refine (HW.out _).mono ?_; rintro e w1 ⟨rfl, hq⟩; have k1 := k0.call hq; have c1 := k1.cell)
          | (go_at_call 72; refine (HL.out _).mono ?_; rintro e w' ⟨rfl, rfl⟩))
        refine bodyPost_ret (v := .tuple #[.int .i64 (u + f + b), .int .i64 (BL : Int), .int .i64 0]) (by simp [results, Try.results21, go_sem]) rfl ⟨by rw [hE.out], hb0.trans (hq.mono hb0.size)⟩
end Go.Proofs.Ytfmnlpgboolpmaa
