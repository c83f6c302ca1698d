/- Walks: the reference's Has, Meets and Count; the program's Meets. -/
import Derived.Test.YtfmnlpgboolpmaaSWalkE
import Derived.Test.YtfmnlpgboolpmaaSSpecD
namespace Go.Proofs.Ytfmnlpgboolpmaa
open Go Go.Proofs Go.RowKit Go.Pol Go.Shelf
attribute [local go_sem] Oper.semAt_some Go.Pol.wide_fn Go.Pol.wide_depth Go.Pol.wide_fn' Go.Pol.wide_depth'

set_option maxHeartbeats 800000 in
theorem asked_any (A : Option Addr) (n cap : Nat) (us : List Sp) (p q : Int) (w : World) (hn : us.length = n) (hm : n ≤ maxLen) (hr : RU w w.heap.size A us) :
    Calls Try.prog 96 #[.slice A n cap, .agg #[.int .i64 p, .int .i64 q]] w fun e w' => e = .returned (.int .i64 (askS us (p, q))) ∧ Below w.heap.size w w' := by
  have hb0 := (Below.refl w.heap.size w).alloc (Nat.le_refl _) (.cells #[.int .i64 p, .int .i64 q] 40)
  have k0 := Blk.new w 40 #[.int .i64 p, .int .i64 q]
  have HC := Lib.hid (refSpCheck_any A n cap us _ hn hm (hr.on hb0))
  obtain ⟨R, hR⟩ : ∃ R, askS us (p, q) = R := ⟨_, rfl⟩
  rw [hR]
  have hR' := Lib.hid hR
  clear hR hn
  unfold askS at hR'
  by_cases hc : chkS us = 0
  · rw [if_pos hc] at hR'
    rw [hc] at HC
    clear hc
    by_cases hv : vld (p, q) = true
    · rw [if_pos hv] at hR'
      have hv' : (!vld (p, q)) = false := by simp [hv]
      go_enter Try.func96, Try.ntmps96
      go_wp2_with fail
      refine HC.out.mono ?_
      rintro e w1 ⟨rfl, hb1⟩
      have k1 := k0.call hb1
      have z1 := k1.cell
      have B1 := hb0.trans (hb1.mono hb0.size)
      go_wp2_with fail
      refine (valid_any _ _ _).mono ?_
      rintro e w2 ⟨rfl, hb2⟩
      go_wp2_with fail
      go_ret
      exact ⟨ret_int hR'.out, B1.trans (hb2.mono B1.size)⟩
    · rw [if_neg hv] at hR'
      have hv' : (!vld (p, q)) = true := by simpa using hv
      clear hv
      go_enter Try.func96, Try.ntmps96
      go_wp2_with fail
      refine HC.out.mono ?_
      rintro e w1 ⟨rfl, hb1⟩
      have k1 := k0.call hb1
      have z1 := k1.cell
      have B1 := hb0.trans (hb1.mono hb0.size)
      go_wp2_with fail
      refine (valid_any _ _ _).mono ?_
      rintro e w2 ⟨rfl, hb2⟩
      go_wp2_with fail
      go_ret
      exact ⟨ret_int hR'.out, B1.trans (hb2.mono B1.size)⟩
  · rw [if_neg hc] at hR'
    generalize chkS us = er at *
    have hc' : (er == 0) = false := by simpa using hc
    clear hc
    go_enter Try.func96, Try.ntmps96
    go_wp2_with fail
    refine HC.out.mono ?_
    rintro e w1 ⟨rfl, hb1⟩
    go_wp2_with fail
    go_ret
    exact ⟨ret_int hR'.out, hb0.trans (hb1.mono hb0.size)⟩

set_option maxRecDepth 100000 in
set_option maxHeartbeats 1600000 in
theorem rcount_any (A : Option Addr) (n cap : Nat) (us : List Sp) (xa xb : Int) (w : World) (hn : us.length = n) (hm : n ≤ 1000000) (hr : RU w w.heap.size A us) (hv : ∀ x ∈ us, vld x = true) (hx : vld (xa, xb) = true) :
    Calls Try.prog 97 #[.slice A n cap, .agg #[.int .i64 xa, .int .i64 xb]] w fun e w' => e = .returned (.int .i64 (cntF us (xa, xb))) ∧ Below w.heap.size w w' := by
  have hb0 := (Below.refl w.heap.size w).alloc (Nat.le_refl _) (.cells #[.int .i64 xa, .int .i64 xb] 40)
  have k0 := Blk.new w 40 #[.int .i64 xa, .int .i64 xb]
  have HM := Lib.hid (marks_any A n cap us _ hn hm (hr.on hb0) hv)
  have hvx := vld_iff.1 hx
  dsimp only at hvx
  obtain ⟨f, hf⟩ : ∃ f : Int → Bool, (fun q => mem q us) = f := ⟨_, rfl⟩
  have hfm : Hid (∀ q, mem q us = f q) := Lib.hid (fun q => by rw [← hf])
  have hC : Hid (cntF us (xa, xb) = cntN f xb.toNat xa) := Lib.hid (by unfold cntF; rw [hf])
  have hsn := Lib.hid (fun k => cntN_snoc f k xa)
  have hbd := Lib.hid (fun k => cntN_bound f k xa)
  obtain ⟨R, hR⟩ : ∃ R, cntF us (xa, xb) = R := ⟨_, rfl⟩
  rw [hR]
  rw [hR] at hC
  have hZ := zeros_are
  have hzs := hZ.size
  clear hf hv hx hn hR hZ
  obtain ⟨s, hs⟩ : ∃ s, w.heap.size = s := ⟨_, rfl⟩
  rw [hs] at hb0 k0
  go_enter Try.func97, Try.ntmps97
  try simp only [hs]
  go_wp2_with fail
  refine HM.out.mono ?_
  rintro e w1 ⟨cs, rfl, hMA, hb1⟩
  have k1 := k0.call hb1
  have B1 := hb0.trans (hb1.mono (by have := hb0.size; omega))
  have hsz := hMA.size
  have hone := hMA.one
  have kZ := Blk.new w1 103 Try.zeroCells103
  have hth := blk_there kZ
  have hs1 := k1.lt
  have hat := hMA.at_
  clear HM
  go_upto_region 2 with (refine wpList_store_mid rfl 103 (.tmp 5) (.tmp 9) rfl w1.heap.size 0 cs rfl rfl (by rw [hsz, ← hzs]; exact hth) (by rw [hsz]; kernel_rfl) hone ?_)
  have hrg := World.rangeAt_setCells_same (w1.alloc (.cells Try.zeroCells103 103)) w1.heap.size 0 cs.toList (by rw [Array.length_toList, hsz, ← hzs]; exact hth)
  have hbz := below_setCells w1.heap.size (Nat.le_refl _) cs.toList 0 _ ((Below.refl w1.heap.size w1).alloc (Nat.le_refl _) (.cells Try.zeroCells103 103))
  generalize (w1.alloc (.cells Try.zeroCells103 103)).setCells w1.heap.size 0 cs.toList = W9 at *
  have k9 := k1.call hbz
  have B9 := B1.trans (hbz.mono (by have := B1.size; omega))
  have c9 := k9.cell
  have hcell : Hid (∀ p : Nat, p < 1024 → W9.cell? ⟨w1.heap.size, p, none⟩ = some (.bool (f p))) := Lib.hid (fun p hp => by
    have h := hrg p (.bool (f p)) (by
      rw [Array.getElem?_toList, hat p hp]
      exact congrArg (fun b => some (Value.bool b)) (hfm.out p))
    rw [Nat.zero_add] at h
    exact h)
  generalize w1.heap.size = g at *
  clear hrg hat hth kZ k1 k9 hone hsz hzs hMA hbz B1 hb1 hb0 k0 hfm
  go_wp2_with fail
  go_loopw [6, 7] (fun nn i wr => ∃ (j : Nat) (z : Int), (j : Int) ≤ xb ∧ i = .int .i64 (xa + j) ∧ nn = .int .i64 z ∧ 0 ≤ z ∧ z ≤ j ∧ Hid (z = cntN f j xa) ∧ wr = W9) (fun _ i _ => (xa + xb - intOf i).toNat)
  case atStart => exact ⟨0, 0, by omega, by simp, rfl, by omega, by omega, Lib.hid rfl, rfl⟩
  case round =>
    obtain ⟨j, z, hj, rfl, rfl, hz0, hz1, hz, hw⟩ := hrel
    have hw' := hw.symm
    clear hw
    subst hw'
    by_cases hlt : (j : Int) < xb
    · have hlt' : decide (xa + (j : Int) < xa + xb) = true := by simp; omega
      have hcj := hcell.out (xa + j).toNat (by omega)
      have hst := Lib.hid (hsn.out j)
      have e : (((xa + (j : Int)).toNat : Nat) : Int) = xa + j := by omega
      rw [e] at hcj
      clear e
      cases hfj : f (xa + j) with
      | true =>
        rw [hfj] at hcj
        have hz2 : Hid (z + 1 = cntN f (j + 1) xa) := Lib.hid (by rw [hst.out, hfj, hz.out, if_pos rfl])
        clear hst hfj
        go_wp2_with fail
        go_roundw
        case rel => exact ⟨j + 1, z + 1, by omega, by go_num, by go_num, by omega, by omega, hz2, trivial⟩
        case measure => simp [intOf]; omega
      | false =>
        rw [hfj] at hcj
        have hz2 : Hid (z = cntN f (j + 1) xa) := Lib.hid (by rw [hst.out, hfj, hz.out, if_neg (by decide)]; omega)
        clear hst hfj
        go_wp2_with fail
        go_roundw
        case rel => exact ⟨j + 1, z, by omega, by go_num, rfl, by omega, by omega, hz2, trivial⟩
        case measure => simp [intOf]; omega
    · have hlt' : decide (xa + (j : Int) < xa + xb) = false := by simp; omega
      have hE : Hid (z = R) := Lib.hid (by rw [hz.out, hC.out, show xb.toNat = j by omega])
      go_wp2_with fail
      go_ret
      exact ⟨ret_int hE.out, B9⟩

theorem askS_zero {us : List Sp} {x : Sp} (h : askS us x = 0) : Go.Pol.Can us ∧ vld x = true := by
  unfold askS at h
  by_cases hz : chkS us = 0
  · rw [if_pos hz] at h
    by_cases hv : vld x = true
    · exact ⟨chkS_zero.1 hz, hv⟩
    · rw [if_neg hv] at h; cases h
  · rw [if_neg hz] at h; exact absurd h hz

set_option maxHeartbeats 800000 in
theorem rHas_any (A : Option Addr) (n cap : Nat) (us : List Sp) (p q : Int) (w : World) (hn : us.length = n) (hm : n ≤ maxLen) (hr : RU w w.heap.size A us) :
    Calls Try.prog 52 #[.slice A n cap, .agg #[.int .i64 p, .int .i64 q]] w fun e w' => e = .returned (.tuple #[.bool (decide (askS us (p, q) = 0) && (cntF us (p, q) == q)), .int .i64 (askS us (p, q))]) ∧ Below w.heap.size w w' := by
  have hb0 := (Below.refl w.heap.size w).alloc (Nat.le_refl _) (.cells #[.int .i64 p, .int .i64 q] 40)
  have k0 := Blk.new w 40 #[.int .i64 p, .int .i64 q]
  have z0 := k0.cell
  have hr0 := hr.on hb0
  have HA := Lib.hid (asked_any A n cap us p q _ hn hm hr0)
  by_cases h0 : askS us (p, q) = 0
  · obtain ⟨hu, hv⟩ := askS_zero h0
    have hl := hu.len
    have HK := Lib.hid (fun W h => rcount_any A n cap us p q W hn (by omega) h hu.1 hv)
    rw [h0] at HA ⊢
    generalize cntF us (p, q) = C at *
    clear h0 hu hv hn
    go_enter Try.func52, Try.ntmps52
    go_wp2_with fail
    refine HA.out.mono ?_
    rintro e w1 ⟨rfl, hb1⟩
    have B1 := hb0.trans (hb1.mono hb0.size)
    have k1 := k0.call hb1
    have r1 := hr0.on hb1
    have q1 := fun z : Ext w1 => (z.blk k1).cell
    have CK : Hid (∀ z : Ext w1, Calls Try.prog 97 #[.slice A n cap, .agg #[.int .i64 p, .int .i64 q]] z.w fun e w'' => e = .returned (.int .i64 C) ∧ ∃ t : Ext w1, w'' = t.w) := Lib.hid (fun z => Ext.call (HK.out _ (r1.on z.le)))
    clear HA k0 z0 hr0
    go_upto_region 4 with fail
    refine region_ext (by kernel_rfl) (by kernel_rfl) ?_
    repeat (go_big_quiet_step ((go_at_call 97; exact CK.out _)))
    refine wpQuiet_nil ?_
    rintro w2 ⟨⟨_, hw2⟩, rfl⟩
    go_wp2_with fail
    go_ret2
    exact ⟨rfl, B1.trans (hw2.mono B1.size)⟩
  · obtain ⟨er, her⟩ : ∃ er, askS us (p, q) = er := ⟨_, rfl⟩
    rw [her] at HA h0 ⊢
    have hz' : (er != 0) = true := by simpa using h0
    have hz2 : decide (er = 0) = false := by simpa using h0
    rw [hz2, Bool.false_and]
    clear her h0
    go_enter Try.func52, Try.ntmps52
    go_wp2_with fail
    refine HA.out.mono ?_
    rintro e w1 ⟨rfl, hb1⟩
    go_wp2_with fail
    go_ret2
    exact ⟨rfl, hb0.trans (hb1.mono hb0.size)⟩

set_option maxHeartbeats 800000 in
theorem rMeets_any (A : Option Addr) (n cap : Nat) (us : List Sp) (p q : Int) (w : World) (hn : us.length = n) (hm : n ≤ maxLen) (hr : RU w w.heap.size A us) :
    Calls Try.prog 54 #[.slice A n cap, .agg #[.int .i64 p, .int .i64 q]] w fun e w' => e = .returned (.tuple #[.bool (decide (askS us (p, q) = 0) && decide (0 < cntF us (p, q))), .int .i64 (askS us (p, q))]) ∧ Below w.heap.size w w' := by
  have hb0 := (Below.refl w.heap.size w).alloc (Nat.le_refl _) (.cells #[.int .i64 p, .int .i64 q] 40)
  have k0 := Blk.new w 40 #[.int .i64 p, .int .i64 q]
  have z0 := k0.cell
  have hr0 := hr.on hb0
  have HA := Lib.hid (asked_any A n cap us p q _ hn hm hr0)
  by_cases h0 : askS us (p, q) = 0
  · obtain ⟨hu, hv⟩ := askS_zero h0
    have hl := hu.len
    have HK := Lib.hid (fun W h => rcount_any A n cap us p q W hn (by omega) h hu.1 hv)
    rw [h0] at HA ⊢
    generalize cntF us (p, q) = C at *
    clear h0 hu hv hn
    go_enter Try.func54, Try.ntmps54
    go_wp2_with fail
    refine HA.out.mono ?_
    rintro e w1 ⟨rfl, hb1⟩
    have B1 := hb0.trans (hb1.mono hb0.size)
    have k1 := k0.call hb1
    have z1 := k1.cell
    have r1 := hr0.on hb1
    clear HA k0 z0 hr0
    go_wp2_with fail
    refine (HK.out _ r1).mono ?_
    rintro e w2 ⟨rfl, hb2⟩
    go_wp2_with fail
    go_ret2
    exact ⟨rfl, B1.trans (hb2.mono B1.size)⟩
  · obtain ⟨er, her⟩ : ∃ er, askS us (p, q) = er := ⟨_, rfl⟩
    rw [her] at HA h0 ⊢
    have hz' : (er != 0) = true := by simpa using h0
    have hz2 : decide (er = 0) = false := by simpa using h0
    rw [hz2, Bool.false_and]
    clear her h0
    go_enter Try.func54, Try.ntmps54
    go_wp2_with fail
    refine HA.out.mono ?_
    rintro e w1 ⟨rfl, hb1⟩
    go_wp2_with fail
    go_ret2
    exact ⟨rfl, hb0.trans (hb1.mono hb0.size)⟩

set_option maxHeartbeats 800000 in
theorem rCount_any (A : Option Addr) (n cap : Nat) (us : List Sp) (w : World) (hn : us.length = n) (hm : n ≤ maxLen) (hr : RU w w.heap.size A us) :
    Calls Try.prog 55 #[.slice A n cap] w fun e w' => e = .returned (.tuple #[.int .i64 (if chkS us = 0 then sumS us else 0), .int .i64 (chkS us)]) ∧ Below w.heap.size w w' := by
  have HC := Lib.hid (refSpCheck_any A n cap us w hn hm hr)
  by_cases hc : chkS us = 0
  case neg =>
    rw [if_neg hc]
    generalize chkS us = er at *
    have hc' : (er != 0) = true := by simpa using hc
    clear hc
    go_enter Try.func55, Try.ntmps55
    go_wp2_with fail
    refine HC.out.mono ?_
    rintro e w1 ⟨rfl, hb1⟩
    go_wp2_with fail
    go_ret2
    exact ⟨rfl, hb1⟩
  case pos =>
    have hcan := chkS_zero.1 hc
    rw [hc, if_pos rfl]
    rw [hc] at HC
    have hl := hcan.len
    have HK := Lib.hid (fun W h => rcount_any A n cap us 0 1024 W hn (by omega) h hcan.1 (by decide))
    rw [count_law hcan] at HK
    generalize sumS us = C at *
    clear hcan hc hn
    go_enter Try.func55, Try.ntmps55
    go_wp2_with fail
    refine HC.out.mono ?_
    rintro e w1 ⟨rfl, hb1⟩
    go_wp2_with fail
    refine (HK.out _ (hr.on hb1)).mono ?_
    rintro e w2 ⟨rfl, hb2⟩
    go_wp2_with fail
    go_ret2
    exact ⟨rfl, hb1.trans (hb2.mono hb1.size)⟩
end Go.Proofs.Ytfmnlpgboolpmaa
