/- Walk: the law GuardsSeen. -/
import Derived.Test.YtfmnlpgboolpmaaGWalkH
import Derived.Test.YtfmnlpgboolpmaaGWalkO
namespace Go.Proofs.Ytfmnlpgboolpmaa
open Go Go.Proofs Go.RowKit Go.Pol

/-- what Hit answers for a plan that is as it must be and an access within bounds -/
def seenR (pg n f b : Int) (L : List Sp) (fi la : Int) : Int × Int × Int :=
  if la < skipF fi L then (0, -1, 0) else (hitK pg n f b (skipF fi L), skipF fi L, 0)
theorem hitK_ne (pg n f b q : Int) : hitK pg n f b q ≠ 0 := by
  unfold hitK
  split
  · decide
  split
  · decide
  split <;> decide
theorem hitK_four {pg n f b q : Int} (h : pg ≤ q) : hitK pg n f b q = 4 ↔ pg + n ≤ q := by
  unfold hitK
  by_cases h1 : q < pg ∨ pg + n ≤ q
  · rw [if_pos h1]; constructor
    · intro _; omega
    · intro _; rfl
  · rw [if_neg h1]; constructor
    · repeat' split
      all_goals (intro h; cases h)
    · intro _; omega
theorem seen_any {pg n f b ev : Int} (hc : chkG pg n f b ev = 0) (a m : Int) (h : ¬ badHit a m) (W : World) : Calls Try.prog 24 #[planV pg n f b ev, .int .i64 a, .int .i64 m] W
    fun e w' => e = .returned (.tuple #[.int .i64 (seenR pg n f b (runsL pg n f b ev) (a / 64) ((a + m - 1) / 64)).1, .int .i64 (seenR pg n f b (runsL pg n f b ev) (a / 64) ((a + m - 1) / 64)).2.1, .int .i64 (seenR pg n f b (runsL pg n f b ev) (a / 64) ((a + m - 1) / 64)).2.2]) ∧ Below W.heap.size W w' :=
  hit_any pg n f b ev a m W _ (by unfold hitF seenR; rw [if_pos hc, if_neg h])

set_option maxRecDepth 100000 in
set_option maxHeartbeats 1600000 in
theorem seenLaw_any (pg n f b ev x y : Int) (w : World) (hx : 0 ≤ x ∧ x ≤ 65535) (hy : 0 ≤ y ∧ y ≤ 65535) :
    Calls Try.prog 5 #[planV pg n f b ev, .int .u16 x, .int .u16 y] w fun e w' => e = .returned (.bool true) ∧ Below w.heap.size w w' := by
  have H1 := Lib.hid (fun W => usable_any pg n f b ev W)
  have hb0 := (Below.refl w.heap.size w).alloc (Nat.le_refl _) (.cells (planC pg n f b ev) 25)
  have k0 := Blk.new w 25 (planC pg n f b ev)
  have z0 := k0.cell
  by_cases hc : chkG pg n f b ev = 0
  · have hp := chkG_zero.1 hc
    have H2 := Lib.hid (seen_any hc)
    have hL := (runsL_ok hp).1
    have hlen := runsL_len hp
    obtain ⟨a1, a2, a3, a4, a5, a6, a7, a8, a9, a10, a11⟩ := hp
    rw [if_pos hc, hc] at H1
    generalize runsL pg n f b ev = L at *
    clear hc
    unfold SpansR at H1
    have y1 : decide (n < 1) = false := by simpa using a3
    have y2 : decide (pg < 0) = false := by simpa using a1
    have y3 : decide (1024 < n) = false := by simp; omega
    have y4 : decide (1024 - n < pg) = false := by simp; omega
    go_enter Try.func5, Try.ntmps5
    go_wp2_with fail
    refine (H1.out _).mono ?_
    rintro e w1 ⟨A, cap, rfl, hri, hcap, hmax, _, hb1⟩
    have B1 := hb0.trans (hb1.mono hb0.size)
    have k1 := k0.call hb1
    have z1 := k1.cell
    clear hb1 k0 z0 H1
    go_upto_region 4 with fail
    have q1 := fun z : Ext w1 => (z.blk k1).cell
    refine region_ext (by kernel_rfl) (by kernel_rfl) ?_
    repeat (go_big_quiet_step (fail))
    refine wpQuiet_nil ?_
    rintro w2 ⟨⟨_, hw2⟩, rfl⟩
    have B2 := B1.trans (hw2.mono B1.size)
    have k2 := k1.call hw2
    have z2 := k2.cell
    clear q1 k1 z1 B1
    obtain ⟨a, ha⟩ : ∃ a : Int, wrap64 (pg * 64 + x % (n * 64)) = a := ⟨_, rfl⟩
    have hr1 : 0 ≤ x % (n * 64) := Int.emod_nonneg _ (by omega)
    have hr2 : x % (n * 64) < n * 64 := Int.emod_lt_of_pos _ (by omega)
    have ha' := ha
    rw [IntWalk.wrap64_in _ (by omega)] at ha'
    rw [ha]
    generalize x % (n * 64) = r at *
    clear ha
    have hA : pg * 64 ≤ a ∧ a < (pg + n) * 64 := by omega
    clear ha' hr1 hr2
    have hr3 : 0 ≤ y % 2000 := Int.emod_nonneg _ (by omega)
    have hr4 : y % 2000 < 2000 := Int.emod_lt_of_pos _ (by omega)
    go_wp2_with fail
    have hmr : 1 ≤ min (1 + y % 2000) (65536 - a) ∧ min (1 + y % 2000) (65536 - a) ≤ 2000 ∧ min (1 + y % 2000) (65536 - a) ≤ 65536 - a := by omega
    generalize min (1 + y % 2000) (65536 - a) = m at *
    clear hr3 hr4
    obtain ⟨r1, r2, hR⟩ : ∃ r1 r2 : Int, seenR pg n f b L (a / 64) ((a + m - 1) / 64) = (r1, r2, 0) := by unfold seenR; split <;> exact ⟨_, _, rfl⟩
    have H3 := H2.out a m (by unfold badHit; omega) w2
    rw [hR] at H3
    simp only at H3
    refine H3.mono ?_
    rintro e w3 ⟨rfl, hb3⟩
    have B3 := B2.trans (hb3.mono B2.size)
    have k3 := k2.call hb3
    have r3 := hri.on (hw2.trans (hb3.mono hw2.size))
    clear k2 z2 H2 H3 B2 hri
    have hd1 : Int.tdiv a 64 = a / 64 := Int.tdiv_eq_ediv_of_nonneg (by omega)
    have hd2 : Int.tdiv (a + m - 1) 64 = (a + m - 1) / 64 := Int.tdiv_eq_ediv_of_nonneg (by omega)
    have hfi : pg ≤ a / 64 ∧ a / 64 < pg + n := by omega
    have hla : a / 64 ≤ (a + m - 1) / 64 ∧ (a + m - 1) / 64 ≤ 1100 := by omega
    go_upto_region 10 with fail
    generalize a / 64 = fi at *
    generalize (a + m - 1) / 64 = la at *
    have hR' := Lib.hid hR
    have hL' := Lib.hid hL
    obtain ⟨ll, hll⟩ : ∃ ll, L.length = ll := ⟨_, rfl⟩
    rw [hll] at hcap hlen ⊢
    have hll' := Lib.hid hll
    clear hR hL hll hd1 hd2 y1 y2 y3 y4 hx hy hw2 hb3
    go_wp2_with fail
    go_loopw [16] (fun i wr => ∃ k : Nat, k ≤ ll ∧ i = .int .i64 k ∧ Blk wr w.heap.size 25 (planC pg n f b ev) ∧ RU wr wr.heap.size A L ∧ Below w.heap.size w wr ∧ Hid (skipF fi L = skipF fi (L.drop k))) (fun i _ => ll - (intOf i).toNat)
    case atStart => exact ⟨0, by omega, rfl, k3, r3, B3, Lib.hid rfl⟩
    case round =>
      obtain ⟨k, hk, rfl, kS, hr, hB, hH⟩ := hrel
      by_cases hlt : k < ll
      · have hlt' : decide ((k : Int) < (ll : Int)) = true := by simpa using hlt
        obtain ⟨bb, o, rfl, hbl, hc, hd⟩ := RU.at_' hr (k := k) (by have := hll'.out; omega)
        have hvx := hL'.out (L.getD k (0,0)) (by rw [List.getD_eq_getElem?_getD, List.getElem?_eq_getElem (by have := hll'.out; omega)]; simp)
        have hdr : Hid (L.drop k = L.getD k (0,0) :: L.drop (k + 1)) := Lib.hid (by rw [List.drop_eq_getElem_cons (by have := hll'.out; omega), List.getD_eq_getElem?_getD, List.getElem?_eq_getElem (by have := hll'.out; omega)]; rfl)
        generalize L.getD k (0,0) = z at *
        obtain ⟨xa, xb⟩ := z
        dsimp only at hc hd hvx
        have hS : Hid (skipF fi L = if xa ≤ fi ∧ fi < xa + xb then xa + xb else skipF fi (L.drop (k + 1))) := Lib.hid (by rw [hH.out, hdr.out]; rfl)
        clear hdr hH
        have q1 := fun z : Ext wr => z.cell hc
        have q2 := fun z : Ext wr => z.cell hd
        by_cases f1 : fi < xa
        · have f1' : decide (fi < xa) = true := by simpa using f1
          have hN : Hid (skipF fi L = skipF fi (L.drop (k + 1))) := Lib.hid (by rw [hS.out, if_neg (by omega)])
          clear hS
          go_upto_region 13 with fail
          refine region_ext (by kernel_rfl) (by kernel_rfl) ?_
          repeat (go_big_quiet_step (fail))
          refine wpQuiet_nil ?_
          rintro w4 ⟨⟨_, hw4⟩, rfl⟩
          have hB4 := hB.trans (hw4.mono hB.size)
          have kS4 := kS.call hw4
          have hr4 := hr.on hw4
          go_wp2_with fail
          go_roundw
          case rel => exact ⟨k + 1, by omega, by go_num, kS4, hr4, hB4, hN⟩
          case measure => simp [intOf]; omega
        · have f1' : decide (fi < xa) = false := by simpa using f1
          by_cases f2 : xa + xb ≤ fi
          · have f2' : decide (xa + xb ≤ fi) = true := by simpa using f2
            have hN : Hid (skipF fi L = skipF fi (L.drop (k + 1))) := Lib.hid (by rw [hS.out, if_neg (by omega)])
            clear hS
            go_upto_region 13 with fail
            refine region_ext (by kernel_rfl) (by kernel_rfl) ?_
            repeat (go_big_quiet_step (fail))
            refine wpQuiet_nil ?_
            rintro w4 ⟨⟨_, hw4⟩, rfl⟩
            have hB4 := hB.trans (hw4.mono hB.size)
            have kS4 := kS.call hw4
            have hr4 := hr.on hw4
            go_wp2_with fail
            go_roundw
            case rel => exact ⟨k + 1, by omega, by go_num, kS4, hr4, hB4, hN⟩
            case measure => simp [intOf]; omega
          · have f2' : decide (xa + xb ≤ fi) = false := by simpa using f2
            have hE : Hid (skipF fi L = xa + xb) := Lib.hid (by rw [hS.out, if_pos (by omega)])
            clear hS
            go_upto_region 13 with fail
            refine region_ext (by kernel_rfl) (by kernel_rfl) ?_
            repeat (go_big_quiet_step (fail))
            refine wpQuiet_nil ?_
            rintro w4 ⟨⟨_, hw4⟩, rfl⟩
            have hB4 := hB.trans (hw4.mono hB.size)
            have kS4 := kS.call hw4
            have hc4 := (hw4.cell (p := ⟨bb, o + k * 2, none⟩) hbl).trans hc
            have hd4 := (hw4.cell (p := ⟨bb, o + k * 2 + 1, none⟩) hbl).trans hd
            have hbl4 : bb < w4.heap.size := Nat.lt_of_lt_of_le hbl hw4.size
            clear q1 q2 kS hc hd hr
            have q1 := fun z : Ext w4 => z.cell hc4
            have q2 := fun z : Ext w4 => z.cell hd4
            by_cases f3 : la < xa + xb
            · have f3' : decide (la < xa + xb) = true := by simpa using f3
              have hR2 : Hid (r1 = 0 ∧ r2 = -1) := Lib.hid (by have h := hR'.out; unfold seenR at h; rw [hE.out, if_pos f3] at h; simp only [Prod.mk.injEq] at h; exact ⟨h.1.symm, h.2.1.symm⟩)
              obtain ⟨rfl, rfl⟩ := hR2.out
              go_upto_region 14 with fail
              refine region_ext (by kernel_rfl) (by kernel_rfl) ?_
              repeat (go_big_quiet_step (fail))
              refine wpQuiet_nil ?_
              rintro w5 ⟨⟨_, hw5⟩, rfl⟩
              have hB5 := hB4.trans (hw5.mono hB4.size)
              go_wp2_with fail
              refine (awake_any _).mono ?_
              rintro e w6 ⟨rfl, hb6⟩
              go_wp2_with fail
              go_ret
              exact ⟨rfl, hB5.trans (hb6.mono hB5.size)⟩
            · have f3' : decide (la < xa + xb) = false := by simpa using f3
              have hR2 : Hid (r1 = hitK pg n f b (xa + xb) ∧ r2 = xa + xb) := Lib.hid (by have h := hR'.out; unfold seenR at h; rw [hE.out, if_neg f3] at h; simp only [Prod.mk.injEq] at h; exact ⟨h.1.symm, h.2.1.symm⟩)
              have hr1' : (r1 != 0) = true := by rw [hR2.out.1]; simpa using hitK_ne pg n f b (xa + xb)
              have hr4 := Lib.hid (show r1 = 4 ↔ pg + n ≤ xa + xb by rw [hR2.out.1]; exact hitK_four (by omega))
              obtain rfl := hR2.out.2
              go_upto_region 14 with fail
              refine region_ext (by kernel_rfl) (by kernel_rfl) ?_
              repeat (go_big_quiet_step (fail))
              refine wpQuiet_nil ?_
              rintro w5 ⟨⟨_, hw5⟩, rfl⟩
              have hB5 := hB4.trans (hw5.mono hB4.size)
              have kS5 := kS4.call hw5
              have hc5 := (hw5.cell (p := ⟨bb, o + k * 2, none⟩) hbl4).trans hc4
              have hd5 := (hw5.cell (p := ⟨bb, o + k * 2 + 1, none⟩) hbl4).trans hd4
              clear q1 q2 kS4 hc4 hd4
              have q1 := fun z : Ext w5 => z.cell hc5
              have q2 := fun z : Ext w5 => z.cell hd5
              have q3 := fun z : Ext w5 => (z.blk kS5).cell
              have C5 : Hid (∀ z : Ext w5, Calls Try.prog 23 #[] z.w fun e w'' => e = .returned (.bool true) ∧ ∃ y : Ext w5, w'' = y.w) := Lib.hid (fun z => Ext.call (awake_any _))
              by_cases f4 : pg + n ≤ xa + xb
              · have f4' : decide (pg + n ≤ xa + xb) = true := by simpa using f4
                have f5 : (r1 == 4) = true := by simpa using hr4.out.2 f4
                go_upto_region 16 with fail
                refine region_ext (by kernel_rfl) (by kernel_rfl) ?_
                repeat (go_big_quiet_step ((go_at_call 23; exact C5.out _)))
                refine wpQuiet_nil ?_
                rintro w6 ⟨⟨_, hw6⟩, rfl⟩
                go_wp2_with fail
                go_ret
                exact ⟨rfl, hB5.trans (hw6.mono hB5.size)⟩
              · have f4' : decide (pg + n ≤ xa + xb) = false := by simpa using f4
                have f5 : (r1 == 4) = false := by simpa using fun h => f4 (hr4.out.1 h)
                go_upto_region 16 with fail
                refine region_ext (by kernel_rfl) (by kernel_rfl) ?_
                repeat (go_big_quiet_step ((go_at_call 23; exact C5.out _)))
                refine wpQuiet_nil ?_
                rintro w6 ⟨⟨_, hw6⟩, rfl⟩
                go_wp2_with fail
                go_ret
                exact ⟨rfl, hB5.trans (hw6.mono hB5.size)⟩
      · have hlt' : decide ((k : Int) < (ll : Int)) = false := by simp; omega
        have hE : skipF fi L = fi := by rw [hH.out, List.drop_eq_nil_of_le (by have := hll'.out; omega)]; rfl
        have hR2 : Hid (r1 = hitK pg n f b fi ∧ r2 = fi) := Lib.hid (by have h := hR'.out; unfold seenR at h; rw [hE, if_neg (by omega)] at h; simp only [Prod.mk.injEq] at h; exact ⟨h.1.symm, h.2.1.symm⟩)
        have hr1' : (r1 != 0) = true := by rw [hR2.out.1]; simpa using hitK_ne pg n f b fi
        have hr4' : (r1 != 4) = true := by rw [hR2.out.1]; simp only [bne_iff_ne, ne_eq]; rw [hitK_four hfi.1]; omega
        obtain rfl := hR2.out.2
        go_wp2_with fail
        refine (awake_any _).mono ?_
        rintro e w6 ⟨rfl, hb6⟩
        go_wp2_with fail
        go_ret
        exact ⟨rfl, hB.trans (hb6.mono hB.size)⟩
  · have hc' : (chkG pg n f b ev != 0) = true := by simpa using hc
    rw [if_neg hc] at H1
    generalize chkG pg n f b ev = er at *
    clear hc
    unfold SpansR at H1
    go_enter Try.func5, Try.ntmps5
    go_wp2_with fail
    refine (H1.out _).mono ?_
    rintro e w1 ⟨A, cap, rfl, hri, hcap, hmax, _, hb1⟩
    have B1 := hb0.trans (hb1.mono hb0.size)
    simp only [List.length_nil]
    go_wp2_with fail
    refine (awake_any _).mono ?_
    rintro e w2 ⟨rfl, hb2⟩
    go_wp2_with fail
    go_ret
    exact ⟨rfl, B1.trans (hb2.mono B1.size)⟩

end Go.Proofs.Ytfmnlpgboolpmaa
