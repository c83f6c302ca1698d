/- Walk: the law GuardsSets. -/
import Derived.Test.YtfmnlpgboolpmaaGWalkM
import Derived.Test.YtfmnlpgboolpmaaGWalkO
namespace Go.Proofs.Ytfmnlpgboolpmaa
open Go Go.Proofs Go.RowKit Go.Pol

set_option maxRecDepth 100000 in
set_option maxHeartbeats 1600000 in
theorem setsLaw_any (pg n f b ev : Int) (w : World) :
    Calls Try.prog 6 #[planV pg n f b ev] w fun e w' => e = .returned (.bool true) ∧ Below w.heap.size w w' := by
  have H1 := Lib.hid (fun W => guards_any pg n f b ev W)
  have H2 := Lib.hid (fun W => refGuards_any pg n f b ev W)
  have H3 := Lib.hid (fun W => usable_any pg n f b ev W)
  have H4 := Lib.hid (fun W => refUsable_any pg n f b ev W)
  have H5 := Lib.hid (fun W => count_any pg n f b ev W)
  have H6 := Lib.hid (fun W => refCount_any pg n f b ev W)
  have H7 := Lib.hid (fun W => gcheck_any pg n f b ev W)
  have H8 := Lib.hid (fun W => rgcheck_any pg n f b ev W)
  generalize guardsF pg n f b ev = G at *
  generalize (if chkG pg n f b ev = 0 then runsL pg n f b ev else []) = U at *
  generalize countF pg n f b ev = C at *
  generalize chkG pg n f b ev = er at *
  obtain ⟨c1, c2⟩ := C
  simp only at H5 H6
  have hb0 := (Below.refl w.heap.size w).alloc (Nat.le_refl _) (.cells (planC pg n f b ev) 25)
  have k0 := Blk.new w 25 (planC pg n f b ev)
  have z0 := k0.cell
  have x1 : (er == er) = true := by simp
  have x2 : (c1 == c1) = true := by simp
  have x3 : (c2 == c2) = true := by simp
  obtain ⟨gl, hgl⟩ : ∃ gl, G.length = gl := ⟨_, rfl⟩
  obtain ⟨ul, hul⟩ : ∃ ul, U.length = ul := ⟨_, rfl⟩
  have hgl' := Lib.hid hgl
  have hul' := Lib.hid hul
  unfold SpansR at H1 H2 H3 H4
  rw [hgl] at H1 H2
  rw [hul] at H3 H4
  clear hgl hul
  go_enter Try.func6, Try.ntmps6
  go_wp2_with fail
  refine (H1.out _).mono ?_
  rintro e w1 ⟨A1, a1, rfl, r1, m1, n1, _, hb1⟩
  have B1 := hb0.trans (hb1.mono hb0.size)
  have k1 := k0.call hb1
  have z1 := k1.cell
  clear hb1 k0 z0 H1
  go_wp2_with fail
  refine (H2.out _).mono ?_
  rintro e w2 ⟨A2, a2, rfl, r2, m2, n2, _, hb2⟩
  have B2 := B1.trans (hb2.mono B1.size)
  have k2 := k1.call hb2
  have z2 := k2.cell
  have r1b := r1.on hb2
  clear hb2 k1 z1 r1 H2 B1
  go_wp2_with fail
  refine (H3.out _).mono ?_
  rintro e w3 ⟨A3, a3, rfl, r3, m3, n3, _, hb3⟩
  have B3 := B2.trans (hb3.mono B2.size)
  have k3 := k2.call hb3
  have z3 := k3.cell
  have r1c := r1b.on hb3
  have r2c := r2.on hb3
  clear hb3 k2 z2 r1b r2 H3 B2
  go_wp2_with fail
  refine (H4.out _).mono ?_
  rintro e w4 ⟨A4, a4, rfl, r4, m4, n4, _, hb4⟩
  have B4 := B3.trans (hb4.mono B3.size)
  have k4 := k3.call hb4
  have z4 := k4.cell
  have r1d := r1c.on hb4
  have r2d := r2c.on hb4
  have r3d := r3.on hb4
  clear hb4 k3 z3 r1c r2c r3 H4 B3
  go_wp2_with fail
  refine (H5.out _).mono ?_
  rintro e w5 ⟨rfl, hb5⟩
  have B5 := B4.trans (hb5.mono B4.size)
  have k5 := k4.call hb5
  have z5 := k5.cell
  have r1e := r1d.on hb5
  have r2e := r2d.on hb5
  have r3e := r3d.on hb5
  have r4e := r4.on hb5
  clear hb5 k4 z4 r1d r2d r3d r4 H5 B4
  go_wp2_with fail
  refine (H6.out _).mono ?_
  rintro e w6 ⟨rfl, hb6⟩
  have B6 := B5.trans (hb6.mono B5.size)
  have k6 := k5.call hb6
  have r1f := r1e.on hb6
  have r2f := r2e.on hb6
  have r3f := r3e.on hb6
  have r4f := r4e.on hb6
  clear hb6 k5 z5 r1e r2e r3e r4e H6 B5
  have q1 := fun z : Ext w6 => (z.blk k6).cell
  have C1 : Hid (∀ z : Ext w6, Calls Try.prog 32 #[planV pg n f b ev] z.w fun e w'' => e = .returned (.int .i64 er) ∧ ∃ y : Ext w6, w'' = y.w) := Lib.hid (fun z => Ext.call (H7.out _))
  have C2 : Hid (∀ z : Ext w6, Calls Try.prog 33 #[planV pg n f b ev] z.w fun e w'' => e = .returned (.int .i64 er) ∧ ∃ y : Ext w6, w'' = y.w) := Lib.hid (fun z => Ext.call (H8.out _))
  have C3 : Hid (∀ z : Ext w6, Calls Try.prog 34 #[.slice A1 gl a1, .slice A2 gl a2] z.w fun e w'' => e = .returned (.bool true) ∧ ∃ y : Ext w6, w'' = y.w) := Lib.hid (fun z => Ext.call (sameT_any A1 A2 gl a1 a2 G G _ hgl'.out (Nat.le_trans m1 n1) rfl (r1f.on z.le) (r2f.on z.le)))
  have C4 : Hid (∀ z : Ext w6, Calls Try.prog 34 #[.slice A3 ul a3, .slice A4 ul a4] z.w fun e w'' => e = .returned (.bool true) ∧ ∃ y : Ext w6, w'' = y.w) := Lib.hid (fun z => Ext.call (sameT_any A3 A4 ul a3 a4 U U _ hul'.out (Nat.le_trans m3 n3) rfl (r3f.on z.le) (r4f.on z.le)))
  have C5 : Hid (∀ z : Ext w6, Calls Try.prog 23 #[] z.w fun e w'' => e = .returned (.bool true) ∧ ∃ y : Ext w6, w'' = y.w) := Lib.hid (fun z => Ext.call (awake_any _))
  clear r1f r2f r3f r4f H7 H8
  go_upto_region 7 with fail
  refine region_ext (by kernel_rfl) (by kernel_rfl) ?_
  iterate 18 go_big_quiet_step (first | (go_at_call 32; exact C1.out _) | (go_at_call 33; exact C2.out _) | (go_at_call 34; exact C3.out _) | (go_at_call 23; exact C5.out _))
  clear C3
  repeat (go_big_quiet_step (first | (go_at_call 32; exact C1.out _) | (go_at_call 33; exact C2.out _) | (go_at_call 34; exact C4.out _) | (go_at_call 23; exact C5.out _)))
  refine wpQuiet_nil ?_
  rintro w7 ⟨⟨_, hw7⟩, rfl⟩
  go_wp2_with fail
  go_ret
  exact ⟨rfl, B6.trans (hw7.mono B6.size)⟩

end Go.Proofs.Ytfmnlpgboolpmaa
