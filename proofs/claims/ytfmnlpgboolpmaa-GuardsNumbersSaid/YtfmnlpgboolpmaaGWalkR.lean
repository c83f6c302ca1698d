/- Walk: the law GuardsNumbers. -/
import Derived.Test.YtfmnlpgboolpmaaGWalkP
import Derived.Test.YtfmnlpgboolpmaaGWalkO
namespace Go.Proofs.Ytfmnlpgboolpmaa
open Go Go.Proofs Go.RowKit Go.Pol

set_option maxRecDepth 100000 in
set_option maxHeartbeats 6400000 in
theorem numbersLaw_any (pg n f b ev i page : Int) (w : World) (hi0 : -9223372036854775808 ≤ i) (hi1 : i ≤ 9223372036854775807) :
    Calls Try.prog 3 #[planV pg n f b ev, .int .i64 i, .int .i64 page] w fun e w' => e = .returned (.bool true) ∧ Below w.heap.size w w' := by
  have H1 := Lib.hid (fun W => nth_any pg n f b ev i W hi0 hi1 _ rfl)
  have H2 := Lib.hid (fun W => refNth_any pg n f b ev i W _ rfl)
  have H3 := Lib.hid (fun W => index_any pg n f b ev page W _ rfl)
  have H4 := Lib.hid (fun W => refIndex_any pg n f b ev page W _ rfl)
  have H5 := Lib.hid (fun W => least_any i f b ev W _ rfl)
  have H6 := Lib.hid (fun W => refLeast_any i f b ev W _ (least_law i f b ev))
  generalize (if chkG pg n f b ev = 0 then nthF (runsL pg n f b ev) i else (0, chkG pg n f b ev)) = RA at *
  generalize (if chkG pg n f b ev = 0 then idxF page 0 (runsL pg n f b ev) else (0, chkG pg n f b ev)) = RB at *
  generalize leastF i f b ev = RC at *
  obtain ⟨a1, a2⟩ := RA
  obtain ⟨b1, b2⟩ := RB
  obtain ⟨c1, c2, c3⟩ := RC
  simp only at H1 H2 H3 H4 H5 H6
  have hb0 := (Below.refl w.heap.size w).alloc (Nat.le_refl _) (.cells (planC pg n f b ev) 25)
  have k0 := Blk.new w 25 (planC pg n f b ev)
  have z0 := k0.cell
  have x1 : (a1 == a1) = true := by simp
  have x2 : (a2 == a2) = true := by simp
  have x3 : (b1 == b1) = true := by simp
  have x4 : (b2 == b2) = true := by simp
  have x5 : (c1 == c1) = true := by simp
  have x6 : (c2 == c2) = true := by simp
  have x7 : (c3 == c3) = true := by simp
  clear hi0 hi1
  go_enter Try.func3, Try.ntmps3
  go_wp2_with fail
  refine (H1.out _).mono ?_
  rintro e w1 ⟨rfl, hb1⟩
  have B1 := hb0.trans (hb1.mono hb0.size)
  have k1 := k0.call hb1
  have z1 := k1.cell
  clear hb1 k0 z0 H1
  go_wp2_with fail
  refine (H2.out _).mono ?_
  rintro e w2 ⟨rfl, hb2⟩
  have B2 := B1.trans (hb2.mono B1.size)
  have k2 := k1.call hb2
  have z2 := k2.cell
  clear hb2 k1 z1 H2 B1
  go_wp2_with fail
  refine (H3.out _).mono ?_
  rintro e w3 ⟨rfl, hb3⟩
  have B3 := B2.trans (hb3.mono B2.size)
  have k3 := k2.call hb3
  have z3 := k3.cell
  clear hb3 k2 z2 H3 B2
  go_wp2_with fail
  refine (H4.out _).mono ?_
  rintro e w4 ⟨rfl, hb4⟩
  have B4 := B3.trans (hb4.mono B3.size)
  have k4 := k3.call hb4
  have z4 := k4.cell
  clear hb4 k3 z3 H4 B3
  go_wp2_with fail
  refine (H5.out _).mono ?_
  rintro e w5 ⟨rfl, hb5⟩
  have B5 := B4.trans (hb5.mono B4.size)
  have k5 := k4.call hb5
  have z5 := k5.cell
  clear hb5 k4 z4 H5 B4
  go_wp2_with fail
  refine (H6.out _).mono ?_
  rintro e w6 ⟨rfl, hb6⟩
  have B6 := B5.trans (hb6.mono B5.size)
  clear hb6 k5 z5 H6 B5
  go_wp2_with fail
  refine (awake_any _).mono ?_
  rintro e w7 ⟨rfl, hb7⟩
  go_wp2_with fail
  go_ret
  exact ⟨rfl, B6.trans (hb7.mono B6.size)⟩

end Go.Proofs.Ytfmnlpgboolpmaa
