/- Walks: the examples of the document for layer 3. -/
import Derived.Test.YtfmnlpgboolpmaaSWalkE
import Derived.Test.YtfmnlpgboolpmaaGWalkO
namespace Go.Proofs.Ytfmnlpgboolpmaa
open Go Go.Proofs Go.RowKit Go.Pol Go.Shelf

abbrev exL : List Sp := [(4, 4), (16, 20)]
theorem ex3_any (w : World) : Calls Try.prog 86 #[] w fun e w' => ∃ A, e = .returned (.slice A 2 2) ∧ RU w' w'.heap.size A exL ∧ Below w.heap.size w w' := by
  have k1 := Blk.new w 40 #[.int .i64 4, .int .i64 4, .int .i64 16, .int .i64 20]
  have hb := (Below.refl w.heap.size w).alloc (Nat.le_refl _) (.cells #[.int .i64 4, .int .i64 4, .int .i64 16, .int .i64 20] 40)
  go_enter Try.func86, Try.ntmps86
  go_wp2_with fail
  go_ret
  exact ⟨_, rfl, ru_blkL k1 rfl, hb⟩
theorem one3_any (p q : Int) (w : World) : Calls Try.prog 87 #[.int .i64 p, .int .i64 q] w fun e w' => ∃ A, e = .returned (.slice A 1 1) ∧ RU w' w'.heap.size A [(p, q)] ∧ Below w.heap.size w w' := by
  have k1 := Blk.new w 40 #[.int .i64 p, .int .i64 q]
  have hb := (Below.refl w.heap.size w).alloc (Nat.le_refl _) (.cells #[.int .i64 p, .int .i64 q] 40)
  go_enter Try.func87, Try.ntmps87
  go_wp2_with fail
  go_ret
  exact ⟨_, rfl, ru_blkL k1 rfl, hb⟩
theorem ex_of : ofE [(6, 4), (2, 3), (5, 1)] = 0 ∧ setOf [(6, 4), (2, 3), (5, 1)] = [(2, 8)] := by decide +kernel
theorem ex_can : chkS exL = 0 := by decide +kernel
theorem ex_meet : commonF exL [(6, 12)] = [(6, 2), (16, 2)] := by decide +kernel
theorem ex_one : chkS [(6, 12)] = 0 := by decide +kernel
theorem ex_not : askS exL (0, 16) = 0 ∧ gapsF exL (0, 16) = [(0, 4), (8, 8)] := by decide +kernel
theorem ex_sum : sumS exL = 24 := by decide +kernel
theorem ex_first : firstF exL 4 32 = (32, 0) := by decide +kernel
theorem ex_pieces : piecesF exL 16 = [(4, 4), (16, 16), (32, 4)] := by decide +kernel
theorem exOf_any (A : Option Addr) (W : World) (hr : RU W W.heap.size A [(6, 4), (2, 3), (5, 1)]) : Calls Try.prog 40 #[.slice A 3 3] W (GR W [(2, 8)]) := by
  have h := ofTop_any A 3 3 _ W rfl (by unfold maxLen; omega) hr
  rw [ex_of.1, ex_of.2, if_pos rfl] at h
  refine h.mono ?_
  rintro e w' ⟨A, cap, rfl, hr, _, _, _, hb, _⟩
  exact ⟨A, cap, rfl, hr, hb⟩
theorem exMeet_any (A B : Option Addr) (W : World) (hr : RU W W.heap.size A exL) (hr2 : RU W W.heap.size B [(6, 12)]) : Calls Try.prog 35 #[.slice A 2 2, .slice B 1 1] W (GR W [(6, 2), (16, 2)]) := by
  have h := meet_any A B 2 2 1 1 _ _ W rfl (by omega) (by unfold maxLen; omega) hr rfl (by omega) (by unfold maxLen; omega) hr2
  rw [ex_can, ex_one, ex_meet, if_pos ⟨rfl, rfl⟩, if_pos rfl] at h
  refine h.mono ?_
  rintro e w' ⟨A, cap, rfl, hr, _, _, _, hb⟩
  exact ⟨A, cap, rfl, hr, hb⟩
theorem exNot_any (A : Option Addr) (W : World) (hr : RU W W.heap.size A exL) : Calls Try.prog 66 #[.slice A 2 2, .agg #[.int .i64 0, .int .i64 16]] W (GR W [(0, 4), (8, 8)]) := by
  have h := not_any A 2 2 _ 0 16 W rfl (by omega) (by unfold maxLen; omega) hr
  rw [ex_not.1, ex_not.2, if_pos rfl] at h
  refine h.mono ?_
  rintro e w' ⟨A, cap, rfl, hr, _, _, _, hb⟩
  exact ⟨A, cap, rfl, hr, hb⟩
theorem exCount_any (A : Option Addr) (W : World) (hr : RU W W.heap.size A exL) : Calls Try.prog 51 #[.slice A 2 2] W fun e w' => e = .returned (.tuple #[.int .i64 24, .int .i64 0]) ∧ Below W.heap.size W w' := by
  have h := countS_any A 2 2 _ W rfl (by unfold maxLen; omega) hr
  rw [ex_can, ex_sum, if_pos rfl] at h
  exact h
theorem exFirst_any (A : Option Addr) (W : World) (hr : RU W W.heap.size A exL) : Calls Try.prog 56 #[.slice A 2 2, .int .i64 4, .int .i64 32] W fun e w' => e = .returned (.tuple #[.int .i64 32, .int .i64 0]) ∧ Below W.heap.size W w' := by
  have h := first_any A 2 2 _ 4 32 W rfl (by unfold maxLen; omega) hr
  rw [ex_first] at h
  exact h

set_option maxRecDepth 100000 in
set_option maxHeartbeats 1600000 in
theorem awake3_any (w : World) : Calls Try.prog 39 #[] w fun e w' => e = .returned (.bool true) ∧ Below w.heap.size w w' := by
  have hb0 := (Below.refl w.heap.size w).alloc (Nat.le_refl _) (.cells #[.int .i64 6, .int .i64 4, .int .i64 2, .int .i64 3, .int .i64 5, .int .i64 1] 40)
  have k0 := Blk.new w 40 #[.int .i64 6, .int .i64 4, .int .i64 2, .int .i64 3, .int .i64 5, .int .i64 1]
  have H0 := Lib.hid (exOf_any _ _ (ru_blkL k0 rfl))
  clear k0
  go_enter Try.func39, Try.ntmps39
  go_wp2_with fail
  refine H0.out.mono ?_
  rintro e w1 ⟨A1, c1, rfl, r1, hb1⟩
  have B1 := hb0.trans (hb1.mono hb0.size)
  clear hb0 hb1 H0
  go_wp2_with fail
  refine (ex3_any _).mono ?_
  rintro e w2 ⟨X1, rfl, x1, hb2⟩
  go_wp2_with fail
  refine (one3_any _ _ _).mono ?_
  rintro e w3 ⟨X2, rfl, x2, hb3⟩
  go_wp2_with fail
  refine (exMeet_any _ _ _ (x1.on hb3) x2).mono ?_
  rintro e w4 ⟨A2, c2, rfl, r2, hb4⟩
  have hb24 := (hb2.trans (hb3.mono hb2.size)).trans (hb4.mono (Nat.le_trans hb2.size hb3.size))
  have B2 := B1.trans (hb24.mono B1.size)
  have r1b := r1.on hb24
  clear B1 hb2 hb3 hb4 hb24 r1 x1 x2
  go_wp2_with fail
  refine (ex3_any _).mono ?_
  rintro e w5 ⟨X1, rfl, x1, hb5⟩
  go_wp2_with fail
  refine (exNot_any _ _ x1).mono ?_
  rintro e w6 ⟨A3, c3, rfl, r3, hb6⟩
  have hb56 := hb5.trans (hb6.mono hb5.size)
  have B3 := B2.trans (hb56.mono B2.size)
  have r1c := r1b.on hb56
  have r2c := r2.on hb56
  clear B2 hb5 hb6 hb56 r1b r2 x1
  go_wp2_with fail
  refine (ex3_any _).mono ?_
  rintro e w7 ⟨X1, rfl, x1, hb7⟩
  go_wp2_with fail
  refine (exCount_any _ _ x1).mono ?_
  rintro e w8 ⟨rfl, hb8⟩
  have hb78 := hb7.trans (hb8.mono hb7.size)
  have B4 := B3.trans (hb78.mono B3.size)
  have r1d := r1c.on hb78
  have r2d := r2c.on hb78
  have r3d := r3.on hb78
  clear B3 hb7 hb8 hb78 r1c r2c r3 x1
  go_wp2_with fail
  refine (ex3_any _).mono ?_
  rintro e w9 ⟨X1, rfl, x1, hb9⟩
  go_wp2_with fail
  refine (exFirst_any _ _ x1).mono ?_
  rintro e w10 ⟨rfl, hb10⟩
  have hb910 := hb9.trans (hb10.mono hb9.size)
  have B5 := B4.trans (hb910.mono B4.size)
  have r1e := r1d.on hb910
  have r2e := r2d.on hb910
  have r3e := r3d.on hb910
  clear B4 hb9 hb10 hb910 r1d r2d r3d x1
  go_wp2_with fail
  refine (ex3_any _).mono ?_
  rintro e w11 ⟨X1, rfl, x1, hb11⟩
  go_wp2_with fail
  refine (piecesTop_any _ 2 2 exL 16 _ rfl (by omega) x1).mono ?_
  rintro e w12 ⟨lb, K, rfl, hseq, hK, hb12⟩
  rw [ex_pieces] at hseq
  have hL := Lib.hid (lawPieces_any _ lb K _ 10 _ (by simp) (by omega) hseq pieces_enters hK)
  clear hseq hK
  go_wp2_with fail
  refine hL.out.mono ?_
  rintro e w13 ⟨A4, c4, rfl, r4, _, _, hb13⟩
  have hb113 := (hb11.trans (hb12.mono hb11.size)).trans (hb13.mono (Nat.le_trans hb11.size hb12.size))
  have B6 := B5.trans (hb113.mono B5.size)
  have r1f := r1e.on hb113
  have r2f := r2e.on hb113
  have r3f := r3e.on hb113
  clear B5 hb11 hb12 hb13 hb113 r1e r2e r3e x1 hL
  simp only [List.length_cons, List.length_nil, Nat.reduceAdd]
  go_wp2_with fail
  refine (one3_any _ _ _).mono ?_
  rintro e w14 ⟨X1, rfl, x1, hb14⟩
  have B7 := B6.trans (hb14.mono B6.size)
  have r1g := r1f.on hb14
  have r2g := r2f.on hb14
  have r3g := r3f.on hb14
  have r4g := r4.on hb14
  clear B6 hb14 r1f r2f r3f r4
  have HSA := Lib.hid (sameT_any A1 X1 1 c1 1 _ _ _ rfl (by unfold maxLen; omega) rfl r1g x1)
  clear r1g x1
  go_wp2_with fail
  refine HSA.out.mono ?_
  rintro e w15 ⟨rfl, hb15⟩
  have B8 := B7.trans (hb15.mono B7.size)
  have r2h := r2g.on hb15
  have r3h := r3g.on hb15
  have r4h := r4g.on hb15
  clear B7 hb15 r2g r3g r4g HSA
  have hbA := (Below.refl w15.heap.size w15).alloc (Nat.le_refl _) (.cells #[.int .i64 6, .int .i64 2, .int .i64 16, .int .i64 2] 40)
  have kA := Blk.new w15 40 #[.int .i64 6, .int .i64 2, .int .i64 16, .int .i64 2]
  have HSA := Lib.hid (sameT_any A2 (some ⟨w15.heap.size, 0, none⟩) 2 c2 2 _ _ _ rfl (by unfold maxLen; omega) rfl (r2h.on hbA) (ru_blkL kA rfl))
  have r3i := r3h.on hbA
  have r4i := r4h.on hbA
  have B9 := B8.trans (hbA.mono B8.size)
  clear B8 kA hbA r2h r3h r4h
  go_wp2_with fail
  refine HSA.out.mono ?_
  rintro e w16 ⟨rfl, hb16⟩
  have B10 := B9.trans (hb16.mono B9.size)
  have r3j := r3i.on hb16
  have r4j := r4i.on hb16
  clear B9 hb16 r3i r4i HSA
  have hbA := (Below.refl w16.heap.size w16).alloc (Nat.le_refl _) (.cells #[.int .i64 0, .int .i64 4, .int .i64 8, .int .i64 8] 40)
  have kA := Blk.new w16 40 #[.int .i64 0, .int .i64 4, .int .i64 8, .int .i64 8]
  have HSA := Lib.hid (sameT_any A3 (some ⟨w16.heap.size, 0, none⟩) 2 c3 2 _ _ _ rfl (by unfold maxLen; omega) rfl (r3j.on hbA) (ru_blkL kA rfl))
  have r4k := r4j.on hbA
  have B11 := B10.trans (hbA.mono B10.size)
  clear B10 kA hbA r3j r4j
  go_wp2_with fail
  refine HSA.out.mono ?_
  rintro e w17 ⟨rfl, hb17⟩
  have B12 := B11.trans (hb17.mono B11.size)
  have r4l := r4k.on hb17
  clear B11 hb17 r4k HSA
  have hbA := (Below.refl w17.heap.size w17).alloc (Nat.le_refl _) (.cells #[.int .i64 4, .int .i64 4, .int .i64 16, .int .i64 16, .int .i64 32, .int .i64 4] 40)
  have kA := Blk.new w17 40 #[.int .i64 4, .int .i64 4, .int .i64 16, .int .i64 16, .int .i64 32, .int .i64 4]
  have HSA := Lib.hid (sameT_any A4 (some ⟨w17.heap.size, 0, none⟩) 3 c4 3 _ _ _ rfl (by unfold maxLen; omega) rfl (r4l.on hbA) (ru_blkL kA rfl))
  have B13 := B12.trans (hbA.mono B12.size)
  clear B12 kA hbA r4l
  go_wp2_with fail
  refine HSA.out.mono ?_
  rintro e w18 ⟨rfl, hb18⟩
  go_wp2_with fail
  go_ret
  exact ⟨rfl, B13.trans (hb18.mono B13.size)⟩
end Go.Proofs.Ytfmnlpgboolpmaa
