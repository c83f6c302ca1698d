/- Walks: sizes, ends, places, overlaps: of the program and of the reference. -/
import Derived.Test.YtifdgabfnnkghaaChecked
import Derived.Laws.StructEq
import Derived.Laws.BitsLemmas
import Derived.Test.YtifdgabfnnkghaaVLib
namespace Go.Proofs.Ytifdgabfnnkghaa
open Go Go.Proofs Go.RowKit Go.Pol

theorem pw_wrap {o : Int} (h : 0 ≤ o ∧ o ≤ 10) : wrap64 (2 ^ o.toNat) = pw o := by
  have h1 := pw_pos o
  have h2 := pw_le h.2
  show wrap64 (pw o) = pw o
  unfold wrap64; omega
theorem size_any (o : Int) (w : World) (h : 0 ≤ o ∧ o ≤ 10) : Calls Try.prog 29 #[.int .i64 o] w fun e w' => e = .returned (.int .i64 (pw o)) ∧ w' = w := by
  have hw := pw_wrap h
  have hb1 := pw_pos o
  have hb2 := pw_le h.2
  generalize pw o = p at *
  go_enter Try.func29, Try.ntmps29
  go_wp2_with fail
  go_ret
  exact ⟨ret_int hw, rfl⟩
theorem refSize_any (o : Int) (w : World) (h : 0 ≤ o ∧ o ≤ 10) : Calls Try.prog 22 #[.int .i64 o] w fun e w' => e = .returned (.int .i64 (pw o)) ∧ w' = w := by
  have hw := pw_wrap h
  have hb1 := pw_pos o
  have hb2 := pw_le h.2
  generalize pw o = p at *
  go_enter Try.func22, Try.ntmps22
  go_wp2_with fail
  go_ret
  exact ⟨ret_int hw, rfl⟩
theorem refOrd_any (o : Int) (w : World) : Calls Try.prog 30 #[.int .i64 o] w fun e w' => e = .returned (.bool (isOrd o)) ∧ w' = w := by
  have hE := Lib.hid (show isOrd o = (decide (0 ≤ o) && decide (o ≤ 10)) from rfl)
  generalize isOrd o = R at *
  by_cases h1 : 0 ≤ o
  · have h1' : decide (0 ≤ o) = true := by simpa using h1
    rw [h1'] at hE
    clear h1
    go_enter Try.func30, Try.ntmps30
    go_wp2_with fail
    go_ret
    exact ⟨ret_bool (by rw [hE.out]; simp), rfl⟩
  · have h1' : decide (0 ≤ o) = false := by simpa using h1
    rw [h1'] at hE
    clear h1
    go_enter Try.func30, Try.ntmps30
    go_wp2_with fail
    go_ret
    exact ⟨ret_bool (by rw [hE.out]; simp), rfl⟩
/-- a place of a block, with bounds -/
def okPl (x : B3) : Prop := (-100000 ≤ x.1 ∧ x.1 ≤ 100000) ∧ 0 ≤ x.2.1 ∧ x.2.1 ≤ 10
theorem end_any (x : B3) (w : World) (h : okPl x) : Calls Try.prog 39 #[bV x] w fun e w' => e = .returned (.int .i64 (x.1 + pw x.2.1)) ∧ Below w.heap.size w w' := by
  obtain ⟨a, o, c⟩ := x
  obtain ⟨ha, ho⟩ := h
  simp only at ha ho ⊢
  have HS := Lib.hid (fun W => size_any o W ho)
  have hb1 := pw_pos o
  have hb2 := pw_le ho.2
  generalize pw o = p at *
  have hb0 := (Below.refl w.heap.size w).alloc (Nat.le_refl _) (.cells #[.int .i64 a, .int .i64 o, .bool c] 44)
  have k0 := Blk.new w 44 #[.int .i64 a, .int .i64 o, .bool c]
  have q0 := fun z : Ext (w.alloc (.cells #[.int .i64 a, .int .i64 o, .bool c] 44)) => (z.blk k0).cell
  have G := Lib.hid (fun z : Ext (w.alloc (.cells #[.int .i64 a, .int .i64 o, .bool c] 44)) => Ext.call (x := z) ((HS.out z.w).mono (fun e w' h => ⟨h.1, by rw [h.2]; exact Below.refl _ _⟩)))
  go_enter Try.func39, Try.ntmps39
  go_upto_region 1 with fail
  refine region_ext (by kernel_rfl) (by kernel_rfl) ?_
  repeat (go_big_quiet_step ((go_at_call 29; exact G.out _)))
  refine wpQuiet_nil ?_
  rintro w1 ⟨⟨_, hw1⟩, rfl⟩
  go_wp2_with fail
  go_ret
  exact ⟨rfl, hb0.trans (hw1.mono hb0.size)⟩

theorem over_any (x y : B3) (w : World) (hx : okPl x) (hy : okPl y) : Calls Try.prog 42 #[bV x, bV y] w fun e w' => e = .returned (.bool (overB x y)) ∧ Below w.heap.size w w' := by
  have hE := Lib.hid (show overB x y = (decide (x.1 < y.1 + pw y.2.1) && decide (y.1 < x.1 + pw x.2.1)) from rfl)
  generalize overB x y = R at *
  obtain ⟨a, o, c⟩ := x
  obtain ⟨a2, o2, c2⟩ := y
  obtain ⟨ha, ho⟩ := hx
  obtain ⟨ha2, ho2⟩ := hy
  simp only at ha ho ha2 ho2 hE ⊢
  have HS := Lib.hid (fun W => refSize_any o W ho)
  have HS2 := Lib.hid (fun W => refSize_any o2 W ho2)
  have hb1 := pw_pos o
  have hb2 := pw_le ho.2
  have hb3 := pw_pos o2
  have hb4 := pw_le ho2.2
  generalize pw o = p at *
  generalize pw o2 = p2 at *
  obtain ⟨wB, hwB⟩ : ∃ wB, (w.alloc (.cells #[.int .i64 a, .int .i64 o, .bool c] 44)).alloc (.cells #[.int .i64 a2, .int .i64 o2, .bool c2] 44) = wB := ⟨_, rfl⟩
  have hb0 := ((Below.refl w.heap.size w).alloc (Nat.le_refl _) (.cells #[.int .i64 a, .int .i64 o, .bool c] 44)).alloc (by simp) (.cells #[.int .i64 a2, .int .i64 o2, .bool c2] 44)
  have k0 := (Blk.new w 44 #[.int .i64 a, .int .i64 o, .bool c]).alloc (.cells #[.int .i64 a2, .int .i64 o2, .bool c2] 44)
  have k1 := Blk.new (w.alloc (.cells #[.int .i64 a, .int .i64 o, .bool c] 44)) 44 #[.int .i64 a2, .int .i64 o2, .bool c2]
  rw [World.size_alloc] at k1
  rw [hwB] at hb0 k0 k1
  have q0 := fun z : Ext wB => (z.blk k0).cell
  have q1 := fun z : Ext wB => (z.blk k1).cell
  have G := Lib.hid (fun z : Ext wB => Ext.call (x := z) ((HS.out z.w).mono (fun e w' h => ⟨h.1, by rw [h.2]; exact Below.refl _ _⟩)))
  have G2 := Lib.hid (fun z : Ext wB => Ext.call (x := z) ((HS2.out z.w).mono (fun e w' h => ⟨h.1, by rw [h.2]; exact Below.refl _ _⟩)))
  have hwB' := Lib.hid hwB
  by_cases h1 : a < a2 + p2
  · have h1' : decide (a < a2 + p2) = true := by simpa using h1
    rw [h1'] at hE
    clear h1
    go_enter Try.func42, Try.ntmps42
    go_upto_region 1 with fail
    try rw [hwB]
    refine region_ext (by kernel_rfl) (by kernel_rfl) ?_
    repeat (go_big_quiet_step ((go_at_call 22; first | exact G.out _ | exact G2.out _)))
    refine wpQuiet_nil ?_
    rintro w1 ⟨⟨_, hw1⟩, rfl⟩
    go_wp2_with fail
    go_ret
    exact ⟨ret_bool (by rw [hE.out]; simp), hb0.trans (hw1.mono hb0.size)⟩
  · have h1' : decide (a < a2 + p2) = false := by simpa using h1
    rw [h1'] at hE
    clear h1
    go_enter Try.func42, Try.ntmps42
    go_upto_region 1 with fail
    try rw [hwB]
    refine region_ext (by kernel_rfl) (by kernel_rfl) ?_
    repeat (go_big_quiet_step ((go_at_call 22; first | exact G.out _ | exact G2.out _)))
    refine wpQuiet_nil ?_
    rintro w1 ⟨⟨_, hw1⟩, rfl⟩
    go_wp2_with fail
    go_ret
    exact ⟨ret_bool (by rw [hE.out]; simp), hb0.trans (hw1.mono hb0.size)⟩

theorem and_mask (page o : Int) (hp : 0 ≤ page) (ho : o ≤ 10) : bits .and .i64 page (pw o - 1) = page % pw o := by
  obtain ⟨a, rfl⟩ := Int.eq_ofNat_of_zero_le hp
  have h1 : pw o = ((2 ^ o.toNat : Nat) : Int) := by simp [pw]
  obtain ⟨i, hi⟩ : ∃ i, o.toNat = i := ⟨_, rfl⟩
  have hi10 : i ≤ 10 := by omega
  rw [h1, hi]
  have hpos : 0 < 2 ^ i := Nat.two_pow_pos i
  have h1024 : 2 ^ i ≤ 1024 := Nat.pow_le_pow_right (by decide) hi10
  have hc : (((2 ^ i : Nat) : Int) - 1) = ((2 ^ i - 1 : Nat) : Int) := by rw [Int.natCast_sub hpos]; simp
  rw [hc]
  simp only [bits, BitVec.ofInt_natCast, BitVec.toNat_and, BitVec.toNat_ofNat]
  rw [Nat.mod_eq_of_lt (a := 2 ^ i - 1) (by show _ < 2 ^ 64; omega), Nat.and_two_pow_sub_one_eq_mod]
  have hd : (2 ^ i) ∣ 2 ^ IntKind.i64.bits := Nat.pow_dvd_pow 2 (by show i ≤ 64; omega)
  rw [Nat.mod_mod_of_dvd _ hd]
  have := Nat.mod_lt a hpos
  rw [show ((a : Int) % ((2 ^ i : Nat) : Int)) = ((a % 2 ^ i : Nat) : Int) from rfl, IntKind.wrap_i64]
  omega
theorem wrong_any (pages page o : Int) (w : World) (hp : -100000 ≤ pages ∧ pages ≤ 100000) : Calls Try.prog 34 #[.int .i64 pages, .int .i64 page, .int .i64 o] w fun e w' => e = .returned (.bool (!insB pages page o)) ∧ w' = w := by
  have hE := Lib.hid (show insB pages page o = (isOrd o && (decide (0 ≤ page) && (decide (page % pw o = 0) && decide (page ≤ pages - pw o)))) from rfl)
  generalize insB pages page o = R at *
  by_cases ho : 0 ≤ o ∧ o ≤ 10
  · have h1 : decide (o < 0) = false := by simp; omega
    have h2 : decide (10 < o) = false := by simp; omega
    have hO : isOrd o = true := isOrd_iff.2 ho
    rw [hO] at hE
    by_cases hpg : 0 ≤ page
    · have h3 : decide (page < 0) = false := by simp; omega
      have h3' : decide (0 ≤ page) = true := by simpa using hpg
      rw [h3'] at hE
      have HS := Lib.hid (fun W => size_any o W ho)
      have hb1 := pw_pos o
      have hb2 := pw_le ho.2
      have hm := and_mask page o hpg ho.2
      generalize pw o = p at *
      by_cases hz : page % p = 0
      · have hz' : decide (page % p = 0) = true := by simpa using hz
        rw [hz'] at hE
        rw [hz] at hm
        have hm' : (bits .and .i64 page (p - 1) != 0) = false := by rw [hm]; rfl
        clear hm hz hz'
        go_enter Try.func34, Try.ntmps34
        go_wp2_with (go_at_call 29; refine (HS.out _).mono ?_; rintro e w1 ⟨rfl, rfl⟩)
        go_ret
        have hlast : decide (pages - p < page) = !decide (page ≤ pages - p) := by
          by_cases q : page ≤ pages - p
          · have : ¬ (pages - p < page) := by omega
            simp [q, this]
          · have : pages - p < page := by omega
            simp [q, this]
        exact ⟨ret_bool (by rw [hE.out]; simpa using hlast), rfl⟩
      · have hz' : decide (page % p = 0) = false := by simpa using hz
        rw [hz'] at hE
        have hm' : (bits .and .i64 page (p - 1) != 0) = true := by rw [hm]; simpa using hz
        clear hm hz hz'
        go_enter Try.func34, Try.ntmps34
        go_wp2_with (go_at_call 29; refine (HS.out _).mono ?_; rintro e w1 ⟨rfl, rfl⟩)
        go_ret
        exact ⟨ret_bool (by rw [hE.out]; simp), rfl⟩
    · have h3 : decide (page < 0) = true := by simp; omega
      have h3' : decide (0 ≤ page) = false := by simpa using hpg
      rw [h3'] at hE
      clear hpg
      go_enter Try.func34, Try.ntmps34
      go_wp2_with fail
      go_ret
      exact ⟨ret_bool (by rw [hE.out]; simp), rfl⟩
  · have hO : isOrd o = false := by cases h : isOrd o with | false => rfl | true => exact absurd (isOrd_iff.1 h) ho
    rw [hO] at hE
    by_cases h1 : o < 0
    · have h1' : decide (o < 0) = true := by simpa using h1
      clear h1 ho hO
      go_enter Try.func34, Try.ntmps34
      go_wp2_with fail
      go_ret
      exact ⟨ret_bool (by rw [hE.out]; simp), rfl⟩
    · have h1' : decide (o < 0) = false := by simpa using h1
      have h2' : decide (10 < o) = true := by simp; omega
      clear h1 ho hO
      go_enter Try.func34, Try.ntmps34
      go_wp2_with fail
      go_ret
      exact ⟨ret_bool (by rw [hE.out]; simp), rfl⟩
theorem refIns_any (pages page o : Int) (w : World) (hp : -100000 ≤ pages ∧ pages ≤ 100000) : Calls Try.prog 41 #[.int .i64 pages, .int .i64 page, .int .i64 o] w fun e w' => e = .returned (.bool (insB pages page o)) ∧ w' = w := by
  have hE := Lib.hid (show insB pages page o = (isOrd o && (decide (0 ≤ page) && (decide (page % pw o = 0) && decide (page ≤ pages - pw o)))) from rfl)
  generalize insB pages page o = R at *
  have HO := Lib.hid (fun W => refOrd_any o W)
  by_cases ho : 0 ≤ o ∧ o ≤ 10
  · have hO : isOrd o = true := isOrd_iff.2 ho
    rw [hO] at hE HO
    have HS := Lib.hid (fun W => refSize_any o W ho)
    have hb1 := pw_pos o
    have hb2 := pw_le ho.2
    by_cases hpg : 0 ≤ page
    · have h3 : decide (0 ≤ page) = true := by simpa using hpg
      rw [h3] at hE
      have hmod : page.tmod (pw o) = page % pw o := Int.tmod_eq_emod_of_nonneg hpg
      generalize pw o = p at *
      have hp0 : ¬ p = 0 := by omega
      by_cases hz : page % p = 0
      · have hz' : decide (page % p = 0) = true := by simpa using hz
        rw [hz'] at hE
        have hz2 : (page % p == 0) = true := by simpa using hz
        clear hz hz'
        go_enter Try.func41, Try.ntmps41
        go_wp2_with (first | (go_at_call 22; refine (HS.out _).mono ?_; rintro e w1 ⟨rfl, rfl⟩) | (go_at_call 30; refine (HO.out _).mono ?_; rintro e w1 ⟨rfl, rfl⟩))
        go_ret
        exact ⟨ret_bool (by rw [hE.out]; simp), rfl⟩
      · have hz' : decide (page % p = 0) = false := by simpa using hz
        rw [hz'] at hE
        have hz2 : (page % p == 0) = false := by simpa using hz
        clear hz hz'
        go_enter Try.func41, Try.ntmps41
        go_wp2_with (first | (go_at_call 22; refine (HS.out _).mono ?_; rintro e w1 ⟨rfl, rfl⟩) | (go_at_call 30; refine (HO.out _).mono ?_; rintro e w1 ⟨rfl, rfl⟩))
        go_ret
        exact ⟨ret_bool (by rw [hE.out]; simp), rfl⟩
    · have h3 : decide (0 ≤ page) = false := by simpa using hpg
      rw [h3] at hE
      clear hpg
      go_enter Try.func41, Try.ntmps41
      go_wp2_with (go_at_call 30; refine (HO.out _).mono ?_; rintro e w1 ⟨rfl, rfl⟩)
      go_ret
      exact ⟨ret_bool (by rw [hE.out]; simp), rfl⟩
  · have hO : isOrd o = false := by cases h : isOrd o with | false => rfl | true => exact absurd (isOrd_iff.1 h) ho
    rw [hO] at hE HO
    clear ho hO
    go_enter Try.func41, Try.ntmps41
    go_wp2_with (go_at_call 30; refine (HO.out _).mono ?_; rintro e w1 ⟨rfl, rfl⟩)
    go_ret
    exact ⟨ret_bool (by rw [hE.out]; simp), rfl⟩

theorem check1_any (B : Nat) (pages : Int) (x : B3) (w : World) (hp : -100000 ≤ pages ∧ pages ≤ 100000) (kB : Blk w B 3 #[.int .i64 pages]) :
    Calls Try.prog 33 #[bV x, .pointer (some ⟨B, 0, none⟩)] w fun e w' => e = .returned (.bool (!insB pages x.1 x.2.1)) ∧ Below w.heap.size w w' := by
  obtain ⟨a, o, c⟩ := x
  simp only
  have HW := Lib.hid (fun W => wrong_any pages a o W hp)
  generalize insB pages a o = R at *
  have c0 := kB.cell
  have hb0 := (Below.refl w.heap.size w).alloc (Nat.le_refl _) (.cells #[.int .i64 a, .int .i64 o, .bool c] 44)
  have hl := kB.lt
  go_enter Try.func33, Try.ntmps33
  go_wp2_with (go_at_call 34; refine (HW.out _).mono ?_; rintro e w1 ⟨rfl, rfl⟩)
  go_ret
  exact ⟨rfl, hb0⟩
/-- is that a number of pages of an address space? (the reference) -/
theorem refSpace_any (pages : Int) (w : World) : Calls Try.prog 40 #[.int .i64 pages] w fun e w' => e = .returned (.bool (spaceB pages)) ∧ w' = w := by
  have hE := Lib.hid (spaceB_iff (pages := pages))
  generalize spaceB pages = R at *
  go_enter Try.func40, Try.ntmps40
  go_wp2_with fail
  go_loopw [3] (fun i wr => ∃ k : Nat, k ≤ 11 ∧ i = .int .i64 k ∧ wr = w ∧ Hid (∀ o : Nat, o < k → pages ≠ pw (o : Int))) (fun i _ => 11 - (intOf i).toNat)
  case atStart => exact ⟨0, by omega, rfl, rfl, Lib.hid (by omega)⟩
  case round =>
    obtain ⟨k, hk, rfl, hw, hL⟩ := hrel
    have hw' := hw.symm
    clear hw
    subst hw'
    by_cases hlt : k < 11
    · have hlt' : decide ((k : Int) ≤ 10) = true := by simp; omega
      have HS := Lib.hid (fun W => refSize_any (k : Int) W (by omega))
      obtain ⟨p, hp⟩ : ∃ p, pw (k : Int) = p := ⟨_, rfl⟩
      rw [hp] at HS
      have hp' := Lib.hid hp
      clear hp
      by_cases he : pages = p
      · have he' : (pages == p) = true := by simpa using he
        have hR : Hid (R = true) := Lib.hid (hE.out.2 ⟨k, by omega, by rw [hp'.out]; exact he⟩)
        clear he hE
        go_wp2_with (go_at_call 22; refine (HS.out _).mono ?_; rintro e wr ⟨rfl, rfl⟩)
        go_ret
        exact ⟨ret_bool hR.out.symm, rfl⟩
      · have he' : (pages == p) = false := by simpa using he
        have hL2 : Hid (∀ o : Nat, o < k + 1 → pages ≠ pw (o : Int)) := Lib.hid (fun o ho => by
          by_cases h : o = k
          · subst h; rw [hp'.out]; exact he
          · exact hL.out o (by omega))
        clear he
        go_wp2_with (go_at_call 22; refine (HS.out _).mono ?_; rintro e wr ⟨rfl, rfl⟩)
        go_roundw
        case rel => exact ⟨k + 1, by omega, by go_num, by first | rfl | trivial, hL2⟩
        case measure => simp [intOf]; omega
    · obtain rfl : k = 11 := by omega
      have hR : Hid (R = false) := Lib.hid (by
        cases h : R with
        | false => rfl
        | true => obtain ⟨o, ho, e⟩ := hE.out.1 h; exact absurd e (hL.out o (by omega)))
      clear hE
      go_wp2_with fail
      go_ret
      exact ⟨ret_bool hR.out.symm, rfl⟩
end Go.Proofs.Ytifdgabfnnkghaa
