/- Walks: the checks of a usage. -/
import Derived.Test.YtiohcegkkpeodaaDoorWalkA
namespace Go.Proofs.YtiohcegkkpeodaaDoor
open Go Go.Proofs Go.RowKit Go.Pol

set_option maxHeartbeats 400000 in
theorem checkUse_any (A : Option Addr) (n cap : Nat) (us : List (Int × Int)) (w : World) (hn : us.length = n) (hm : n ≤ maxLen) (hr : RU w w.heap.size A us) :
    Calls Tryd.prog 20 #[.slice A n cap] w fun e w' => e = .returned (.int .i64 (chkU us)) ∧ Below w.heap.size w w' := by
  unfold maxLen at hm
  have hn' := Lib.hid hn
  clear hn
  go_enter Tryd.func20, Tryd.ntmps20
  go_wp2
  · go_ret
    exact ⟨ret_int (by unfold chkU; rw [hn'.out, if_pos (by omega)]), Below.refl _ _⟩
  have hT : Hid (chkU us = chkUL 0 us) := Lib.hid (by unfold chkU; rw [hn'.out, if_neg (by omega)])
  generalize decide (200 < (n : Int)) = c2
  go_loopw [3, 11] (fun last i wr => ∃ (k l : Int), 0 ≤ k ∧ k ≤ n ∧ i = .int .i64 k ∧ last = .int .i64 l ∧ Below w.heap.size w wr ∧ Hid (chkUL 0 us = chkUL l (us.drop k.toNat))) (fun _ i _ => n - (intOf i).toNat)
  case atStart => exact ⟨0, 0, by omega, by omega, rfl, rfl, Below.refl _ _, Lib.hid rfl⟩
  case round =>
    obtain ⟨k, l, hk0, hk, rfl, rfl, hB, hL⟩ := hrel
    by_cases hlt : k < n
    · obtain ⟨b, o, rfl, _, hc, hd⟩ := RU.at_' (hr.below hB) (k := k.toNat) (by have := hn'.out; omega)
      have hdr := Lib.hid (drop_cons (0,0) us k.toNat (by have := hn'.out; omega))
      have hsucc : Hid ((k+1).toNat = k.toNat + 1) := Lib.hid (by omega)
      generalize us.getD k.toNat (0,0) = u at *
      obtain ⟨x, y⟩ := u
      have hB' := fun u => hB.alloc hB.size (.cells #[.int .i64 x, .int .i64 y] u)
      dsimp only at hc hd
      by_cases hs : isSz x = true
      · by_cases hy1 : y < 1
        · have hy1' : decide (y < 1) = true := by simpa using hy1
          go_wp2_with (go_at_call 18; refine (isSize_any _ _).mono ?_; rintro e w' ⟨rfl, rfl⟩)
          go_ret
          exact ⟨ret_int (by rw [hT.out, hL.out, hdr.out, chkUL, if_pos (by simp [isUse]; omega)]), hB' _⟩
        · have hy1' : decide (y < 1) = false := by simp; omega
          by_cases hy2 : 1000000 < y
          · have hy2' : decide (1000000 < y) = true := by simpa using hy2
            go_wp2_with (go_at_call 18; refine (isSize_any _ _).mono ?_; rintro e w' ⟨rfl, rfl⟩)
            go_ret
            exact ⟨ret_int (by rw [hT.out, hL.out, hdr.out, chkUL, if_pos (by simp [isUse]; omega)]), hB' _⟩
          · have hy2' : decide (1000000 < y) = false := by simp; omega
            have hu : Hid (isUse (x, y) = true) := Lib.hid (by simp [isUse, hs]; omega)
            by_cases hl : x ≤ l
            · go_wp2_with (go_at_call 18; refine (isSize_any _ _).mono ?_; rintro e w' ⟨rfl, rfl⟩)
              go_ret
              exact ⟨ret_int (by rw [hT.out, hL.out, hdr.out, chkUL, if_neg (by simp [hu.out]), if_pos hl]), hB' _⟩
            · have hst : Hid (chkUL 0 us = chkUL x (us.drop (k+1).toNat)) := Lib.hid (by rw [hL.out, hdr.out, hsucc.out, chkUL, if_neg (by simp [hu.out]), if_neg hl])
              go_wp2_with (go_at_call 18; refine (isSize_any _ _).mono ?_; rintro e w' ⟨rfl, rfl⟩)
              go_roundw
              case rel => exact ⟨k+1, x, by omega, by omega, rfl, rfl, hB' _, hst⟩
              case measure => simp [intOf]; omega
      · have hs' : isSz x = false := by simpa using hs
        clear hs
        go_wp2_with (go_at_call 18; refine (isSize_any _ _).mono ?_; rintro e w' ⟨rfl, rfl⟩)
        go_ret
        exact ⟨ret_int (by rw [hT.out, hL.out, hdr.out, chkUL, if_pos (by simp [isUse, hs'])]), hB' _⟩
    · go_wp2
      go_ret
      refine ⟨ret_int ?_, hB⟩
      rw [hT.out, hL.out, List.drop_of_length_le (by have := hn'.out; omega)]; rfl

set_option maxHeartbeats 400000 in
theorem refCheckUse_any (A : Option Addr) (n cap : Nat) (us : List (Int × Int)) (w : World) (hn : us.length = n) (hm : n ≤ maxLen) (hr : RU w w.heap.size A us) :
    Calls Tryd.prog 30 #[.slice A n cap] w fun e w' => e = .returned (.int .i64 (chkU us)) ∧ Below w.heap.size w w' := by
  unfold maxLen at hm
  have hn' := Lib.hid hn
  clear hn
  go_enter Tryd.func30, Tryd.ntmps30
  go_wp2
  · go_ret
    exact ⟨ret_int (by unfold chkU; rw [hn'.out, if_pos (by omega)]), Below.refl _ _⟩
  have hT : Hid (chkU us = chkUL 0 us) := Lib.hid (by unfold chkU; rw [hn'.out, if_neg (by omega)])
  generalize decide (200 < (n : Int)) = c2
  go_loopw [3] (fun i wr => ∃ (k : Int), 0 ≤ k ∧ k ≤ n ∧ i = .int .i64 k ∧ Below w.heap.size w wr ∧ Hid (chkUL 0 us = chkUL (prevU us k.toNat) (us.drop k.toNat))) (fun i _ => n - (intOf i).toNat)
  case atStart => exact ⟨0, by omega, by omega, rfl, Below.refl _ _, Lib.hid rfl⟩
  case round =>
    obtain ⟨k, hk0, hk, rfl, hB, hL⟩ := hrel
    have hr1 := hr.below hB
    by_cases hlt : k < n
    · obtain ⟨b, o, rfl, _, hc, hd⟩ := RU.at_' hr1 (k := k.toNat) (by have := hn'.out; omega)
      have hdr := Lib.hid (chkUL_step us k.toNat (by have := hn'.out; omega))
      have hsucc : Hid ((k+1).toNat = k.toNat + 1) := Lib.hid (by omega)
      generalize us.getD k.toNat (0,0) = u at *
      obtain ⟨x, y⟩ := u
      dsimp only at hc hd
      have hcx := fun y : Ext wr => y.cell hc
      have hdx := fun y : Ext wr => y.cell hd
      by_cases hs : isSz x = true
      · have hx1 := (isSz_iff.1 hs).1
        by_cases hy1 : y < 1
        · have hy1' : decide (y < 1) = true := by simpa using hy1
          go_wp2_with (go_at_call 41; refine (refSize_any _ _).mono ?_; rintro e w' ⟨rfl, rfl⟩)
          go_ret
          exact ⟨ret_int (by rw [hT.out, hL.out, hdr.out, if_pos (by simp [isUse]; omega)]), hB⟩
        · have hy1' : decide (y < 1) = false := by simp; omega
          by_cases hy2 : 1000000 < y
          · have hy2' : decide (1000000 < y) = true := by simpa using hy2
            go_wp2_with (go_at_call 41; refine (refSize_any _ _).mono ?_; rintro e w' ⟨rfl, rfl⟩)
            go_ret
            exact ⟨ret_int (by rw [hT.out, hL.out, hdr.out, if_pos (by simp [isUse]; omega)]), hB⟩
          · have hy2' : decide (1000000 < y) = false := by simp; omega
            have hu : Hid (isUse (x, y) = true) := Lib.hid (by simp [isUse, hs]; omega)
            by_cases hk1 : k ≤ 0
            · have hk0' : decide (0 < k) = false := by simp; omega
              have hp : Hid (prevU us k.toNat = 0) := Lib.hid (by simp [prevU]; omega)
              go_wp2_with (go_at_call 41; refine (refSize_any _ _).mono ?_; rintro e w' ⟨rfl, rfl⟩)
              refine region_ext (by kernel_rfl) (by kernel_rfl) ?_
              repeat (go_big_quiet_step (fail))
              refine wpQuiet_nil ?_
              rintro w1 ⟨⟨_, hw1⟩, rfl⟩
              go_wp2
              go_roundw
              case rel => exact ⟨k+1, by omega, by omega, rfl, hB.trans (hw1.mono hB.size), Lib.hid (by rw [hL.out, hdr.out, hsucc.out, hp.out, if_neg (by simp [hu.out]), if_neg (by simp; omega)])⟩
              case measure => simp [intOf]; omega
            · have hk0' : decide (0 < k) = true := by simp; omega
              obtain ⟨b', o', had, _, hc1, _⟩ := RU.at_' hr1 (k := k.toNat - 1) (by have := hn'.out; omega)
              obtain ⟨rfl, rfl⟩ : b = b' ∧ o = o' := by simpa using had
              clear had
              have hcx1 := fun y : Ext wr => y.cell hc1
              have hp : Hid (prevU us k.toNat = (us.getD (k.toNat-1) (0,0)).1) := Lib.hid (by simp only [prevU]; rw [if_neg (by omega)])
              generalize (us.getD (k.toNat-1) (0,0)).1 = z at *
              by_cases hl : x ≤ z
              · go_wp2_with (go_at_call 41; refine (refSize_any _ _).mono ?_; rintro e w' ⟨rfl, rfl⟩)
                refine region_ext (by kernel_rfl) (by kernel_rfl) ?_
                repeat (go_big_quiet_step (fail))
                refine wpQuiet_nil ?_
                rintro w1 ⟨⟨_, hw1⟩, rfl⟩
                go_wp2
                go_ret
                exact ⟨ret_int (by rw [hT.out, hL.out, hdr.out, hp.out, if_neg (by simp [hu.out]), if_pos (by omega)]), hB.trans (hw1.mono hB.size)⟩
              · go_wp2_with (go_at_call 41; refine (refSize_any _ _).mono ?_; rintro e w' ⟨rfl, rfl⟩)
                refine region_ext (by kernel_rfl) (by kernel_rfl) ?_
                repeat (go_big_quiet_step (fail))
                refine wpQuiet_nil ?_
                rintro w1 ⟨⟨_, hw1⟩, rfl⟩
                go_wp2
                go_roundw
                case rel => exact ⟨k+1, by omega, by omega, rfl, hB.trans (hw1.mono hB.size), Lib.hid (by rw [hL.out, hdr.out, hsucc.out, hp.out, if_neg (by simp [hu.out]), if_neg (by omega)])⟩
                case measure => simp [intOf]; omega
      · have hs' : isSz x = false := by simpa using hs
        clear hs
        go_wp2_with (go_at_call 41; refine (refSize_any _ _).mono ?_; rintro e w' ⟨rfl, rfl⟩)
        go_ret
        exact ⟨ret_int (by rw [hT.out, hL.out, hdr.out, if_pos (by simp [isUse, hs'])]), hB⟩
    · go_wp2
      go_ret
      refine ⟨ret_int ?_, hB⟩
      rw [hT.out, hL.out, List.drop_of_length_le (by have := hn'.out; omega)]; rfl

theorem less_any (a b c d : Int) (w : World) (ha : -10000 ≤ a ∧ a ≤ 10000) (hb : -10000 ≤ b ∧ b ≤ 10000) (hc : -10000 ≤ c ∧ c ≤ 10000) (hd : -10000 ≤ d ∧ d ≤ 10000) :
    Calls Tryd.prog 23 #[.agg #[.int .i64 a, .int .i64 b], .agg #[.int .i64 c, .int .i64 d]] w fun e w' => e = .returned (.bool (less (a, b) (c, d))) ∧ Below w.heap.size w w' := by
  go_enter Tryd.func23, Tryd.ntmps23
  go_wp2
  go_ret
  refine ⟨ret_bool ?_, ((Below.refl _ _).alloc (Nat.le_refl _) _).alloc (by simp) _⟩
  show decide (wrap64 (a * d) < wrap64 (c * b)) = decide (a * d < c * b)
  rw [mul_wrap64 _ _ ha hd, mul_wrap64 _ _ hc hb]

theorem gcd_step (x y : Int) (hx : 1 ≤ x) (hy : 0 ≤ y) : Nat.gcd (y % x).toNat x.toNat = Nat.gcd x.toNat y.toNat := by
  rw [Int.toNat_emod hy (by omega), ← Nat.gcd_rec]

set_option maxHeartbeats 400000 in
theorem lowest_any (a b : Int) (w : World) (ha : 0 ≤ a ∧ a ≤ 10000) (hb : 1 ≤ b ∧ b ≤ 10000) :
    Calls Tryd.prog 35 #[.agg #[.int .i64 a, .int .i64 b]] w fun e w' => e = .returned (.agg #[.int .i64 (a / (Nat.gcd a.toNat b.toNat : Nat)), .int .i64 (b / (Nat.gcd a.toNat b.toNat : Nat))]) ∧ Below w.heap.size w w' := by
  obtain ⟨ha0, ha1⟩ := ha
  obtain ⟨hb0, hb1⟩ := hb
  obtain ⟨g, hg⟩ : ∃ g : Nat, Nat.gcd a.toNat b.toNat = g := ⟨_, rfl⟩
  have hgp : 1 ≤ g := by rw [← hg]; exact Nat.gcd_pos_of_pos_right _ (by omega)
  rw [hg]
  have hG := Lib.hid hg
  clear hg
  go_enter Tryd.func35, Tryd.ntmps35
  go_wp2
  go_quiet (fail)
  go_wp2
  go_loopw [3, 4] (fun x y wr => ∃ (x' y' : Int), 0 ≤ x' ∧ x' ≤ 10000 ∧ 1 ≤ x' + y' ∧ 0 ≤ y' ∧ y' ≤ 10000 ∧ x = .int .i64 x' ∧ y = .int .i64 y' ∧ Hid (Nat.gcd x'.toNat y'.toNat = g) ∧ Below (w.heap.size + 2) ((w.alloc (Obj.cells #[.int .i64 a, .int .i64 b] 53)).alloc (Obj.cells #[.int .i64 0, .int .i64 0] 53)) wr) (fun x _ _ => (intOf x).toNat)
  case atStart => exact ⟨a, b, by omega, by omega, by omega, by omega, by omega, rfl, rfl, hG, below_drewN (Below.refl _ _) _⟩
  case round =>
    obtain ⟨x, y, hx0, hx1, hxy, hy0, hy1, rfl, rfl, hL, hB⟩ := hrel
    have hb1 : Below w.heap.size w wr := (((Below.refl _ _).alloc (Nat.le_refl _) _).alloc (by simp) _).trans (hB.mono (by omega))
    have h0 : wr.cell? ⟨w.heap.size, 0, none⟩ = some (.int .i64 a) := (hB.cell (p := ⟨w.heap.size, 0, none⟩) (by simp)).trans (by simp [go_sem])
    have h1 : wr.cell? ⟨w.heap.size, 1, none⟩ = some (.int .i64 b) := (hB.cell (p := ⟨w.heap.size, 1, none⟩) (by simp)).trans (by simp [go_sem])
    have h2 : wr.cell? ⟨w.heap.size + 1, 0, none⟩ = some (.int .i64 0) := (hB.cell (p := ⟨w.heap.size + 1, 0, none⟩) (by simp)).trans (by simp [go_sem])
    have h3 : wr.cell? ⟨w.heap.size + 1, 1, none⟩ = some (.int .i64 0) := (hB.cell (p := ⟨w.heap.size + 1, 1, none⟩) (by simp)).trans (by simp [go_sem])
    by_cases hx : x = 0
    · have hx' : (x != 0) = false := by simp [hx]
      have hyg : Hid ((g : Int) = y) := Lib.hid (by have := hL.out; rw [hx] at this; simp at this; omega)
      have hy1 : 1 ≤ y := by omega
      have e0 := fun z : Ext wr => z.cell h0
      have e1 := fun z : Ext wr => z.cell h1
      have e2 := fun z : Ext wr => z.cell h2
      have e3 := fun z : Ext wr => z.cell h3
      have f2 : wr.frozen? ⟨w.heap.size + 1, 0, none⟩ = false := (hB.frozen (p := ⟨w.heap.size + 1, 0, none⟩) (by simp)).trans (by simp [go_sem])
      have f3 : wr.frozen? ⟨w.heap.size + 1, 1, none⟩ = false := (hB.frozen (p := ⟨w.heap.size + 1, 1, none⟩) (by simp)).trans (by simp [go_sem])
      have g2 := fun z : Ext wr => z.frozen h2 f2
      have g3 := fun z : Ext wr => z.frozen h3 f3
      clear hx
      go_wp2
      refine region_ext_tail 9 (by kernel_rfl) (by kernel_rfl) ?_
      simp only [List.take_succ_cons, List.take_zero, List.drop_succ_cons, List.drop_zero]
      repeat (go_big_quiet_step (fail))
      refine wpQuiet_nil ?_
      intro z
      go_wp2
      rw [hyg.out]
      refine bodyPost_ret (v := .agg #[.int .i64 (a / y), .int .i64 (b / y)]) (by simp [results, Tryd.results35, go_sem, e2, e3]) rfl ⟨rfl, ?_⟩
      exact ((hb1.trans (z.le.mono hb1.size)).setCell (p := ⟨w.heap.size + 1, 0, none⟩) (by simp) _).setCell (p := ⟨w.heap.size + 1, 1, none⟩) (by simp) _
    · have hx' : (x != 0) = true := by simpa using hx
      have hx1 : 1 ≤ x := by omega
      have hst : Hid (Nat.gcd (y % x).toNat x.toNat = g) := Lib.hid ((gcd_step x y hx1 hy0).trans hL.out)
      have hm0 := Int.emod_nonneg y hx
      have hm1 := Int.emod_lt_of_pos y (show 0 < x by omega)
      clear hx
      go_wp2
      go_roundw
      case rel => exact ⟨y % x, x, by omega, by omega, by omega, by omega, by omega, rfl, rfl, hst, hB⟩
      case measure => simp only [intOf]; omega
end Go.Proofs.YtiohcegkkpeodaaDoor
