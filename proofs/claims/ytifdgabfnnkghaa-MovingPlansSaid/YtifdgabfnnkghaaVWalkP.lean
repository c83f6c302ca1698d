/- Walks: cmp.Or; the comparison of moves, and of lists of moves. -/
import Derived.Test.YtifdgabfnnkghaaVSpecD
import Derived.Test.YtifdgabfnnkghaaVWalkO
namespace Go.Proofs.Ytifdgabfnnkghaa
open Go Go.Proofs Go.RowKit Go.Pol Go.Shelf Go.Deep

theorem cmpI_cmpN : cmpI = cmpN := rfl
theorem RI_blk {w : World} {g : Nat} {t : TypeId} (xs : List Int) (h : Blk w g t (xs.map (Value.int .i64)).toArray) : RI w w.heap.size (some ⟨g, 0, none⟩) xs := by
  intro k hk
  refine ⟨g, 0, rfl, h.lt, ?_⟩
  rw [Nat.zero_add, h.cell, List.getElem?_toArray, List.getElem?_eq_getElem hk]
theorem or_any (A : Option Addr) (n cap : Nat) (xs : List Int) (w : World) (hn : xs.length = n) (hm : n ≤ 1000) (hr : RI w w.heap.size A xs) (hx : ∀ x ∈ xs, -1 ≤ x ∧ x ≤ 1) :
    Calls Try.prog 56 #[.slice A n cap] w fun e w' => e = .returned (.int .i64 (orN xs)) ∧ Below w.heap.size w w' := by
  obtain ⟨R, hR⟩ : ∃ R, orN xs = R := ⟨_, rfl⟩
  rw [hR]
  have hR' := Lib.hid hR
  have hn' := Lib.hid hn
  have hx' := Lib.hid hx
  clear hR hn hx
  go_enter Try.func56, Try.ntmps56
  go_wp2_with fail
  go_loopw [8] (fun i wr => ∃ k : Nat, k ≤ n ∧ i = .int .i64 k ∧ Below w.heap.size w wr ∧ Hid (orN (xs.drop k) = R)) (fun i _ => n - (intOf i).toNat)
  case atStart => exact ⟨0, by omega, rfl, Below.refl _ _, by simpa using hR'⟩
  case round =>
    obtain ⟨k, hk, rfl, hB, hH⟩ := hrel
    by_cases hlt : k < n
    · have hlt' : decide ((k : Int) < (n : Int)) = true := by simpa using hlt
      obtain ⟨b, o, rfl, hbl, c1⟩ := (hr.below hB).at_ (k := k) (by have := hn'.out; omega)
      have hd := Go.Pol.drop_cons 0 xs k (by have := hn'.out; omega)
      have hmem : xs.getD k 0 ∈ xs := by rw [List.getD_eq_getElem?_getD, List.getElem?_eq_getElem (by have := hn'.out; omega)]; simp
      have hb := hx'.out _ hmem
      generalize xs.getD k 0 = x at *
      have hd' := Lib.hid hd
      clear hd hmem
      by_cases h0 : x = 0
      · have h0' : (x != 0) = false := by simp [h0]
        have hH2 : Hid (orN (xs.drop (k + 1)) = R) := Lib.hid (by rw [← hH.out, hd'.out, orN, if_pos h0])
        clear hH h0
        go_wp2_with fail
        go_roundw
        case rel => exact ⟨k + 1, by omega, by go_num, hB, hH2⟩
        case measure => simp [intOf]; omega
      · have h0' : (x != 0) = true := by simpa using h0
        have hRR : Hid (R = x) := Lib.hid (by rw [← hH.out, hd'.out, orN, if_neg h0])
        clear hH h0
        go_wp2_with fail
        go_ret
        exact ⟨ret_int hRR.out.symm, hB⟩
    · obtain rfl : k = n := by omega
      have hlt' : decide ((k : Int) < (k : Int)) = false := by simp
      have hRR : Hid (R = 0) := Lib.hid (by rw [← hH.out, List.drop_of_length_le (by have := hn'.out; omega), orN])
      clear hH
      go_wp2_with fail
      go_ret
      exact ⟨ret_int hRR.out.symm, hB⟩
set_option maxRecDepth 100000 in
theorem byBlock_any (x y : Int × Int) (w : World) : Calls Try.prog 58 #[.agg #[.int .i64 x.1, .int .i64 x.2], .agg #[.int .i64 y.1, .int .i64 y.2]] w fun e w' => e = .returned (.int .i64 (moveN x y)) ∧ Below w.heap.size w w' := by
  obtain ⟨x1, x2⟩ := x
  obtain ⟨y1, y2⟩ := y
  simp only
  have HC := Lib.hid (fun a b W => compare_any a b W)
  obtain ⟨c1, hc1⟩ : ∃ c, cmpI x1 y1 = c := ⟨_, rfl⟩
  obtain ⟨c2, hc2⟩ : ∃ c, cmpI x2 y2 = c := ⟨_, rfl⟩
  have hE : Hid (moveN (x1, x2) (y1, y2) = orN [c1, c2]) := Lib.hid (by rw [← hc1, ← hc2, cmpI_cmpN]; rfl)
  have hcb1 : -1 ≤ c1 ∧ c1 ≤ 1 := by rw [← hc1, cmpI_cmpN]; exact cmpN_bound _ _
  have hcb2 : -1 ≤ c2 ∧ c2 ≤ 1 := by rw [← hc2, cmpI_cmpN]; exact cmpN_bound _ _
  have H1 := Lib.hid (fun W => compare_any x1 y1 W)
  have H2 := Lib.hid (fun W => compare_any x2 y2 W)
  rw [hc1] at H1
  rw [hc2] at H2
  clear hc1 hc2
  generalize moveN (x1, x2) (y1, y2) = R at *
  have hb0 := ((Below.refl w.heap.size w).alloc (Nat.le_refl _) (.cells #[.int .i64 x1, .int .i64 x2] 42)).alloc (by simp) (.cells #[.int .i64 y1, .int .i64 y2] 42)
  have kX := (Blk.new w 42 #[.int .i64 x1, .int .i64 x2]).alloc (.cells #[.int .i64 y1, .int .i64 y2] 42)
  have kY := Blk.new (w.alloc (.cells #[.int .i64 x1, .int .i64 x2] 42)) 42 #[.int .i64 y1, .int .i64 y2]
  rw [World.size_alloc] at kY
  go_enter Try.func58, Try.ntmps58
  go_upto_region 1 with fail
  generalize (w.alloc (Obj.cells #[Value.int .i64 x1, .int .i64 x2] 42)).alloc (Obj.cells #[Value.int .i64 y1, .int .i64 y2] 42) = w1 at *
  have q1 := fun z : Ext w1 => (z.blk kX).cell
  have q2 := fun z : Ext w1 => (z.blk kY).cell
  have G1 := Lib.hid (fun z : Ext w1 => Ext.call (x := z) ((H1.out z.w).mono (fun e w' h => ⟨h.1, by rw [h.2]; exact Below.refl _ _⟩)))
  have G2 := Lib.hid (fun z : Ext w1 => Ext.call (x := z) ((H2.out z.w).mono (fun e w' h => ⟨h.1, by rw [h.2]; exact Below.refl _ _⟩)))
  refine region_ext_tail 10 (by kernel_rfl) (by kernel_rfl) ?_
  simp only [List.take_succ_cons, List.take_zero, List.drop_succ_cons, List.drop_zero]
  iterate 5 go_big_quiet_step ((go_at_call 38; exact G1.out _))
  repeat (go_big_quiet_step ((go_at_call 38; exact G2.out _)))
  refine wpQuiet_nil ?_
  intro z
  have hBz := hb0.trans (z.le.mono hb0.size)
  have hba := hBz.alloc hBz.size (.cells #[.int .i64 c1, .int .i64 c2] 3)
  have kN := Blk.new z.w 3 #[.int .i64 c1, .int .i64 c2]
  have HO := Lib.hid (or_any (some ⟨z.w.heap.size, 0, none⟩) 2 2 [c1, c2] _ rfl (by omega) (RI_blk [c1, c2] kN) (fun x hx => by
    simp only [List.mem_cons, List.not_mem_nil, or_false] at hx
    rcases hx with rfl | rfl
    · exact hcb1
    · exact hcb2))
  rw [← hE.out] at HO
  go_wp2_with fail
  refine HO.out.mono ?_
  rintro e w5 ⟨rfl, hb5⟩
  go_wp2_with fail
  go_ret
  exact ⟨rfl, hba.trans (hb5.mono hba.size)⟩
theorem byBlock_enters : ∀ args w, (callFunc 58 args).run Try.prog w = .ok (.enter 58 args) w := enters_of Try.func58 (by kernel_rfl) rfl
set_option maxRecDepth 100000 in
theorem compareL_any (A B : Option Addr) (n m cap cap2 : Nat) (xs ys : List (Int × Int)) (w : World) (hn : xs.length = n) (hm : ys.length = m) (hn1 : n ≤ 1000) (hm1 : m ≤ 1000) (hr : RU w w.heap.size A xs) (hs : RU w w.heap.size B ys) :
    Calls Try.prog 57 #[.slice A n cap, .slice B m cap2, .func (.func 58) #[] #[]] w fun e w' => e = .returned (.int .i64 (listN xs ys)) ∧ Below w.heap.size w w' := by
  obtain ⟨R, hR⟩ : ∃ R, listN xs ys = R := ⟨_, rfl⟩
  rw [hR]
  have hR' := Lib.hid hR
  have hn' := Lib.hid hn
  have hm' := Lib.hid hm
  have hent := byBlock_enters
  clear hR hn hm
  go_enter Try.func57, Try.ntmps57
  go_wp2_with fail
  go_loopw [13] (fun i wr => ∃ k : Nat, k ≤ n ∧ k ≤ m ∧ i = .int .i64 k ∧ Below w.heap.size w wr ∧ Hid (listN (xs.drop k) (ys.drop k) = R)) (fun i _ => n - (intOf i).toNat)
  case atStart => exact ⟨0, by omega, by omega, rfl, Below.refl _ _, by simpa using hR'⟩
  case round =>
    obtain ⟨k, hk, hkm, rfl, hB, hH⟩ := hrel
    by_cases hlt : k < n
    · have hlt' : decide ((k : Int) < (n : Int)) = true := by simpa using hlt
      obtain ⟨b, o, rfl, _, c1, c2⟩ := RU.at_' ((hr.below hB).more hB.size) (k := k) (by have := hn'.out; omega)
      have hd := Lib.hid (Go.Pol.drop_cons (0,0) xs k (by have := hn'.out; omega))
      generalize xs.getD k (0,0) = x at *
      obtain ⟨x1, x2⟩ := x
      simp only at c1 c2
      have hBa := hB.alloc hB.size (.cells #[.int .i64 x1, .int .i64 x2] 42)
      by_cases hlm : k < m
      · have hlm' : decide ((m : Int) ≤ (k : Int)) = false := by simp; omega
        obtain ⟨b', o', rfl, _, d1, d2⟩ := RU.at_' ((hs.below hBa).more hBa.size) (k := k) (by have := hm'.out; omega)
        have he := Lib.hid (Go.Pol.drop_cons (0,0) ys k (by have := hm'.out; omega))
        generalize ys.getD k (0,0) = y at *
        obtain ⟨y1, y2⟩ := y
        simp only at d1 d2
        have hBb := hBa.alloc hBa.size (.cells #[.int .i64 y1, .int .i64 y2] 42)
        have HB := Lib.hid (fun W => byBlock_any (x1, x2) (y1, y2) W)
        simp only at HB
        have hst : Hid (R = if moveN (x1, x2) (y1, y2) = 0 then listN (xs.drop (k + 1)) (ys.drop (k + 1)) else moveN (x1, x2) (y1, y2)) := Lib.hid (by rw [← hH.out, hd.out, he.out, listN])
        have hmb := moveN_bound (x1, x2) (y1, y2)
        by_cases h0 : moveN (x1, x2) (y1, y2) = 0
        · have hH2 : Hid (listN (xs.drop (k + 1)) (ys.drop (k + 1)) = R) := Lib.hid (by rw [hst.out, if_pos h0])
          rw [h0] at HB
          clear hst h0 hH hmb
          go_wp2_with fail
          refine (HB.out _).mono ?_
          rintro e w5 ⟨rfl, hb5⟩
          go_wp2_with fail
          go_roundw
          case rel => exact ⟨k + 1, by omega, by omega, by go_num, hBb.trans (hb5.mono hBb.size), hH2⟩
          case measure => simp [intOf]; omega
        · have hRR : Hid (R = moveN (x1, x2) (y1, y2)) := Lib.hid (by rw [hst.out, if_neg h0])
          generalize moveN (x1, x2) (y1, y2) = c at *
          have h0' : (c != 0) = true := by simpa using h0
          clear hst h0 hH
          go_wp2_with fail
          refine (HB.out _).mono ?_
          rintro e w5 ⟨rfl, hb5⟩
          go_wp2_with fail
          go_ret
          exact ⟨ret_int hRR.out.symm, hBb.trans (hb5.mono hBb.size)⟩
      · have hlm' : decide ((m : Int) ≤ (k : Int)) = true := by simp; omega
        have hRR : Hid (R = 1) := Lib.hid (by rw [← hH.out, hd.out, List.drop_of_length_le (l := ys) (by have := hm'.out; omega), listN])
        clear hH
        go_wp2_with fail
        go_ret
        exact ⟨ret_int hRR.out.symm, hBa⟩
    · obtain rfl : k = n := by omega
      have hlt' : decide ((k : Int) < (k : Int)) = false := by simp
      by_cases hlm : k < m
      · have hlm' : decide ((k : Int) < (m : Int)) = true := by simpa using hlm
        have hlm2 : decide (k < m) = true := by simpa using hlm
        have hRR : Hid (R = -1) := Lib.hid (by
          rw [← hH.out, List.drop_of_length_le (by have := hn'.out; omega), Go.Pol.drop_cons (0,0) ys k (by have := hm'.out; omega), listN])
        clear hH hlm
        go_wp2_with fail
        go_ret
        exact ⟨ret_int hRR.out.symm, hB⟩
      · have hlm' : decide ((k : Int) < (m : Int)) = false := by simpa using hlm
        have hlm2 : decide (k < m) = false := by simpa using hlm
        have hRR : Hid (R = 0) := Lib.hid (by
          rw [← hH.out, List.drop_of_length_le (by have := hn'.out; omega), List.drop_of_length_le (by have := hm'.out; omega), listN])
        clear hH hlm
        go_wp2_with fail
        go_ret
        exact ⟨ret_int hRR.out.symm, hB⟩
end Go.Proofs.Ytifdgabfnnkghaa
