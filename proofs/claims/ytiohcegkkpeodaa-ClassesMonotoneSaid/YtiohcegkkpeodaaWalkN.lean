/- Walks: the waste of a table, the order of tables and the sets of sizes (the reference of Best). -/
import Derived.Test.YtiohcegkkpeodaaWalkH
import Derived.Test.YtiohcegkkpeodaaLibT
import Derived.Test.YtiohcegkkpeodaaSpecX
import Derived.Deep.AppendLies
namespace Go.Pol
def wstR (xs : List Int) (us : List (Int × Int)) : Int × Bool := match wstL xs 0 us with
  | some n => (n, true)
  | none => (0, false)
theorem wst_bd' {xs : List Int} (h : ∀ k, k < xs.length → 1 ≤ xs.getD k 0 ∧ xs.getD k 0 ≤ 4096) {us : List (Int × Int)} (hu : okU us) (k : Nat) (hk : k < us.length) (hc : cls xs (us.getD k (0,0)).1 < xs.length) :
    0 ≤ xs.getD (cls xs (us.getD k (0,0)).1) 0 - (us.getD k (0,0)).1 ∧ xs.getD (cls xs (us.getD k (0,0)).1) 0 - (us.getD k (0,0)).1 ≤ 4096 ∧ 0 ≤ (xs.getD (cls xs (us.getD k (0,0)).1) 0 - (us.getD k (0,0)).1) * (us.getD k (0,0)).2 ∧ (xs.getD (cls xs (us.getD k (0,0)).1) 0 - (us.getD k (0,0)).1) * (us.getD k (0,0)).2 ≤ 4096000000 := by
  have h1 := cls_ge xs _ hc
  have h2 := h _ hc
  have h3 := hu.at_ k hk
  have h4 := mul_bd (A := 4096) (B := 1000000) (show 0 ≤ xs.getD (cls xs (us.getD k (0,0)).1) 0 - (us.getD k (0,0)).1 by omega) (by omega) (show 0 ≤ (us.getD k (0,0)).2 by omega) (by omega)
  omega
end Go.Pol
namespace Go.Proofs.Ytiohcegkkpeodaa
open Go Go.Proofs Go.RowKit Go.Pol
set_option maxHeartbeats 800000 in
theorem refWst_any (A U : Option Addr) (n cap m ucap : Nat) (xs : List Int) (us : List (Int × Int)) (w : World) (hn : xs.length = n) (hm : us.length = m) (hn2 : n ≤ maxLen) (hr : RI w w.heap.size A xs) (hu : RU w w.heap.size U us) (hx : ∀ k, k < xs.length → 1 ≤ xs.getD k 0 ∧ xs.getD k 0 ≤ 4096) (hoku : okU us) :
    Calls Try.prog 42 #[.agg #[.slice A n cap], .slice U m ucap] w fun e w' => e = .returned (.tuple #[.int .i64 (wstR xs us).1, .bool (wstR xs us).2]) ∧ Below w.heap.size w w' := by
  have HCL := Lib.hid (fun W (h : RI W W.heap.size A xs) s => refClass_any A n cap xs s W hn hn2 h)
  unfold maxLen at hn2
  have hn' := Lib.hid hn
  have hm' := Lib.hid hm
  have hX := Lib.hid hx
  have hU := Lib.hid hoku
  have hm3 : m ≤ 200 := by have := hoku.len; omega
  have HW : Hid (∀ v, wstL xs 0 us = some v → wstR xs us = (v, true)) := Lib.hid (fun v h => by unfold wstR; rw [h])
  have HN : Hid (wstL xs 0 us = none → wstR xs us = (0, false)) := Lib.hid (fun h => by unfold wstR; rw [h])
  clear hn hm hx hoku
  generalize wstR xs us = R at *
  have hb0 := (Below.refl w.heap.size w).alloc (Nat.le_refl _) (.cells #[Value.slice A n cap] 24)
  have k0 := Blk.new w 24 #[Value.slice A n cap]
  go_enter Try.func42, Try.ntmps42
  go_wp2_with fail
  go_loopw [7, 6] (fun i s wr => ∃ (k : Nat) (a : Int), k ≤ m ∧ i = .int .i64 k ∧ s = .int .i64 a ∧ 0 ≤ a ∧ a ≤ 4096000000 * k ∧ Below w.heap.size w wr ∧ Blk wr w.heap.size 24 #[Value.slice A n cap] ∧ Hid (wstL xs 0 us = wstL xs a (us.drop k))) (fun i _ _ => m - (intOf i).toNat)
  case atStart => exact ⟨0, 0, by omega, rfl, rfl, by omega, by omega, hb0, k0, Lib.hid rfl⟩
  case round =>
    clear hb0 k0
    obtain ⟨k, a, hk, rfl, rfl, ha0, ha1, hB, kT, hL⟩ := hrel
    by_cases hlt : k < m
    · obtain ⟨b, o, rfl, _, hc, hd⟩ := RU.at_' (hu.below hB) (k := k) (by have := hm'.out; omega)
      have hdr := Lib.hid (drop_cons (0,0) us k (by have := hm'.out; omega))
      have hbd := Lib.hid (wst_bd' hX.out hU.out k (by have := hm'.out; omega))
      have hux := hU.out.at_ k (by have := hm'.out; omega)
      generalize us.getD k (0,0) = u at *
      obtain ⟨x, y⟩ := u
      dsimp only at hc hd hbd hux
      obtain ⟨hx1, hx2, hy1, hy2, _⟩ := hux
      have hr1 := hr.below hB
      have hcl2 := cls_le xs x
      rw [hn'.out] at hcl2
      have HCLC : Hid (∀ z : Ext wr, Calls Try.prog 33 #[.agg #[.slice A n cap], .int .i64 x] z.w fun e w'' => e = .returned (.int .i64 ((cls xs x : Nat) : Int)) ∧ ∃ y : Ext wr, w'' = y.w) := Lib.hid (fun z => Ext.call (HCL.out _ ((hr1.below (z.le.mono hB.size)).more (by have := hB.size; have := z.le.size; omega)) _))
      have q1 := fun z : Ext wr => (z.blk kT).cell
      have q2 := fun z : Ext wr => z.cell hc
      have q3 := fun z : Ext wr => z.cell hd
      by_cases hcl : cls xs x = n
      · have hE : Hid (wstL xs 0 us = none) := Lib.hid (by rw [hL.out, hdr.out, wstL, if_pos (by rw [hn'.out]; exact hcl)])
        have hcb : ((cls xs x : Nat) : Int) == (n : Int) := by simp [hcl]
        clear hcl
        go_upto_region 5 with fail
        refine region_ext (by kernel_rfl) (by kernel_rfl) ?_
        repeat (go_big_quiet_step (((go_at_call 33; exact HCLC.out _))))
        refine wpQuiet_nil ?_
        rintro w3 ⟨⟨_, hw3⟩, rfl⟩
        have c3 := (kT.call hw3).cell
        go_wp2_with fail
        go_ret2
        exact ⟨by rw [HN.out hE.out]; rfl, hB.trans (hw3.mono hB.size)⟩
      · obtain ⟨z1, z2, z3, z4⟩ := hbd.out (by rw [hn'.out]; omega)
        obtain ⟨g, oo, rfl, _, hc2⟩ := RI.at_ hr1 (k := cls xs x) (by rw [hn'.out]; omega)
        have hE : Hid (wstL xs 0 us = wstL xs (a + (xs.getD (cls xs x) 0 - x) * y) (us.drop (k + 1))) := Lib.hid (by rw [hL.out, hdr.out, wstL, if_neg (by rw [hn'.out]; exact hcl)])
        have hcb : (((cls xs x : Nat) : Int) == (n : Int)) = false := by simp; omega
        have hcx : cls xs x < n := by omega
        have hwm : IntKind.i64.wrap ((xs.getD (cls xs x) 0 - x) * y) = (xs.getD (cls xs x) 0 - x) * y := IntWalk.i64_in _ (by omega)
        have hwm2 : IntKind.i64.wrap (a + (xs.getD (cls xs x) 0 - x) * y) = a + (xs.getD (cls xs x) 0 - x) * y := IntWalk.i64_in _ (by omega)
        generalize xs.getD (cls xs x) 0 = cl at *
        clear hcl
        go_upto_region 5 with fail
        refine region_ext (by kernel_rfl) (by kernel_rfl) ?_
        repeat (go_big_quiet_step (((go_at_call 33; exact HCLC.out _))))
        refine wpQuiet_nil ?_
        rintro w3 ⟨⟨_, hw3⟩, rfl⟩
        have kT3 := kT.call hw3
        have c3 := kT3.cell
        have q4 := fun z : Ext w3 => (z.blk kT3).cell
        have x5 : Ext wr := ⟨w3, hw3⟩
        have q5 := fun z : Ext w3 => z.cell ((⟨w3, hw3⟩ : Ext wr).cell hc)
        have q6 := fun z : Ext w3 => z.cell ((⟨w3, hw3⟩ : Ext wr).cell hd)
        have q7 := fun z : Ext w3 => z.cell ((⟨w3, hw3⟩ : Ext wr).cell hc2)
        clear x5 q1 q2 q3 hc hd hc2
        go_upto_region 8 with fail
        refine region_ext (by kernel_rfl) (by kernel_rfl) ?_
        repeat (go_big_quiet_step (fail))
        refine wpQuiet_nil ?_
        rintro w4 ⟨⟨_, hw4⟩, rfl⟩
        go_wp2_with fail
        have hB4 := (hB.trans (hw3.mono hB.size)).trans (hw4.mono (Nat.le_trans hB.size hw3.size))
        go_roundw
        case rel => exact ⟨k + 1, _, by omega, by go_num, rfl, by omega, by omega, hB4, kT3.call hw4, hE⟩
        case measure => simp [intOf]; omega
    · obtain rfl : m = k := by omega
      have hE : Hid (wstL xs 0 us = some a) := Lib.hid (by rw [hL.out, List.drop_of_length_le (by have := hm'.out; omega)]; rfl)
      go_wp2_with fail
      go_ret2
      exact ⟨by rw [HW.out _ hE.out]; rfl, hB⟩
set_option maxHeartbeats 800000 in
theorem before_any (A B : Option Addr) (n m cap cap' : Nat) (xs ys : List Int) (w : World) (hn : xs.length = n) (hm : n ≤ maxLen) (hn2 : ys.length = m) (hm2 : m ≤ maxLen) (hr : RI w w.heap.size A xs) (hs : RI w w.heap.size B ys) :
    Calls Try.prog 47 #[.agg #[.slice A n cap], .agg #[.slice B m cap']] w fun e w' => e = .returned (.bool (befB xs ys)) ∧ Below w.heap.size w w' := by
  unfold maxLen at hm hm2
  have hb0 : Below w.heap.size w ((w.alloc (Obj.cells #[Value.slice A n cap] 24)).alloc (Obj.cells #[Value.slice B m cap'] 24)) := ((Below.refl _ _).alloc (Nat.le_refl _) _).alloc (by simp) _
  have hn' := Lib.hid hn
  have hm' := Lib.hid hn2
  clear hn hn2
  by_cases hnm : n = m
  case neg =>
    have hne : ((n : Int) != m) = true := by rw [bne_iff_ne]; omega
    have H : Hid (befB xs ys = decide (n < m)) := Lib.hid (by unfold befB; rw [if_pos (by rw [hn'.out, hm'.out]; exact hnm), hn'.out, hm'.out])
    generalize befB xs ys = R at *
    go_enter Try.func47, Try.ntmps47
    go_wp2
    go_ret
    exact ⟨ret_bool (by rw [H.out]), hb0⟩
  case pos =>
    subst hnm
    have hne : ((n : Int) != n) = false := by simp
    have H : Hid (befB xs ys = lexB xs ys) := Lib.hid (by unfold befB; rw [if_neg (by simp [hn'.out, hm'.out])])
    generalize befB xs ys = R at *
    have k0 := (Blk.new w 24 #[.slice A n cap]).alloc (.cells #[.slice B n cap'] 24)
    have k1 := Blk.new (w.alloc (.cells #[.slice A n cap] 24)) 24 #[.slice B n cap']
    rw [World.size_alloc] at k1
    go_enter Try.func47, Try.ntmps47
    go_wp2
    go_loopw [5] (fun i wr => ∃ (k : Nat), k ≤ n ∧ i = .int .i64 k ∧ Below w.heap.size w wr ∧ Blk wr w.heap.size 24 #[.slice A n cap] ∧ Blk wr (w.heap.size + 1) 24 #[.slice B n cap'] ∧ Hid (R = lexB (xs.drop k) (ys.drop k))) (fun i _ => n - (intOf i).toNat)
    case atStart => exact ⟨0, by omega, rfl, hb0, k0, k1, Lib.hid (by simpa using H.out)⟩
    case round =>
      clear hb0 k0 k1
      obtain ⟨k, hk, rfl, hB, k0, k1, hL⟩ := hrel
      have hr1 := hr.below hB
      have hs1 := hs.below hB
      have c0 := k0.cell
      have c1 := k1.cell
      by_cases hlt : k < n
      · obtain ⟨b, o, rfl, _, hc⟩ := RI.at_ hr1 (k := k) (by have := hn'.out; omega)
        obtain ⟨b2, o2, rfl, _, hc2⟩ := RI.at_ hs1 (k := k) (by have := hm'.out; omega)
        have hd1 := Lib.hid (drop_cons 0 xs k (by have := hn'.out; omega))
        have hd2 := Lib.hid (drop_cons 0 ys k (by have := hm'.out; omega))
        generalize xs.getD k 0 = x at *
        generalize ys.getD k 0 = y at *
        have q0 := fun z : Ext wr => (z.blk k0).cell
        have q1 := fun z : Ext wr => (z.blk k1).cell
        have q2 := fun z : Ext wr => z.cell hc
        have q3 := fun z : Ext wr => z.cell hc2
        by_cases hxy : x = y
        · have hxy' : (x != y) = false := by simpa using hxy
          have hst : Hid (R = lexB (xs.drop (k + 1)) (ys.drop (k + 1))) := Lib.hid (by rw [hL.out, hd1.out, hd2.out, lexB, if_pos hxy])
          clear hxy
          go_upto_region 6 with fail
          refine region_ext (by kernel_rfl) (by kernel_rfl) ?_
          repeat (go_big_quiet_step (fail))
          refine wpQuiet_nil ?_
          rintro w1 ⟨⟨_, hw1⟩, rfl⟩
          go_wp2_with fail
          go_roundw
          case rel => exact ⟨k + 1, by omega, by go_num, hB.trans (hw1.mono hB.size), k0.call hw1, k1.call hw1, hst⟩
          case measure => simp [intOf]; omega
        · have hxy' : (x != y) = true := by simpa using hxy
          have hst : Hid (R = decide (x < y)) := Lib.hid (by rw [hL.out, hd1.out, hd2.out, lexB, if_neg hxy])
          clear hxy
          go_upto_region 6 with fail
          refine region_ext (by kernel_rfl) (by kernel_rfl) ?_
          repeat (go_big_quiet_step (fail))
          refine wpQuiet_nil ?_
          rintro w1 ⟨⟨_, hw1⟩, rfl⟩
          have k0b := k0.call hw1
          have k1b := k1.call hw1
          have r2 := fun z : Ext w1 => z.cell ((⟨w1, hw1⟩ : Ext wr).cell hc)
          have r3 := fun z : Ext w1 => z.cell ((⟨w1, hw1⟩ : Ext wr).cell hc2)
          have r0 := fun z : Ext w1 => (z.blk k0b).cell
          have r1 := fun z : Ext w1 => (z.blk k1b).cell
          go_upto_region 7 with fail
          refine region_ext (by kernel_rfl) (by kernel_rfl) ?_
          repeat (go_big_quiet_step (fail))
          refine wpQuiet_nil ?_
          rintro w2 ⟨⟨_, hw2⟩, rfl⟩
          go_wp2_with fail
          go_ret
          exact ⟨ret_bool hst.out.symm, (hB.trans (hw1.mono hB.size)).trans (hw2.mono (Nat.le_trans hB.size hw1.size))⟩
      · have hst : Hid (R = false) := Lib.hid (by rw [hL.out, List.drop_of_length_le (by have := hn'.out; omega)]; rfl)
        go_wp2_with fail
        go_ret
        exact ⟨ret_bool hst.out.symm, hB⟩
end Go.Proofs.Ytiohcegkkpeodaa
