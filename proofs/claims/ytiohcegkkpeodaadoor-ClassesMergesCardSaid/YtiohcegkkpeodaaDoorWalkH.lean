/- Walks: the search for a class; Class and Waste of the program. -/
import Derived.Test.YtiohcegkkpeodaaDoorWalkB
import Derived.Test.YtiohcegkkpeodaaDoorSpecB
namespace Go.Pol
/-- the waste of a usage with a table, added to 'a'; none: a size is greater than all classes -/
def wstL (xs : List Int) : Int → List (Int × Int) → Option Int
  | a, [] => some a
  | a, u :: r => if cls xs u.1 = xs.length then none else wstL xs (a + (xs.getD (cls xs u.1) 0 - u.1) * u.2) r
def wasteT (xs : List Int) (us : List (Int × Int)) : Int × Int :=
  if chkT xs = 0 then if chkU us = 0 then (match wstL xs 0 us with | none => (0, 4) | some n => (n, 0)) else (0, chkU us) else (0, chkT xs)
end Go.Pol
namespace Go.Proofs.YtiohcegkkpeodaaDoor
open Go Go.Proofs Go.RowKit Go.Pol

theorem cmpNaN_any (x : Int) (w : World) : Calls Tryd.prog 56 #[.int .i64 x] w fun e w' => e = .returned (.bool false) ∧ w = w' := by
  have h : (x != x) = false := by simp
  go_enter Tryd.func56, Tryd.ntmps56
  go_wp2
  go_ret
  exact ⟨rfl, rfl⟩
theorem slNaN_any (x : Int) (w : World) : Calls Tryd.prog 43 #[.int .i64 x] w fun e w' => e = .returned (.bool false) ∧ w = w' := by
  have h : (x != x) = false := by simp
  go_enter Tryd.func43, Tryd.ntmps43
  go_wp2
  go_ret
  exact ⟨rfl, rfl⟩
theorem cmpLess_any (x y : Int) (w : World) (b : Bool) (hb : decide (x < y) = b) : Calls Tryd.prog 42 #[.int .i64 x, .int .i64 y] w fun e w' => e = .returned (.bool b) ∧ w = w' := by
  have HB := Lib.hid hb
  clear hb
  go_enter Tryd.func42, Tryd.ntmps42
  go_wp2_with (go_at_call 56; refine (cmpNaN_any _ _).mono ?_; rintro e w' ⟨rfl, rfl⟩)
  go_ret
  exact ⟨ret_bool HB.out, rfl⟩
theorem cls_all {xs : List Int} (h : okT xs) (t : Int) : ∀ k, k < xs.length → decide (xs.getD k 0 < t) = decide (k < cls xs t) := by
  have hasc : ∀ d k, k + d < xs.length → xs.getD k 0 ≤ xs.getD (k + d) 0 := by
    intro d
    induction d with
    | zero => intro k _; exact Int.le_refl _
    | succ d ih =>
      intro k hk
      have h1 := ih k (by omega)
      have h2 := (h.at_ (k + (d + 1)) hk).2.2
      have e : prev xs (k + (d + 1)) = xs.getD (k + d) 0 := rfl
      omega
  intro k hk
  by_cases hc : k < cls xs t
  · have := cls_lt xs t k hc
    simp [hc]
    simpa using this
  · have hcl : cls xs t < xs.length := by omega
    have h1 := cls_ge xs t hcl
    have h2 := hasc (k - cls xs t) (cls xs t) (by omega)
    rw [show cls xs t + (k - cls xs t) = k by omega] at h2
    have : ¬ xs.getD k 0 < t := by omega
    rw [decide_eq_false this, decide_eq_false hc]
def SrchR (c : Nat) (w : World) (e : Ending) (w' : World) : Prop := ∃ b : Bool, e = .returned (.tuple #[.int .i64 c, .bool b]) ∧ w = w'
set_option maxHeartbeats 400000 in
theorem search_any (A : Option Addr) (n cap : Nat) (xs : List Int) (t : Int) (w : World) (hn : xs.length = n) (hm : n ≤ 1000) (hr : RI w w.heap.size A xs) (hs : okT xs) :
    Calls Tryd.prog 33 #[.slice A n cap, .int .i64 t] w (SrchR (cls xs t) w) := by
  have hn' := Lib.hid hn
  have hall := Lib.hid (fun k (h : k < n) => cls_all hs t k (by omega))
  have hcn : cls xs t ≤ n := by have := cls_le xs t; omega
  obtain ⟨c, hc⟩ : ∃ c, cls xs t = c := ⟨_, rfl⟩
  rw [hc] at hall hcn ⊢
  clear hn hs hc
  go_enter Tryd.func33, Tryd.ntmps33
  go_wp2_with fail
  go_loop [7, 8] (fun i j => ∃ a b : Nat, a ≤ c ∧ c ≤ b ∧ b ≤ n ∧ i = .int .i64 a ∧ j = .int .i64 b) (fun i j => (intOf j).toNat - (intOf i).toNat)
  case atStart => exact ⟨0, n, by omega, hcn, by omega, rfl, rfl⟩
  case round =>
    obtain ⟨a, b, ha, hb, hbn, rfl, rfl⟩ := hrel
    by_cases hlt : a < b
    · obtain ⟨g, o, rfl, _, hcell⟩ := RI.at_ hr (k := (a + b) / 2) (by have := hn'.out; omega)
      have hl := Lib.hid (hall.out ((a + b) / 2) (by omega))
      generalize xs.getD ((a + b) / 2) 0 = x at *
      by_cases hh : (a + b) / 2 < c
      · have hl' := Lib.hid (hl.out.trans (decide_eq_true hh))
        go_wp2_with (go_at_call 42; refine (cmpLess_any _ _ _ _ hl'.out).mono ?_; rintro e w' ⟨rfl, rfl⟩)
        go_round
        case rel => exact ⟨(a + b) / 2 + 1, b, by omega, by omega, by omega, by go_num, rfl⟩
        case measure => simp [intOf]; omega
      · have hl' := Lib.hid (hl.out.trans (decide_eq_false hh))
        go_wp2_with (go_at_call 42; refine (cmpLess_any _ _ _ _ hl'.out).mono ?_; rintro e w' ⟨rfl, rfl⟩)
        go_round
        case rel => exact ⟨a, (a + b) / 2, by omega, by omega, by omega, rfl, by go_num⟩
        case measure => simp [intOf]; omega
    · obtain rfl : a = b := by omega
      obtain rfl : a = c := by omega
      by_cases hlt2 : a < n
      · obtain ⟨g, o, rfl, _, hcell⟩ := RI.at_ hr (k := a) (by have := hn'.out; omega)
        generalize xs.getD a 0 = x at *
        by_cases hx : x = t
        · have hx' : (x == t) = true := by simpa using hx
          clear hx
          go_wp2_with (go_at_call 43; refine (slNaN_any _ _).mono ?_; rintro e w' ⟨rfl, rfl⟩)
          go_ret2
          exact ⟨_, rfl, rfl⟩
        · have hx' : (x == t) = false := by simpa using hx
          clear hx
          go_wp2_with (go_at_call 43; refine (slNaN_any _ _).mono ?_; rintro e w' ⟨rfl, rfl⟩)
          go_ret2
          exact ⟨_, rfl, rfl⟩
      · go_wp2_with fail
        go_ret2
        exact ⟨_, rfl, rfl⟩
theorem ceiling_any (A : Option Addr) (n cap : Nat) (xs : List Int) (t : Int) (w : World) (hn : xs.length = n) (hm : n ≤ 1000) (hr : RI w w.heap.size A xs) (hs : okT xs) :
    Calls Tryd.prog 19 #[.slice A n cap, .int .i64 t] w fun e w' => e = .returned (.int .i64 (cls xs t)) ∧ w = w' := by
  have HS := Lib.hid (search_any A n cap xs t w hn hm hr hs)
  clear hn hr hs
  go_enter Tryd.func19, Tryd.ntmps19
  go_wp2_with (go_at_call 33; refine HS.out.mono ?_; rintro e w' ⟨b, rfl, rfl⟩)
  go_ret
  exact ⟨rfl, rfl⟩
theorem wst_bd {xs : List Int} (h : okT xs) {us : List (Int × Int)} (hu : okU us) (k : Nat) (hk : k < us.length) (hc : cls xs (us.getD k (0,0)).1 < xs.length) :
    0 ≤ xs.getD (cls xs (us.getD k (0,0)).1) 0 - (us.getD k (0,0)).1 ∧ xs.getD (cls xs (us.getD k (0,0)).1) 0 - (us.getD k (0,0)).1 ≤ 4096 ∧ 0 ≤ (xs.getD (cls xs (us.getD k (0,0)).1) 0 - (us.getD k (0,0)).1) * (us.getD k (0,0)).2 ∧ (xs.getD (cls xs (us.getD k (0,0)).1) 0 - (us.getD k (0,0)).1) * (us.getD k (0,0)).2 ≤ 4096000000 := by
  have h1 := cls_ge xs _ hc
  have h2 := h.at_ _ hc
  have h3 := hu.at_ k hk
  have h4 := mul_bd (A := 4096) (B := 1000000) (show 0 ≤ xs.getD (cls xs (us.getD k (0,0)).1) 0 - (us.getD k (0,0)).1 by omega) (by omega) (show 0 ≤ (us.getD k (0,0)).2 by omega) (by omega)
  omega
set_option maxHeartbeats 800000 in
theorem waste_ok (A U : Option Addr) (n cap m ucap : Nat) (xs : List Int) (us : List (Int × Int)) (w : World) (hn : xs.length = n) (hm : us.length = m) (hn2 : n ≤ maxLen) (hm2 : m ≤ maxLen) (hr : RI w w.heap.size A xs) (hu : RU w w.heap.size U us) (he : chkT xs = 0) (hf : chkU us = 0) :
    Calls Tryd.prog 24 #[.agg #[.slice A n cap], .slice U m ucap] w fun e w' => e = .returned (.tuple #[.int .i64 (wasteT xs us).1, .int .i64 (wasteT xs us).2]) ∧ Below w.heap.size w w' := by
  have HCK := Lib.hid (fun W (h : RI W W.heap.size A xs) => check_any A n cap xs W hn hn2 h)
  have HCU := Lib.hid (fun W (h : RU W W.heap.size U us) => checkUse_any U m ucap us W hm hm2 h)
  have hok := Lib.hid (chkT_ok he)
  have hoku := Lib.hid (chkU_ok hf)
  have HCL := Lib.hid (fun W (h : RI W W.heap.size A xs) t => ceiling_any A n cap xs t W hn (by have := hok.out.len; omega) h hok.out)
  have hn' := Lib.hid hn
  have hm' := Lib.hid hm
  have hn3 : n ≤ 64 := by have := hok.out.len; omega
  have hm3 : m ≤ 200 := by have := hoku.out.len; omega
  have HW : Hid (∀ v, wstL xs 0 us = some v → wasteT xs us = (v, 0)) := Lib.hid (fun v h => by unfold wasteT; rw [if_pos he, if_pos hf, h])
  have HN : Hid (wstL xs 0 us = none → wasteT xs us = (0, 4)) := Lib.hid (fun h => by unfold wasteT; rw [if_pos he, if_pos hf, h])
  have he' : (chkT xs != 0) = false := by simpa using he
  have hf' : (chkU us != 0) = false := by simpa using hf
  clear he hf hn hm hn2 hm2
  generalize wasteT xs us = R at *
  have hb0 : ∀ t, Below w.heap.size w (w.alloc (Obj.cells #[Value.slice A n cap] t)) := fun t => (Below.refl _ _).alloc (Nat.le_refl _) _
  have hr0 := (hr.below (hb0 27)).more (B' := (w.alloc (Obj.cells #[Value.slice A n cap] 27)).heap.size) (by simp)
  go_enter Tryd.func24, Tryd.ntmps24
  go_wp2_with (first
    | (go_at_call 17; refine (HCK.out _ hr0).mono ?_; rintro e w1 ⟨rfl, hq⟩; have k1 := (Blk.new w 27 #[Value.slice A n cap]).call hq; have hB1 := (hb0 27).trans (hq.mono (by simp)); have hu1 := (hu.below hB1).more hB1.size)
    | (go_at_call 20; refine (HCU.out _ hu1).mono ?_; rintro e w2 ⟨rfl, hq2⟩; have k2 := k1.call hq2; have hB2 := hB1.trans (hq2.mono hB1.size)))
  clear hq hq2 k1 hB1 hu1 hr0 hb0 he' hf' HCK HCU
  generalize chkT xs = e1
  generalize chkU us = e2
  go_loopw [24, 8] (fun i s wr => ∃ (k : Nat) (a : Int), k ≤ m ∧ i = .int .i64 k ∧ s = .int .i64 a ∧ 0 ≤ a ∧ a ≤ 4096000000 * k ∧ Below w.heap.size w wr ∧ Blk wr w.heap.size 27 #[Value.slice A n cap] ∧ Hid (wstL xs 0 us = wstL xs a (us.drop k))) (fun i _ _ => m - (intOf i).toNat)
  case atStart => exact ⟨0, 0, by omega, rfl, rfl, by omega, by omega, hB2, k2, Lib.hid rfl⟩
  case round =>
    clear hB2 k2
    obtain ⟨k, a, hk, rfl, rfl, ha0, ha1, hB, kT, hL⟩ := hrel
    by_cases hlt : k < m
    · obtain ⟨b, o, rfl, _, hc, hd⟩ := RU.at_' (hu.below hB) (k := k) (by have := hm'.out; omega)
      have hdr := Lib.hid (drop_cons (0,0) us k (by have := hm'.out; omega))
      have hbd := Lib.hid (wst_bd hok.out hoku.out k (by have := hm'.out; omega))
      have hux := hoku.out.at_ k (by have := hm'.out; omega)
      generalize us.getD k (0,0) = u at *
      obtain ⟨x, y⟩ := u
      dsimp only at hc hd hbd hux
      obtain ⟨hx1, hx2, hy1, hy2, _⟩ := hux
      have hB' := hB.alloc hB.size (.cells #[.int .i64 x, .int .i64 y] 48)
      have kT' := kT.alloc (.cells #[.int .i64 x, .int .i64 y] 48)
      have cT := kT'.cell
      have lT := kT.lt
      have hr1 := (hr.below hB').more hB'.size
      by_cases hcl : cls xs x = n
      · have hE : Hid (wstL xs 0 us = none) := Lib.hid (by rw [hL.out, hdr.out, wstL, if_pos (by rw [hn'.out]; exact hcl)])
        have hcb : ((cls xs x : Nat) : Int) == (n : Int) := by simp [hcl]
        clear hcl
        go_wp2_with (go_at_call 19; refine (HCL.out _ hr1 _).mono ?_; rintro e w3 ⟨rfl, rfl⟩)
        go_ret2
        exact ⟨by rw [HN.out hE.out]; rfl, hB'⟩
      · have hcl2 := cls_le xs x
        rw [hn'.out] at hcl2
        obtain ⟨z1, z2, z3, z4⟩ := hbd.out (by rw [hn'.out]; omega)
        obtain ⟨g, oo, rfl, _, hc2⟩ := RI.at_ hr1 (k := cls xs x) (by rw [hn'.out]; omega)
        have hE : Hid (wstL xs 0 us = wstL xs (a + (xs.getD (cls xs x) 0 - x) * y) (us.drop (k + 1))) := Lib.hid (by rw [hL.out, hdr.out, wstL, if_neg (by rw [hn'.out]; exact hcl)])
        have hcb : (((cls xs x : Nat) : Int) == (n : Int)) = false := by simp; omega
        have hcx : cls xs x < n := by omega
        have hwm : IntKind.i64.wrap ((xs.getD (cls xs x) 0 - x) * y) = (xs.getD (cls xs x) 0 - x) * y := IntWalk.i64_in _ (by omega)
        have hwm2 : IntKind.i64.wrap (a + (xs.getD (cls xs x) 0 - x) * y) = a + (xs.getD (cls xs x) 0 - x) * y := IntWalk.i64_in _ (by omega)
        generalize xs.getD (cls xs x) 0 = cl at *
        clear hcl
        go_upto_region 14 with (go_at_call 19; refine (HCL.out _ hr1 _).mono ?_; rintro e w3 ⟨rfl, rfl⟩)
        obtain ⟨W1, hW1⟩ : ∃ W1, wr.alloc (.cells #[.int .i64 x, .int .i64 y] 48) = W1 := ⟨_, rfl⟩
        have kx : Blk W1 wr.heap.size 48 #[.int .i64 x, .int .i64 y] := by rw [← hW1]; exact Blk.new _ _ _
        rw [hW1] at hB' kT' hc2 ⊢
        clear hW1 cT hr1 hc hd
        have q1 := fun z : Ext W1 => (z.blk kT').cell
        have q2 := fun z : Ext W1 => (z.blk kx).cell
        have q3 := fun z : Ext W1 => z.cell hc2
        refine region_ext (by kernel_rfl) (by kernel_rfl) ?_
        repeat (go_big_quiet_step (fail))
        refine wpQuiet_nil ?_
        rintro w3 ⟨⟨_, hw3⟩, rfl⟩
        go_wp2_with fail
        go_roundw
        case rel => exact ⟨k + 1, _, by omega, by go_num, rfl, by omega, by omega, hB'.trans (hw3.mono hB'.size), kT'.call hw3, hE⟩
        case measure => simp [intOf]; omega
    · obtain rfl : m = k := by omega
      have hE : Hid (wstL xs 0 us = some a) := Lib.hid (by rw [hL.out, List.drop_of_length_le (by have := hm'.out; omega)]; rfl)
      go_wp2_with fail
      go_ret2
      exact ⟨by rw [HW.out _ hE.out]; rfl, hB⟩
end Go.Proofs.YtiohcegkkpeodaaDoor
