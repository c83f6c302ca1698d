/- Words for memory that all walks of this seat share: a slice that reads as a list of integers or of structs of integers; how such readings are carried into world. -/
import Derived.Below
import Derived.Laws.OwnMore
import Derived.Laws.MakeOwn
import Derived.Laws.CopyOwn
import Derived.Deep.RegionLaw
import Derived.Deep.AppendLies
import Derived.Deep.Draws
import Derived.Deep.QuietTactic
import Derived.BigQuiet
import Derived.Lib.Hide
import Derived.WalkKit
import Derived.WalkSpells
import Derived.WalkLawsBesides
import Derived.Maps.AppendAt
import Derived.StillTailTactics
import Derived.Deep.RegionHeld3
import Derived.Deep.DeepCutAuto
import Derived.Deep.DeepFit
import Derived.ChangeSame
import Derived.Deep.Slices
import Derived.Deep.Fields
import Derived.Lib.SmallJoins
import Derived.OpenShut
import Derived.ProofKit
import Derived.OpenVars
import Derived.JoinedOf
import Derived.RangeFuncNested
import Derived.RangeFuncBound
import Derived.RangeFuncCalls
import Derived.RangeFuncLeaves
import Derived.OwnWalkIn
import Derived.TacticsInMore
import Derived.LoopNIn
import Derived.LoopIn
import Derived.Test.YtjmmgoijnhnnaaaGreatChecked
import Derived.Laws.StructEq
import Derived.Sort.CutIn
import Derived.Shelf.Abstract
import Derived.OrdersHeld
import Derived.Lib.BitFns
import Derived.Lib.Strings
import Derived.Lib.Small
import Derived.Lib.Walk
import Derived.Deep.MidRow
import Derived.OrdersIn
import Derived.Laws.AppendOwn
import Derived.DeepKeys
import Derived.Test.YtjmmgoijnhnnaaaGreatV9
namespace Go.Pol
open Go Go.RowKit
theorem Can.eq_setA {s : List Sp} (h : Can s) (f : Nat → Bool) (hf : ∀ p : Nat, p < 1024 → f p = mem p s) : s = setA f := by
 refine h.eq (setA_can f) fun p => ?_
 rw [Bool.eq_iff_iff, mem_setA]
 constructor
 ·intro hp
  have := h.range hp
  refine ⟨this, ?_⟩
  rw [hf _ (by omega), Int.toNat_of_nonneg this.1]; exact hp
 ·rintro ⟨h1, h2⟩
  rw [hf _ (by omega), Int.toNat_of_nonneg h1.1] at h2; exact h2
end Go.Pol
namespace Go.Proofs.YtjmmgoijnhnnaaaGreat
open Go Go.Proofs Go.RowKit Go.Pol
theorem valid_any (p n : Int) (w : World) :
  Calls Tryz.prog 109 #[.agg #[.int .i64 p, .int .i64 n]] w fun e w' => e = .returned (.bool (vld (p, n))) ∧ Below w.heap.size w w' := by
 have hb0 := (Below.refl w.heap.size w).alloc (Nat.le_refl _) (.cells #[.int .i64 p, .int .i64 n] 140)
 by_cases h1 : 0 ≤ p
 case neg =>
  have h1' : decide (0 ≤ p) = false := by simpa using h1
  go_enter Tryz.func109, Tryz.ntmps109
  go_wp2
  go_ret
  exact ⟨ret_bool (by simp [vld]; omega), hb0⟩
 have h1' : decide (0 ≤ p) = true := by simpa using h1
 by_cases h2 : p < 1024
 case neg =>
  have h2' : decide (p < 1024) = false := by simpa using h2
  go_enter Tryz.func109, Tryz.ntmps109
  go_wp2
  go_ret
  exact ⟨ret_bool (by simp [vld]; omega), hb0⟩
 have h2' : decide (p < 1024) = true := by simpa using h2
 by_cases h3 : 1 ≤ n
 case neg =>
  have h3' : decide (1 ≤ n) = false := by simpa using h3
  go_enter Tryz.func109, Tryz.ntmps109
  go_wp2
  go_ret
  exact ⟨ret_bool (by simp [vld]; omega), hb0⟩
 have h3' : decide (1 ≤ n) = true := by simpa using h3
 go_enter Tryz.func109, Tryz.ntmps109
 go_wp2
 go_ret
 exact ⟨ret_bool (by rw [Bool.eq_iff_iff]; simp [vld]; omega), hb0⟩
set_option maxHeartbeats 800000 in
theorem refSpCheck_any (A : Option Addr) (n cap : Nat) (us : List Sp) (w : World) (hn : us.length = n) (hm : n ≤ maxLen) (hr : RU w w.heap.size A us) :
  Calls Tryz.prog 100 #[.slice A n cap] w fun e w' => e = .returned (.int .i64 (chkS us)) ∧ Below w.heap.size w w' := by
 unfold maxLen at hm
 have hn' := Lib.hid hn
 clear hn
 obtain ⟨R, hR0⟩ : ∃ R : Int, chkS us = R := ⟨_, rfl⟩
 rw [hR0]
 have hR := Lib.hid hR0
 clear hR0
 by_cases hlen : 512 < n
 ·have hlen' : decide (512 < (n : Int)) = true := by simp; omega
  go_enter Tryz.func100, Tryz.ntmps100
  go_wp2
  go_ret
  exact ⟨ret_int (by rw [← hR.out, chkS, if_pos (by rw [hn'.out]; exact hlen)]), Below.refl _ _⟩
 have hlen' : decide (512 < (n : Int)) = false := by simp; omega
 go_enter Tryz.func100, Tryz.ntmps100
 go_wp2_with fail
 go_loopw [3] (fun i wr => ∃ (k : Int), 0 ≤ k ∧ k ≤ n ∧ i = .int .i64 k ∧ Below w.heap.size w wr ∧ Hid (∀ j : Nat, (j : Int) < k → j < us.length → vld (us.getD j (0,0)) = true)) (fun i _ => n - (intOf i).toNat)
 case atStart => exact ⟨0, by omega, by omega, rfl, Below.refl _ _, Lib.hid (fun j hj => absurd hj (by omega))⟩
 case round =>
  obtain ⟨k, hk0, hk, rfl, hB, hL⟩ := hrel
  by_cases hlt : k < n
  ·have hlt' : decide (k < (n : Int)) = true := by simpa using hlt
   obtain ⟨b, o, rfl, _, hc, hd⟩ := RU.at_' (hr.below hB) (k := k.toNat) (by have := hn'.out; omega)
   generalize hu : us.getD k.toNat (0,0) = u at *
   have hu' := Lib.hid hu; clear hu
   obtain ⟨x, y⟩ := u
   dsimp only at hc hd
   by_cases hv : vld (x, y) = true
   ·have hv' : (!vld (x, y)) = false := by simp [hv]
    go_wp2_with (go_at_call 109; refine (valid_any _ _ _).mono ?_; rintro e w1 ⟨rfl, hq⟩)
    have hB1 := hB.trans (hq.mono hB.size)
    go_roundw
    case rel =>
     refine ⟨k+1, by omega, by omega, rfl, hB1, Lib.hid (fun j hj hl => ?_)⟩
     by_cases hjk : (j : Int) < k
     ·exact hL.out j hjk hl
     ·obtain rfl : j = k.toNat := by omega
      rw [hu'.out]; exact hv
    case measure => simp [intOf]; omega
   ·have hv' : (!vld (x, y)) = true := by simpa using hv
    have hE : Hid (R = 7) := Lib.hid (by
     have hb := badAt_at us k.toNat (fun j h1 h2 => hL.out j (by omega) h2) (by have := hn'.out; omega) (by rw [hu'.out]; simpa using hv)
     rw [← hR.out, chkS, if_neg (by rw [hn'.out]; exact hlen), if_pos]
     rw [Bool.eq_false_iff]; intro hh
     have := (badAt_all us).2 hh
     have := hn'.out
     omega)
    clear hv
    go_wp2_with (go_at_call 109; refine (valid_any _ _ _).mono ?_; rintro e w1 ⟨rfl, hq⟩)
    go_ret
    exact ⟨ret_int hE.out.symm, hB.trans (hq.mono hB.size)⟩
  ·have hlt' : decide (k < (n : Int)) = false := by simp; omega
   have hA : Hid (us.all vld = true) := Lib.hid (by rw [← badAt_all]; exact badAt_end us (fun j h2 => hL.out j (by have := hn'.out; omega) h2))
   have hR2 : Hid (R = if formOk (-1) us = true then 0 else 6) := Lib.hid (by rw [← hR.out, chkS, if_neg (by rw [hn'.out]; exact hlen), if_neg (by rw [hA.out]; decide)])
   clear hL hR
   go_wp2_with fail
   go_loopw [4] (fun i wr => ∃ (k : Nat), (k + 1 ≤ n ∨ n = 0 ∧ k = 0) ∧ i = .int .i64 ((k : Int) + 1) ∧ Below w.heap.size w wr ∧ Hid (0 < n → (formOk (-1) us = true ↔ formOk ((us.getD k (0,0)).1 + (us.getD k (0,0)).2) (us.drop (k+1)) = true))) (fun i _ => n + 1 - (intOf i).toNat)
   case atStart => exact ⟨0, by omega, by simp, hB, Lib.hid (fun h => form_start us (by rw [hn'.out]; exact h) hA.out)⟩
   case round =>
    obtain ⟨k, hk, rfl, hB, hL⟩ := hrel
    by_cases hlt : k + 1 < n
    ·have hlt' : decide ((k : Int) + 1 < (n : Int)) = true := by simp; omega
     obtain ⟨b, o, rfl, hbl, hc, hd⟩ := RU.at_' (hr.below hB) (k := k) (by have := hn'.out; omega)
     obtain ⟨b', o', had, _, hc2, hd2⟩ := RU.at_' (hr.below hB) (k := k + 1) (by have := hn'.out; omega)
     obtain ⟨rfl, rfl⟩ : b = b' ∧ o = o' := by simpa using had
     clear had
     have hst := Lib.hid (form_step us (-1) k (by have := hn'.out; omega) (hL.out (by omega)))
     have hv1 := vld_iff.1 (all_at hA.out (k := k) (by have := hn'.out; omega))
     have hv2 := vld_iff.1 (all_at hA.out (k := k + 1) (by have := hn'.out; omega))
     generalize hu : us.getD k (0,0) = u at *
     generalize hv : us.getD (k+1) (0,0) = v at *
     have hv' := Lib.hid hv; clear hu hv hL
     obtain ⟨x, y⟩ := u
     obtain ⟨x2, y2⟩ := v
     dsimp only at hc hd hc2 hd2 hst hv1 hv2
     have q1 := fun y : Ext wr => y.cell hc
     have q2 := fun y : Ext wr => y.cell hd
     have q3 := fun y : Ext wr => y.cell hc2
     have q4 := fun y : Ext wr => y.cell hd2
     by_cases hle : x2 ≤ x + y
     ·have hle' : decide (x2 ≤ x + y) = true := by simpa using hle
      have hE : Hid (R = 6) := Lib.hid (by rw [hR2.out, if_neg (by rw [hst.out]; omega)])
      clear hst hR2
      go_upto_region 11 with fail
      refine region_ext (by kernel_rfl) (by kernel_rfl) ?_
      repeat (go_big_quiet_step (fail))
      refine wpQuiet_nil ?_
      rintro w2 ⟨⟨_, hw2⟩, rfl⟩
      go_wp2_with fail
      go_ret
      exact ⟨ret_int hE.out.symm, hB.trans (hw2.mono hB.size)⟩
     ·have hle' : decide (x2 ≤ x + y) = false := by simpa using hle
      have hst' : Hid (formOk (-1) us = true ↔ formOk (x2 + y2) (us.drop (k + 1 + 1)) = true) := Lib.hid (by rw [hst.out]; exact ⟨fun h => h.2, fun h => ⟨by omega, h⟩⟩)
      clear hst
      go_upto_region 11 with fail
      refine region_ext (by kernel_rfl) (by kernel_rfl) ?_
      repeat (go_big_quiet_step (fail))
      refine wpQuiet_nil ?_
      rintro w2 ⟨⟨_, hw2⟩, rfl⟩
      go_wp2_with fail
      go_roundw
      case rel => exact ⟨k + 1, by omega, by simp, hB.trans (hw2.mono hB.size), Lib.hid (fun _ => by rw [hv'.out]; exact hst'.out)⟩
      case measure => simp [intOf]; omega
    ·have hlt' : decide ((k : Int) + 1 < (n : Int)) = false := by simp; omega
     have hE : Hid (R = 0) := Lib.hid (by
      rw [hR2.out, if_pos]
      by_cases h0 : 0 < n
      ·rw [hL.out h0, List.drop_of_length_le (by have := hn'.out; omega)]; rfl
      ·rw [List.eq_nil_of_length_eq_zero (by have := hn'.out; omega : us.length = 0)]; rfl)
     clear hR2
     go_wp2_with fail
     go_ret
     exact ⟨ret_int hE.out.symm, hB⟩
end Go.Proofs.YtjmmgoijnhnnaaaGreat
namespace Go.Pol
def kindG (pg n f b ev page : Int) : Int :=
 if page - pg < 0 ∨ n ≤ page - pg then 4 else if page - pg < f then 1 else if n - b ≤ page - pg then 2 else if 0 < ev ∧ (page - pg - f + 1) % (ev + 1) = 0 then 3 else 0
end Go.Pol
namespace Go.Proofs.YtjmmgoijnhnnaaaGreat
open Go Go.Proofs Go.RowKit Go.Pol
theorem rspec_any (f b ev : Int) (w : World) :
  Calls Tryz.prog 110 #[.agg #[.int .i64 f, .int .i64 b, .int .i64 ev]] w fun e w' => e = .returned (.bool (!wrongG f b ev)) ∧ Below w.heap.size w w' := by
 have hb0 := (Below.refl w.heap.size w).alloc (Nat.le_refl _) (.cells #[.int .i64 f, .int .i64 b, .int .i64 ev] 23)
 have hR : Hid ((!wrongG f b ev) = (decide (0 ≤ f) && decide (f ≤ 16) && decide (0 ≤ b) && decide (b ≤ 16) && decide (0 ≤ ev) && decide (ev ≤ 1024))) := Lib.hid (by unfold wrongG; rw [Bool.not_not])
 by_cases hsf : 0 ≤ f
 case neg =>
  have hs' : decide (0 ≤ f) = false := by simpa using hsf
  go_enter Tryz.func110, Tryz.ntmps110
  go_wp2
  go_ret
  exact ⟨ret_bool (by rw [hR.out]; simp [*]), hb0⟩
 have hsf' : decide (0 ≤ f) = true := by simpa using hsf
 by_cases hsf : f ≤ 16
 case neg =>
  have hs' : decide (f ≤ 16) = false := by simpa using hsf
  go_enter Tryz.func110, Tryz.ntmps110
  go_wp2
  go_ret
  exact ⟨ret_bool (by rw [hR.out]; simp [*]), hb0⟩
 have hsf' : decide (f ≤ 16) = true := by simpa using hsf
 by_cases hsb : 0 ≤ b
 case neg =>
  have hs' : decide (0 ≤ b) = false := by simpa using hsb
  go_enter Tryz.func110, Tryz.ntmps110
  go_wp2
  go_ret
  exact ⟨ret_bool (by rw [hR.out]; simp [*]), hb0⟩
 have hsb' : decide (0 ≤ b) = true := by simpa using hsb
 by_cases hsb : b ≤ 16
 case neg =>
  have hs' : decide (b ≤ 16) = false := by simpa using hsb
  go_enter Tryz.func110, Tryz.ntmps110
  go_wp2
  go_ret
  exact ⟨ret_bool (by rw [hR.out]; simp [*]), hb0⟩
 have hsb' : decide (b ≤ 16) = true := by simpa using hsb
 by_cases hsev : 0 ≤ ev
 case neg =>
  have hs' : decide (0 ≤ ev) = false := by simpa using hsev
  go_enter Tryz.func110, Tryz.ntmps110
  go_wp2
  go_ret
  exact ⟨ret_bool (by rw [hR.out]; simp [*]), hb0⟩
 have hsev' : decide (0 ≤ ev) = true := by simpa using hsev
 go_enter Tryz.func110, Tryz.ntmps110
 go_wp2
 go_ret
 exact ⟨ret_bool (by rw [hR.out]; simp [*]), hb0⟩
set_option maxHeartbeats 400000 in
theorem rgcheck_any (pg n f b ev : Int) (w : World) :
  Calls Tryz.prog 43 #[planV pg n f b ev] w fun e w' => e = .returned (.int .i64 (chkG pg n f b ev)) ∧ Below w.heap.size w w' := by
 obtain ⟨R, hR0⟩ : ∃ R : Int, chkG pg n f b ev = R := ⟨_, rfl⟩
 rw [hR0]
 have hR := Lib.hid hR0
 clear hR0
 have hb1 := (Below.refl w.heap.size w).alloc (Nat.le_refl _) (.cells (planC pg n f b ev) 25)
 have k1 := Blk.new w 25 (planC pg n f b ev)
 have HC := Lib.hid (fun W => valid_any pg n W)
 by_cases hv : vld (pg, n) = true
 case neg =>
  have hv' : vld (pg, n) = false := by simpa using hv
  rw [hv'] at HC
  have hE : Hid (R = 7) := Lib.hid (by rw [← hR.out, chkG, if_pos (.inl (by simpa using hv))])
  clear hv hR hv'
  go_enter Tryz.func43, Tryz.ntmps43
  go_wp2_with (go_at_call 109; refine (HC.out _).mono ?_; rintro e w1 ⟨rfl, hq⟩; have k2 := k1.call hq; have c2 := k2.cell)
  go_ret
  exact ⟨ret_int hE.out.symm, hb1.trans (hq.mono hb1.size)⟩
 case pos =>
  rw [hv] at HC
  have HW := Lib.hid (fun W => rspec_any f b ev W)
  cases hw : wrongG f b ev with
  | true =>
   rw [hw] at HW
   have hE : Hid (R = 7) := Lib.hid (by rw [← hR.out, chkG, if_pos (.inr hw)])
   clear hv hR hw
   go_enter Tryz.func43, Tryz.ntmps43
   go_wp2_with (first
    | (go_at_call 109; refine (HC.out _).mono ?_; rintro e w1 ⟨rfl, hq⟩; have k2 := k1.call hq; have c2 := k2.cell)
    | (go_at_call 110; refine (HW.out _).mono ?_; rintro e w3 ⟨rfl, hq3⟩))
   go_ret
   have hb2 := hb1.trans (hq.mono hb1.size)
   exact ⟨ret_int hE.out.symm, hb2.trans (hq3.mono hb2.size)⟩
  | false =>
   rw [hw] at HW
   have hE : Hid (R = if n ≤ f + b then 4 else 0) := Lib.hid (by rw [← hR.out, chkG, if_neg (by simp [hv, hw])])
   have hv' := vld_iff.1 hv
   have hw' := wrongG_iff.1 hw
   dsimp only at hv'
   clear hv hR hw
   by_cases hn : n ≤ f + b
   ·have hn' : decide (n ≤ f + b) = true := by simpa using hn
    rw [if_pos hn] at hE
    clear hn
    go_enter Tryz.func43, Tryz.ntmps43
    go_wp2_with (first
     | (go_at_call 109; refine (HC.out _).mono ?_; rintro e w1 ⟨rfl, hq⟩; have k2 := k1.call hq; have c2 := k2.cell)
     | (go_at_call 110; refine (HW.out _).mono ?_; rintro e w3 ⟨rfl, hq3⟩; have k3 := k2.call hq3; have c3 := k3.cell))
    go_ret
    have hb2 := hb1.trans (hq.mono hb1.size)
    exact ⟨ret_int hE.out.symm, hb2.trans (hq3.mono hb2.size)⟩
   ·have hn' : decide (n ≤ f + b) = false := by simpa using hn
    rw [if_neg hn] at hE
    clear hn
    go_enter Tryz.func43, Tryz.ntmps43
    go_wp2_with (first
     | (go_at_call 109; refine (HC.out _).mono ?_; rintro e w1 ⟨rfl, hq⟩; have k2 := k1.call hq; have c2 := k2.cell)
     | (go_at_call 110; refine (HW.out _).mono ?_; rintro e w3 ⟨rfl, hq3⟩; have k3 := k2.call hq3; have c3 := k3.cell))
    go_ret
    have hb2 := hb1.trans (hq.mono hb1.size)
    exact ⟨ret_int hE.out.symm, hb2.trans (hq3.mono hb2.size)⟩
set_option maxHeartbeats 400000 in
theorem kind_any (pg n f b ev page : Int) (w : World) (hp : PlanOk pg n f b ev) (h0 : 0 ≤ page) (h1 : page ≤ 2000) :
  Calls Tryz.prog 171 #[planV pg n f b ev, .int .i64 page] w fun e w' => e = .returned (.int .i64 (kindG pg n f b ev page)) ∧ Below w.heap.size w w' := by
 obtain ⟨R, hR0⟩ : ∃ R : Int, kindG pg n f b ev page = R := ⟨_, rfl⟩
 rw [hR0]
 have hR := Lib.hid hR0
 clear hR0
 obtain ⟨p1, p2, p3, p4, p5, p6, p7, p8, p9, p10, p11⟩ := hp
 have hb1 := (Below.refl w.heap.size w).alloc (Nat.le_refl _) (.cells (planC pg n f b ev) 25)
 have k1 := Blk.new w 25 (planC pg n f b ev)
 have c1 := k1.cell
 by_cases a1 : page - pg < 0 ∨ n ≤ page - pg
 ·have hE : Hid (R = 4) := Lib.hid (by rw [← hR.out, kindG, if_pos a1])
  by_cases a2 : page - pg < 0
  ·have a2' : decide (page - pg < 0) = true := by simpa using a2
   go_enter Tryz.func171, Tryz.ntmps171
   go_wp2_with fail
   go_ret
   exact ⟨ret_int hE.out.symm, hb1⟩
  ·have a2' : decide (page - pg < 0) = false := by simpa using a2
   have a3' : decide (n ≤ page - pg) = true := by simp; omega
   go_enter Tryz.func171, Tryz.ntmps171
   go_wp2_with fail
   go_ret
   exact ⟨ret_int hE.out.symm, hb1⟩
 ·have a2' : decide (page - pg < 0) = false := by simp; omega
  have a3' : decide (n ≤ page - pg) = false := by simp; omega
  have a4 : 0 ≤ page - pg ∧ page - pg < n := by omega
  by_cases b1 : page - pg < f
  ·have hE : Hid (R = 1) := Lib.hid (by rw [← hR.out, kindG, if_neg a1, if_pos b1])
   have b1' : decide (page - pg < f) = true := by simpa using b1
   clear a1
   go_enter Tryz.func171, Tryz.ntmps171
   go_wp2_with fail
   go_ret
   exact ⟨ret_int hE.out.symm, hb1⟩
  ·have b1' : decide (page - pg < f) = false := by simpa using b1
   by_cases b2 : n - b ≤ page - pg
   ·have hE : Hid (R = 2) := Lib.hid (by rw [← hR.out, kindG, if_neg a1, if_neg b1, if_pos b2])
    have b2' : decide (n - b ≤ page - pg) = true := by simpa using b2
    clear a1
    go_enter Tryz.func171, Tryz.ntmps171
    go_wp2_with fail
    go_ret
    exact ⟨ret_int hE.out.symm, hb1⟩
   ·have b2' : decide (n - b ≤ page - pg) = false := by simpa using b2
    have hE : Hid (R = if 0 < ev ∧ (page - pg - f + 1) % (ev + 1) = 0 then 3 else 0) := Lib.hid (by rw [← hR.out, kindG, if_neg a1, if_neg b1, if_neg b2])
    by_cases b3 : 0 < ev
    ·have b3' : decide (0 < ev) = true := by simpa using b3
     have hm : Int.tmod (page - pg - f + 1) (ev + 1) = (page - pg - f + 1) % (ev + 1) := Int.tmod_eq_emod_of_nonneg (by omega)
     by_cases b4 : (page - pg - f + 1) % (ev + 1) = 0
     ·have b4' : ((page - pg - f + 1) % (ev + 1) == 0) = true := by simpa using b4
      have hE2 : Hid (R = 3) := Lib.hid (by rw [hE.out, if_pos ⟨b3, b4⟩])
      clear a1 hE b4
      go_enter Tryz.func171, Tryz.ntmps171
      go_wp2_with fail
      go_ret
      exact ⟨ret_int hE2.out.symm, hb1⟩
     ·have b4' : ((page - pg - f + 1) % (ev + 1) == 0) = false := by simpa using b4
      have hE2 : Hid (R = 0) := Lib.hid (by rw [hE.out, if_neg (fun h => b4 h.2)])
      clear a1 hE b4
      go_enter Tryz.func171, Tryz.ntmps171
      go_wp2_with fail
      go_ret
      exact ⟨ret_int hE2.out.symm, hb1⟩
    ·have b3' : decide (0 < ev) = false := by simpa using b3
     have hE2 : Hid (R = 0) := Lib.hid (by rw [hE.out, if_neg (fun h => b3 h.1)])
     clear a1 hE
     go_enter Tryz.func171, Tryz.ntmps171
     go_wp2_with fail
     go_ret
     exact ⟨ret_int hE2.out.symm, hb1⟩
end Go.Proofs.YtjmmgoijnhnnaaaGreat
namespace Go.Pol
open Go
section
variable {pg n f b ev : Int}
theorem kindG_zero (hp : PlanOk pg n f b ev) (q : Int) : kindG pg n f b ev q = 0 ↔ mem q (runsL pg n f b ev) = true := by
 obtain ⟨a1, a2, a3, a4, a5, a6, a7, a8, a9, a10, a11⟩ := hp
 rw [(runsL_ok ⟨a1, a2, a3, a4, a5, a6, a7, a8, a9, a10, a11⟩).2.2 q]
 unfold kindG
 by_cases h1 : q - pg < 0 ∨ n ≤ q - pg
 ·rw [if_pos h1]; constructor
  ·intro h; cases h
  ·rintro ⟨h, _⟩; omega
 rw [if_neg h1]
 by_cases h2 : q - pg < f
 ·rw [if_pos h2]; constructor
  ·intro h; cases h
  ·rintro ⟨h, _⟩; omega
 rw [if_neg h2]
 by_cases h3 : n - b ≤ q - pg
 ·rw [if_pos h3]; constructor
  ·intro h; cases h
  ·rintro ⟨h, _⟩; omega
 rw [if_neg h3, show q - (pg + f) + 1 = q - pg - f + 1 by omega]
 by_cases h0 : ev = 0
 ·subst h0
  rw [if_neg (by omega), if_pos rfl]
  have : (q - pg - f + 1) % (1024 + 1) = q - pg - f + 1 := Int.emod_eq_of_lt (by omega) (by omega)
  rw [this]; omega
 ·rw [if_neg h0]
  by_cases h4 : (q - pg - f + 1) % (ev + 1) = 0
  ·rw [if_pos ⟨by omega, h4⟩]; constructor
   ·intro h; cases h
   ·rintro ⟨_, h⟩; exact absurd h4 h
  ·rw [if_neg (fun h => h4 h.2)]
   exact ⟨fun _ => ⟨by omega, h4⟩, fun _ => rfl⟩
end
end Go.Pol
namespace Go.Pol
open Go Go.RowKit
theorem form_len2 : ∀ (s : List Sp) (e : Int) (m : Int), (∀ x ∈ s, 1 ≤ x.2 ∧ x.1 + x.2 ≤ m) → formOk e s = true → e ≤ m → (s.length : Int) ≤ m - e
 | [], e, m, _, _, h => by simp; omega
 | x :: r, e, m, hw, hf, _ => by
  have hf' := formOk_cons.1 hf
  have hx := hw x (by simp)
  have := form_len2 r (x.1 + x.2) m (fun y hy => hw y (by simp [hy])) hf'.2 hx.2
  simp only [List.length_cons]
  omega
end Go.Pol
namespace Go.Proofs.YtjmmgoijnhnnaaaGreat
open Go Go.Proofs Go.RowKit Go.Pol
def SpansO (w : World) (us : List Sp) (e : Ending) (w' : World) : Prop :=
 ∃ (A : Option Addr) (cap : Nat), e = .returned (.slice A us.length cap) ∧ RU w' w'.heap.size A us ∧ us.length ≤ cap ∧ cap ≤ maxLen ∧ (∀ b o, A = some ⟨b, o, none⟩ → w.heap.size ≤ b) ∧ Below w.heap.size w w'
set_option maxRecDepth 100000 in
set_option maxHeartbeats 1600000 in
theorem refSet_any (cs : Array Value) (f : Nat → Bool) (w : World) (hm : MarksAre cs f) :
  Calls Tryz.prog 156 #[.agg cs] w (SpansO w (setA f)) := by
 obtain ⟨i0, hi, hz0, hz1, hz2⟩ := infoSp_parts
 have hb0 := (Below.refl w.heap.size w).alloc (Nat.le_refl _) (.cells cs 231)
 have kM := Blk.new w 231 cs
 have hcs := Lib.hid hm.at_
 have hcz := hm.size
 have hok := Lib.hid (fun p => setF_ok f p)
 have hA : Hid (setA f = setF f 1024) := Lib.hid rfl
 obtain ⟨SA, hSA⟩ : ∃ S, setA f = S := ⟨_, rfl⟩
 rw [hSA]
 have hSA' := Lib.hid hSA
 clear hSA hm
 go_enter Tryz.func156, Tryz.ntmps156
 go_wp2_with fail
 go_loopw [3, 4] (fun v i wr => ∃ k : Nat, k ≤ 1024 ∧ i = .int .i64 k ∧ wr.ownsRow (w.heap.size + 1) 140 2 v (setF f k).length (spCells (setF f k)) ∧ Blk wr w.heap.size 231 cs ∧ Below w.heap.size w wr) (fun _ i _ => 1024 - (intOf i).toNat)
 case atStart => exact ⟨0, by omega, rfl, World.ownsRow_nil _ _ _ _, kM, hb0⟩
 case round =>
  obtain ⟨k, hk, rfl, hrow, kW, hB⟩ := hrel
  have hBs := hB.size
  have hwl := kW.lt
  by_cases hlt : k < 1024
  ·have hlt' : decide ((k : Int) < 1024) = true := by simp; omega
   have hck : wr.cell? ⟨w.heap.size, k, none⟩ = some (.bool (f k)) := by rw [kW.cell]; exact hcs.out k hlt
   have hstep := Lib.hid (show setF f (k + 1) = _ from rfl)
   have hl512 : (setF f k).length ≤ 1024 := by
    have := (hok.out k)
    have h := form_len2 (setF f k) (-1) k (fun x hx => ⟨(this.wid x hx).2.1, (this.wid x hx).2.2⟩) this.form (by omega)
    omega
   cases hfk : f k with
   | false =>
    rw [hfk] at hck
    have hS : Hid (setF f (k + 1) = setF f k) := Lib.hid (by rw [setF, if_neg (by simp [hfk])])
    go_wp2_with fail
    go_roundw
    case rel => exact ⟨k + 1, by omega, by simp, by rw [hS.out]; exact hrow, kW, hB⟩
    case measure => simp [intOf]; omega
   | true =>
    rw [hfk] at hck
    by_cases hk0 : 0 < k
    case neg =>
     have hk0' : decide (0 < (k : Int)) = false := by simp; omega
     have hk0n : decide (0 < k) = false := by simp; omega
     have hS : Hid (setF f (k + 1) = setF f k ++ [((k : Int), 1)]) := Lib.hid (by rw [setF, if_pos hfk, if_neg (by simp; omega)])
     have kN := Blk.new wr 140 #[.int .i64 (k : Int), .int .i64 1]
     go_wp2_with (refine wpList_append_own _ rfl (.tmp 9) (.tmp 12) 41 rfl (w.heap.size + 1) 140 i0 (.agg #[.int .i64 0, .int .i64 0]) 2 16 Tryz.underlying41 hi hz0 hz1 hz2 rfl (by decide) _ (setF f k).length (spCells (setF f k)) rfl (hrow.alloc _) ⟨wr.heap.size, 0, none⟩ 1 1 [.int .i64 (k : Int), .int .i64 1] rfl rfl (news_two kN) news_one2 (by unfold maxLen; omega) (by omega) (by simp; omega) ?_; intro v' w1 hown' hgrow _; rw [← spCells_snoc (setF f k) ((k : Int), 1), ← hS.out] at hown')
     have hne1 := (hrow.alloc (.cells #[.int .i64 (k : Int), .int .i64 1] 140)).lt
     go_roundw
     case rel => exact ⟨k + 1, by omega, by simp, by rw [show (setF f (k + 1)).length = (setF f k).length + 1 by rw [hS.out]; simp]; exact hown', (kW.alloc _).grown hgrow (fun e => by have := (hrow.lt _ e.symm).1; omega), (hB.alloc hBs _).grown hgrow (by simp; omega) (fun j hj => by have := (hrow.lt j hj).1; omega)⟩
     case measure => simp [intOf]; omega
    case pos =>
     have hk0' : decide (0 < (k : Int)) = true := by simp; omega
     have hk0n : decide (0 < k) = true := by simp; omega
     have hkp : wr.cell? ⟨w.heap.size, k - 1, none⟩ = some (.bool (f (k - 1))) := by rw [kW.cell]; exact hcs.out (k - 1) (by omega)
     cases hfp : f (k - 1) with
     | false =>
      rw [hfp] at hkp
      have hS : Hid (setF f (k + 1) = setF f k ++ [((k : Int), 1)]) := Lib.hid (by rw [setF, if_pos hfk, if_neg (by simp [hfp])])
      have kN := Blk.new wr 140 #[.int .i64 (k : Int), .int .i64 1]
      go_wp2_with (refine wpList_append_own _ rfl (.tmp 9) (.tmp 12) 41 rfl (w.heap.size + 1) 140 i0 (.agg #[.int .i64 0, .int .i64 0]) 2 16 Tryz.underlying41 hi hz0 hz1 hz2 rfl (by decide) _ (setF f k).length (spCells (setF f k)) rfl (hrow.alloc _) ⟨wr.heap.size, 0, none⟩ 1 1 [.int .i64 (k : Int), .int .i64 1] rfl rfl (news_two kN) news_one2 (by unfold maxLen; omega) (by omega) (by simp; omega) ?_; intro v' w1 hown' hgrow _; rw [← spCells_snoc (setF f k) ((k : Int), 1), ← hS.out] at hown')
      have hne1 := (hrow.alloc (.cells #[.int .i64 (k : Int), .int .i64 1] 140)).lt
      go_roundw
      case rel => exact ⟨k + 1, by omega, by simp, by rw [show (setF f (k + 1)).length = (setF f k).length + 1 by rw [hS.out]; simp]; exact hown', (kW.alloc _).grown hgrow (fun e => by have := (hrow.lt _ e.symm).1; omega), (hB.alloc hBs _).grown hgrow (by simp; omega) (fun j hj => by have := (hrow.lt j hj).1; omega)⟩
      case measure => simp [intOf]; omega
     | true =>
      rw [hfp] at hkp
      obtain ⟨r, x, hrx, hxe⟩ := (hok.out k).last hk0 hfp
      have hwx := (hok.out k).wid x (by rw [hrx]; simp)
      have hS : Hid (setF f (k + 1) = r ++ [(x.1, x.2 + 1)]) := Lib.hid (by rw [setF, if_pos hfk, if_pos (by simp [hfp]; omega), hrx, bump_snoc])
      rw [hrx] at hrow hl512
      clear hrx hstep
      obtain ⟨xa, xb⟩ := x
      dsimp only at hwx hxe
      rw [List.length_append, List.length_singleton] at hrow hl512
      obtain ⟨g, cap, rfl⟩ := ownsRow_succ hrow
      have hgb := (hrow.lt g rfl).1
      have hcx : wr.cell? ⟨g, r.length * 2 + 1, none⟩ = some (.int .i64 xb) := by
       rw [hrow.cellAt _ (by omega), spCells_snoc, List.getElem?_append_right (by rw [spCells_len]; omega), spCells_len]
       simp
      have hfx := hrow.frozenAt (r.length * 2 + 1)
      obtain ⟨hst, hgr⟩ := hrow.stored (r.length * 2 + 1) (.int .i64 (xb + 1))
      rw [spCells_set] at hst
      obtain ⟨rl, hrl⟩ : ∃ rl, r.length = rl := ⟨_, rfl⟩
      rw [hrl] at hcx hfx hst hgr hl512 ⊢
      have hrl' := Lib.hid hrl
      clear hrl hrow
      go_wp2_with fail
      go_roundw
      case rel => exact ⟨k + 1, by omega, by simp, by rw [hS.out]; simpa [hrl'.out] using hst, kW.grown hgr (fun e => by cases e; omega), hB.grown hgr hBs (fun j hj => by cases hj; omega)⟩
      case measure => simp [intOf]; omega
  ·obtain rfl : k = 1024 := by omega
   obtain ⟨A, cap, rfl, hru, h1, h2, h3, _⟩ := own_RU hrow rfl
   have hE : Hid (SA = setF f 1024) := Lib.hid (by rw [← hSA'.out]; rfl)
   go_wp2_with fail
   go_ret
   rw [hE.out]
   exact ⟨A, cap, rfl, hru, h1, h2, fun b o e => by have := h3 b o e; omega, hB⟩
end Go.Proofs.YtjmmgoijnhnnaaaGreat
namespace Go.Pol
open Go Go.RowKit
theorem pagesX_succ (x : Sp) (j : Nat) : pagesX x (j + 1) = pagesX x j ++ [x.1 + (j : Int)] := by simp [pagesX, List.range_succ]
theorem pagesOf_nil : pagesOf [] = [] := rfl
theorem pagesOf_append (l r : List Sp) : pagesOf (l ++ r) = pagesOf l ++ pagesOf r := by simp [pagesOf]
theorem ints_one {a : Int} : ∀ u ∈ [Value.int .i64 a], u.oneCell' = true := by
 intro u hu; simp only [List.mem_cons, List.not_mem_nil, or_false] at hu; subst hu; rfl
theorem news_i {w : World} {g : Nat} {t : TypeId} {a : Int} (h : Blk w g t #[.int .i64 a]) : ∀ (j : Nat) (u : Value), [Value.int .i64 a][j]? = some u → w.cell? ((⟨g, 0, none⟩ : Addr).add j) = some u := by
 intro j u hu
 rw [addr_add0, Nat.zero_add, h.cell]
 simpa using hu
theorem own_RIx {w : World} {base : Nat} {e : TypeId} {v : Value} {n : Nat} {xs : List Int} (h : w.ownsRow base e 1 v n (xs.map (Value.int .i64))) (hn : xs.length = n) : ∃ (A : Option Addr) (cap : Nat), v = .slice A n cap ∧ RI w w.heap.size A xs := by
 have hv := h
 rcases h.2 with ⟨rfl, h0⟩ | ⟨g, cap, cur, rfl, hg, hk, _⟩
 ·subst h0
  obtain rfl : xs = [] := List.eq_nil_of_length_eq_zero hn
  exact ⟨none, 0, rfl, RI.nil⟩
 ·refine ⟨_, cap, rfl, fun k hk' => ?_⟩
  have hk2 : k < xs.length := by simpa using hk'
  have hc := hv.cellAt k (by omega)
  refine ⟨g, 0, rfl, Blk.lt hk, ?_⟩
  rw [Nat.zero_add, hc]
  exact List.getElem?_eq_getElem hk'
end Go.Pol
namespace Go.Proofs.YtjmmgoijnhnnaaaGreat
open Go Go.Proofs Go.RowKit Go.Pol
theorem infoIn : (Tryz.prog.info? 3).map (fun i => (i.zero, i.size, i.bytes)) = some (some (.int .i64 0), 1, 8) := by kernel_rfl
set_option maxRecDepth 100000 in
set_option maxHeartbeats 1600000 in
theorem refPages_any (A : Option Addr) (n cap : Nat) (us : List Sp) (w : World) (hn : us.length = n) (hm : n ≤ maxLen) (hr : RU w w.heap.size A us) (hu : Go.Pol.Can us) (L : List Int) (hL : pagesOf us = L) :
  Calls Tryz.prog 111 #[.slice A n cap] w fun e w' => ∃ (A' : Option Addr) (cap' : Nat), e = .returned (.slice A' L.length cap') ∧ RI w' w'.heap.size A' L ∧ Below w.heap.size w w' := by
 obtain ⟨i0, hi, hz0, hz1, hz2⟩ := info_parts infoIn
 have hc := refSpCheck_any A n cap us w hn hm hr
 rw [chkS_zero.2 hu] at hc
 have HC := Lib.hid hc
 clear hc
 have hlen := hu.len
 have hvl := Lib.hid hu.1
 have hn' := Lib.hid hn
 have hL' := Lib.hid hL
 clear hL
 have hn512 : n ≤ 512 := by omega
 clear hn hu
 go_enter Tryz.func111, Tryz.ntmps111
 go_wp2_with (go_at_call 100; refine (HC.out).mono ?_; rintro e w1 ⟨rfl, hq⟩)
 go_loopw [3, 4] (fun v i wr => ∃ (k : Nat) (xs : List Int), k ≤ n ∧ i = .int .i64 k ∧ Hid (xs = pagesOf (us.take k)) ∧ xs.length ≤ 1024 * k ∧ wr.ownsRow w.heap.size 3 1 v xs.length (xs.map (Value.int .i64)) ∧ Below w.heap.size w wr) (fun _ i _ => n - (intOf i).toNat)
 case atStart => exact ⟨0, [], by omega, rfl, Lib.hid (by simp [pagesOf]), by simp, World.ownsRow_nil _ _ _ _, hq⟩
 case round =>
  obtain ⟨k, xs, hk, rfl, hX, hxl, hrow, hB⟩ := hrel
  have hBs := hB.size
  by_cases hlt : k < n
  ·have hlt' : decide ((k : Int) < (n : Int)) = true := by simp; omega
   obtain ⟨b, o, rfl, hbl, hcw, hdw⟩ := RU.at_' hr (k := k) (by have := hn'.out; omega)
   have hvx := vld_iff.1 (hvl.out (us.getD k (0,0)) (by rw [List.getD_eq_getElem?_getD, List.getElem?_eq_getElem (by have := hn'.out; omega)]; simp))
   have htk := Lib.hid (take_snoc us k (by have := hn'.out; omega))
   generalize us.getD k (0,0) = x at *
   obtain ⟨xa, xb⟩ := x
   dsimp only at hcw hdw hvx
   have hc := (hB.cell (p := ⟨b, o + k * 2, none⟩) hbl).trans hcw
   have hd := (hB.cell (p := ⟨b, o + k * 2 + 1, none⟩) hbl).trans hdw
   go_wp2_with fail
   go_loopw [3, 5] (fun v p wr => ∃ (j : Nat) (ys : List Int), (j : Int) ≤ xb ∧ p = .int .i64 (xa + j) ∧ Hid (ys = xs ++ pagesX (xa, xb) j) ∧ ys.length ≤ 1024 * k + j ∧ wr.ownsRow w.heap.size 3 1 v ys.length (ys.map (Value.int .i64)) ∧ Below w.heap.size w wr) (fun _ p _ => (xa + xb - intOf p).toNat)
   case atStart => exact ⟨0, xs, by omega, by simp, Lib.hid (by simp [pagesX]), by omega, hrow, hB⟩
   case round =>
    obtain ⟨j, ys, hj, rfl, hY, hyl, hrow, hB⟩ := hrel
    have hBs := hB.size
    have hc := (hB.cell (p := ⟨b, o + k * 2, none⟩) hbl).trans hcw
    have hd := (hB.cell (p := ⟨b, o + k * 2 + 1, none⟩) hbl).trans hdw
    have e1 := fun z : Ext wr => z.cell hc
    have e2 := fun z : Ext wr => z.cell hd
    by_cases hjx : (j : Int) < xb
    ·have hj' : decide (xa + (j : Int) < xa + xb) = true := by simp; omega
     have hY2 : Hid (ys ++ [xa + (j : Int)] = xs ++ pagesX (xa, xb) (j + 1)) := Lib.hid (by rw [hY.out, pagesX_succ, List.append_assoc])
     go_upto_region 8 with fail
     refine region_ext (by kernel_rfl) (by kernel_rfl) ?_
     repeat (go_big_quiet_step (fail))
     refine wpQuiet_nil ?_
     rintro w2 ⟨⟨_, hw2⟩, rfl⟩
     have hrow2 := ownsRow_call hrow hw2
     have hB2 := hB.trans (hw2.mono hBs)
     have hBs2 := hB2.size
     have kN := Blk.new w2 3 #[.int .i64 (xa + (j : Int))]
     go_wp2_with (refine wpList_append_own _ rfl (.tmp 35) (.tmp 37) 84 rfl w.heap.size 3 i0 (.int .i64 0) 1 8 Tryz.underlying84 hi hz0 hz1 hz2 rfl (by decide) _ ys.length (ys.map (Value.int .i64)) rfl (hrow2.alloc _) ⟨w2.heap.size, 0, none⟩ 1 1 [.int .i64 (xa + (j : Int))] rfl rfl (news_i kN) ints_one (by unfold maxLen; omega) (by omega) (by simp; omega) ?_; intro v' w3 hown' hgrow _)
     go_roundw
     case rel => exact ⟨j + 1, ys ++ [xa + (j : Int)], by omega, by go_num, hY2, by simp; omega, by simpa using hown', (hB2.alloc hBs2 _).grown hgrow (by simp; omega) (fun i hi => (hrow2.lt i hi).1)⟩
     case measure => simp [intOf]; omega
    ·have hj' : decide (xa + (j : Int) < xa + xb) = false := by simp; omega
     have hjx2 : xb.toNat = j := by omega
     have hX2 : Hid (ys = pagesOf (us.take (k + 1))) := Lib.hid (by rw [hY.out, hX.out, htk.out, pagesOf_append, pagesOf_cons, pagesOf_nil, List.append_nil]; rw [← hjx2])
     go_upto_region 8 with fail
     refine region_ext (by kernel_rfl) (by kernel_rfl) ?_
     repeat (go_big_quiet_step (fail))
     refine wpQuiet_nil ?_
     rintro w2 ⟨⟨_, hw2⟩, rfl⟩
     have hrow2 := ownsRow_call hrow hw2
     have hB2 := hB.trans (hw2.mono hBs)
     go_wp2_with fail
     go_roundw
     case rel => exact ⟨k + 1, ys, by omega, by simp, hX2, by omega, hrow2, hB2⟩
     case measure => simp [intOf]; omega
  ·have hlt' : decide ((k : Int) < (n : Int)) = false := by simp; omega
   have hE : Hid (xs = L) := Lib.hid (by rw [hX.out, List.take_of_length_le (by have := hn'.out; omega)]; exact hL'.out)
   rw [hE.out] at hrow
   obtain ⟨A', cap', rfl, hri⟩ := own_RIx hrow rfl
   clear hX hxl hE
   go_wp2_with fail
   go_ret
   exact ⟨A', cap', rfl, hri, hB⟩
end Go.Proofs.YtjmmgoijnhnnaaaGreat
namespace Go.Pol
open Go Go.RowKit
theorem rangeAt_blk {w : World} {g : Nat} {t : TypeId} {cs : Array Value} (h : Blk w g t cs) : w.rangeAt g 0 cs.toList := fun j v hj => by
 rw [Nat.zero_add, h.cell]; simpa using hj
def setM (pg n f b ev : Int) (us : Bool) (j : Nat) (q : Nat) : Bool := decide (pg ≤ (q : Int) ∧ (q : Int) < pg + j) && ((kindG pg n f b ev q == 0) == us)
end Go.Pol
namespace Go.Proofs.YtjmmgoijnhnnaaaGreat
open Go Go.Proofs Go.RowKit Go.Pol
theorem zeros_are : MarksAre Tryz.zeroCells231 (fun _ => false) := by
 have e : Tryz.zeroCells231 = Array.replicate 1024 (.bool false) := by kernel_rfl
 rw [e]
 exact ⟨by simp, fun k hk => by simp [hk]⟩
set_option maxRecDepth 100000 in
set_option maxHeartbeats 1600000 in
theorem refset_any (pg n f b ev : Int) (us : Bool) (w : World) (hp : PlanOk pg n f b ev) (S : List Sp) (hS : setA (setM pg n f b ev us n.toNat) = S) :
  Calls Tryz.prog 112 #[planV pg n f b ev, .bool us] w (SpansO w S) := by
 have HK := Lib.hid (fun q W h0 h1 => kind_any pg n f b ev q W hp h0 h1)
 have HSet := Lib.hid (fun cs f W h => refSet_any cs f W h)
 obtain ⟨p1, p2, p3, p4, p5, p6, p7, p8, p9, p10, p11⟩ := hp
 obtain ⟨s, hs⟩ : ∃ s, w.heap.size = s := ⟨_, rfl⟩
 obtain ⟨W0, hW0⟩ : ∃ W0, (w.alloc (.cells (planC pg n f b ev) 25)).alloc (.cells Tryz.zeroCells231 231) = W0 := ⟨_, rfl⟩
 have hb0 : Below s w W0 := by rw [← hW0, ← hs]; exact ((Below.refl w.heap.size w).alloc (Nat.le_refl _) _).alloc (by simp) _
 have kP : Blk W0 s 25 (planC pg n f b ev) := by rw [← hW0, ← hs]; exact (Blk.new _ _ _).alloc _
 have kM : Blk W0 (s + 1) 231 Tryz.zeroCells231 := by
  have := Blk.new (w.alloc (.cells (planC pg n f b ev) 25)) 231 Tryz.zeroCells231
  rw [World.size_alloc, hs, hW0] at this; exact this
 have hZ := zeros_are
 have hS' := Lib.hid hS
 have hW1 := Lib.hid hW0
 clear hS hW0
 go_enter Tryz.func112, Tryz.ntmps112
 go_upto_region 2 with fail
 try simp only [Nat.add_assoc, Nat.reduceAdd]
 rw [hW1.out]
 have cP0 := kP.cell
 generalize Tryz.zeroCells231 = Z at *
 clear hW1
 go_wp2_with fail
 go_loopw [6] (fun i wr => ∃ (j : Nat) (cs : Array Value), (j : Int) ≤ n ∧ i = .int .i64 (pg + j) ∧ Blk wr s 25 (planC pg n f b ev) ∧ Blk wr (s + 1) 231 cs ∧ MarksAre cs (setM pg n f b ev us j) ∧ Below s w wr) (fun i _ => (pg + n - intOf i).toNat)
 case atStart => exact ⟨0, Z, by omega, by simp, kP, kM, ⟨hZ.size, fun k hk => by rw [hZ.at_ k hk]; simp [setM]; omega⟩, hb0⟩
 case round =>
  obtain ⟨j, cs, hj, rfl, kP, kM, hM, hB⟩ := hrel
  have cP := kP.cell
  have hBs := hB.size
  have hwl := kM.lt
  by_cases hlt : (j : Int) < n
  ·have hlt' : decide (pg + (j : Int) < pg + n) = true := by simp; omega
   have hKK := Lib.hid (fun W => HK.out (pg + j) W (by omega) (by omega))
   have hst := Lib.hid (hM.set (g := setM pg n f b ev us (j + 1)) (pg + j).toNat (by omega) ((kindG pg n f b ev (pg + j) == 0) == us) (by
    have e : (((pg + (j : Int)).toNat : Nat) : Int) = pg + j := by omega
    simp only [setM, e]
    rw [decide_eq_true (by omega), Bool.true_and]) (fun k hk => by
    simp only [setM]
    congr 1
    exact decide_eq_decide.2 (by omega)))
   have hold := hM.at_ (pg + j).toNat (by omega)
   generalize setM pg n f b ev us j (pg + (j : Int)).toNat = B0 at hold
   generalize kindG pg n f b ev (pg + j) = K at *
   have hN : (pg + (j : Int) + 1) = pg + ((j + 1 : Nat) : Int) := by omega
   have hN' := Lib.hid hN
   clear hN
   go_wp2_with (go_at_call 171; refine (hKK.out _).mono ?_; rintro e w1 ⟨rfl, hq⟩; have kP1 := kP.call hq; have kM1 := kM.call hq; have fM1 := kM1.frozen; have cM1 : w1.cell? ⟨s + 1, (pg + (j : Int)).toNat, none⟩ = some (.bool B0) := (kM1.cell _).trans hold)
   have hf4 : Far (fun k => k = s + 1) w1 (w1.setCell ⟨s + 1, (pg + (j : Int)).toNat, none⟩ (.bool ((K == 0) == us))) := Far.setCell (T := fun k => k = s + 1) (p := ⟨s + 1, (pg + (j : Int)).toNat, none⟩) (Far.refl _ _) (fun _ => rfl) _
   have hB1 := hB.trans (hq.mono (by omega))
   go_roundw
   case rel => exact ⟨j + 1, _, by omega, by rw [hN'.out], hf4.blk kP1 (by omega), kM1.set_ _ _, hst.out, hB1.trans (hf4.below (by have := hB1.size; omega) (fun k hk => by omega))⟩
   case measure => simp [intOf]; omega
  ·have hlt' : decide (pg + (j : Int) < pg + n) = false := by simp; omega
   have hjn : n.toNat = j := by omega
   rw [hjn] at hS'
   have HS2 := Lib.hid (fun W => HSet.out cs _ W hM)
   rw [hS'.out] at HS2
   have hsz := hM.size
   go_wp2_with (first
    | (refine wpList_load_mid rfl 231 (.tmp 5) rfl (s + 1) 0 rfl cs.toList _ (rangeAt_blk kM) Tryz.underlying231 rfl (by rw [Array.length_toList, hsz]; kernel_rfl) ?_; rw [Array.toArray_toList])
    | (go_at_call 156; refine (HS2.out _).mono ?_; rintro e w2 ⟨A, cap, rfl, hru, h1, h2, h3, hq2⟩))
   go_ret
   exact ⟨A, cap, rfl, hru, h1, h2, fun b o e => by have := h3 b o e; omega, by rw [hs]; exact hB.trans (hq2.mono (by omega))⟩
end Go.Proofs.YtjmmgoijnhnnaaaGreat
namespace Go.Pol
open Go
section
variable {pg n f b ev : Int}
theorem setM_true (hp : PlanOk pg n f b ev) : setA (setM pg n f b ev true n.toNat) = runsL pg n f b ev := by
 refine ((runsL_can hp).eq_setA _ fun p hp2 => ?_).symm
 have h := kindG_zero hp (p : Int)
 have hr := (runsL_ok hp).2.2 (p : Int)
 have a1 := hp.f0; have a2 := hp.b0; have a3 := hp.n0
 rw [Bool.eq_iff_iff]
 simp only [setM, Bool.and_eq_true, decide_eq_true_eq, beq_iff_eq]
 rw [← h]
 constructor
 ·rintro ⟨_, h2⟩; simpa using h2
 ·intro h2
  have := hr.1 (h.1 h2)
  refine ⟨by omega, by simpa using h2⟩
end
end Go.Pol
namespace Go.Proofs.YtjmmgoijnhnnaaaGreat
open Go Go.Proofs Go.RowKit Go.Pol
section
variable {pg n f b ev : Int}
theorem has_one {s : List Sp} (hs : Go.Pol.Can s) {p : Int} (hv : vld (p, 1) = true) : (gapsF s (p, 1)).isEmpty = mem p s := by
 obtain ⟨hg, hm⟩ := hs.gaps hv
 cases hp : mem p s with
 | true =>
  have h0 : gapsF s (p, 1) = [] := hg.eq ⟨by simp, rfl⟩ fun q => by
   rw [mem_nil]
   cases hq : mem q (gapsF s (p, 1)) with
   | false => rfl
   | true =>
    have h := (hm q).1 hq
    simp only at h
    have e : q = p := by omega
    rw [e, hp] at h; cases h.2
  rw [h0]; rfl
 | false =>
  have h1 : mem p (gapsF s (p, 1)) = true := (hm p).2 ⟨by simp only; omega, hp⟩
  cases hG : gapsF s (p, 1) with
  | nil => rw [hG, mem_nil] at h1; cases h1
  | cons => rfl
end
end Go.Proofs.YtjmmgoijnhnnaaaGreat
namespace Go.Pol
open Go Go.RowKit
def xPost {α : Type} (D : Nat) (K X : Nat → Prop) (I : (Nat → Prop) → List α → World → Prop) (Ix : Code → (Nat → Prop) → List α → World → Prop) (xs : List α) (W : World) : Exit → Act → World → Prop
 | .normal, _, W' => Far (fun k => ¬ (K k ∨ X k ∨ k = D ∨ k = D + 1)) W W' ∧ I X xs W'
 | .ret, _, W' => Far (fun k => ¬ (k = D ∨ k = D + 1)) W W' ∧ Ix .ret X xs W'
 | .exit id, _, W' => Far (fun k => ¬ (k = D ∨ k = D + 1)) W W' ∧ Ix (.exit id) X xs W'
 | .goto t, _, W' => Far (fun k => ¬ (k = D ∨ k = D + 1)) W W' ∧ Ix (.goto t) X xs W'
 | .panic _, _, _ => False
 | .outgrown, _, _ => False
theorem rangeX {α : Type} {P : Program} {g : Operand} {ps : Array Tmp} {assign body : Code} {Q : Exit → Act → World → Prop} {a : Act} {w : World}
  {gf : Nat} {lb : Array Value} (hg : a.eval g = .func (.func gf) #[] lb) (eg : ∀ args w, (callFunc gf args).run P w = .ok (.enter gf args) w)
  {encs : α → Array Value} {T K : Nat → Prop} {xs : List α} (hseq : SeqX P gf lb encs T K xs w) (hps : ∀ x, (encs x).size = ps.size)
  (hT : ∀ k, T k → k < w.heap.size) (hK : ∀ k, K k → k < w.heap.size)
  (I : (Nat → Prop) → List α → World → Prop) (Ix : Code → (Nat → Prop) → List α → World → Prop)
  (hI : ∀ X pre A B, I X pre A → Far (fun k => T k ∨ X k ∨ k = w.heap.size ∨ k = w.heap.size + 1) A B → I X pre B)
  (hIx : ∀ c X pre A B, Ix c X pre A → Far (fun k => T k ∨ X k ∨ k = w.heap.size ∨ k = w.heap.size + 1) A B → Ix c X pre B)
  (hnew : ∀ X X' pre A, I X pre A → (∀ k, X' k → X k ∨ A.heap.size ≤ k) → I X' pre A)
  (h0 : I (fun _ => False) [] w) (Ax : Nat → α → Act → World → Prop) (hAx : ∀ N x a' A B, Ax N x a' A → Far (fun k => k = w.heap.size + 1) A B → Ax N x a' B)
  (hassign : ∀ (m l : Nat) (x : α) (W : World) (C : Act → World → Prop), w.heap.size + 2 ≤ W.heap.size → (∀ a' W', Far (fun _ => False) W W' → Ax W.heap.size x a' W' → C a' W') →
   assign.wpIn (Fence.wide.inRound l) m P (Exit.then C (fun _ _ _ => False)) { tmps := (ps.zip (encs x)).foldl (fun t (p, v) => t.setIfInBounds p v) a.tmps, defers := [] } W)
  (hbody : ∀ (m l : Nat) (X : Nat → Prop) (pre : List α) (x : α) (a' : Act) (Wa W : World), w.heap.size + 2 ≤ W.heap.size → (∀ k, X k → k < Wa.heap.size ∧ k ≠ w.heap.size ∧ k ≠ w.heap.size + 1) → I X pre W → Ax Wa.heap.size x a' W → pre ++ [x] <+: xs → I X pre Wa → Far (fun k => k = w.heap.size + 1) Wa W →
   body.wpIn (Fence.wide.inRound l) m P (xPost w.heap.size K X I Ix (pre ++ [x]) W) a' W)
  (hdone : ∀ (X : Nat → Prop) (W : World), w.heap.size + 2 ≤ W.heap.size → I X xs W → W.heap[w.heap.size]? = some (.deferred (some [])) → Q .normal { a with defers := markOf w.heap.size :: a.defers } W)
  (hstop : ∀ (c : Code) (X : Nat → Prop) (pre : List α) (W : World), w.heap.size + 2 ≤ W.heap.size → pre <+: xs → Ix c X pre W → W.heap[w.heap.size]? = some (.deferred (some [])) → c.wp P Q { a with defers := markOf w.heap.size :: a.defers } W) :
  (Code.rangeFunc g ps assign body).wp P Q a w := by
 refine (wpIn_wide (n := 0)).1 (wpIn_rangeFunc fun fn _ => ?_)
 obtain ⟨D, hD⟩ : ∃ D, w.heap.size = D := ⟨_, rfl⟩
 -- the loop's record, in its three states
 obtain ⟨rec, hrec⟩ : ∃ rec : LoopState → Option Code → Loop, rec = fun s p => { state := s, pending := p, fn, tmps := a.tmps, params := ps, assign, body, defers := D } := ⟨_, rfl⟩
 obtain ⟨W1, hW1⟩ : ∃ W1, (w.alloc (.deferred (some []))).alloc (.loop (rec .ready none)) = W1 := ⟨_, rfl⟩
 have hent : (Instr.enterLoop fn a.tmps ps assign body none).run P w = .ok (D + 1, [markOf D]) W1 := by
  rw [← hW1, hrec, ← hD]; exact run_enterLoop_outer _ _ _ _ _
 have hfar : Far (fun _ => False) w W1 := by rw [← hW1]; exact ((Far.refl _ w).alloc _).alloc _
 have hl1 : W1.heap[D + 1]? = some (.loop (rec .ready none)) := by
  rw [← hW1, ← hD]
  have := World.alloc_heap_new (w.alloc (.deferred (some []))) (.loop (rec .ready none))
  rwa [World.size_alloc] at this
 have hd1 : W1.heap[D]? = some (.deferred (some [])) := by
  rw [← hW1, ← hD]; exact (Below.heap_alloc _ _ _ (by simp)).trans (World.alloc_heap_new w _)
 rw [hD] at hT hK hI hIx hAx hassign hbody hdone hstop
 refine ⟨D + 1, [markOf D], W1, { target := .fn (.func gf) lb, args := #[.func (.yield (D + 1)) #[] #[]] }, W1, gf, #[.func (.yield (D + 1)) #[] #[]] ++ lb, W1, hent, ?_, fun _ _ => trivial, ?_, fun h => (by cases h), ?_⟩
 ·simp only [resolve, hg]
  simp [go_sem]
 ·simp [invoke, go_sem, eg]
 -- what the iterator carries: the loop's invariant, the record, the block for deferred calls
 let J : (Nat → Prop) → List α → World → Prop := fun X pre W => I X pre W ∧ W.heap[D + 1]? = some (.loop (rec .ready none)) ∧ W.heap[D]? = some (.deferred (some [])) ∧ ¬ X D ∧ ¬ X (D + 1)
 let Jx : (Nat → Prop) → List α → World → Prop := fun X pre W => ∃ c, Ix c X pre W ∧ W.heap[D + 1]? = some (.loop (rec .done (some c))) ∧ W.heap[D]? = some (.deferred (some [])) ∧ ¬ X D ∧ ¬ X (D + 1)
 have hnT : ∀ k, T k → k ≠ D ∧ k ≠ D + 1 := fun k hk => by have := hT k hk; omega
 have hnK : ∀ k, K k → k ≠ D ∧ k ≠ D + 1 := fun k hk => by have := hK k hk; omega
 have up : ∀ {X : Nat → Prop} {k : Nat}, T k ∨ X k → T k ∨ X k ∨ k = D ∨ k = D + 1 := fun h => h.elim .inl (fun h => .inr (.inl h))
 refine (hseq _ (D + 1) J Jx W1 (hfar.mono (fun _ _ h => h.elim))
  (fun X pre A B h hf => ⟨hI X pre A B h.1 (hf.mono fun _ _ ht => up ht), hf.same h.2.1 (fun h' => h'.elim (fun h => (hnT _ h).2 rfl) h.2.2.2.2), hf.same h.2.2.1 (fun h' => h'.elim (fun h => (hnT _ h).1 rfl) h.2.2.2.1), h.2.2.2⟩)
  (fun X pre A B h hf => by
   obtain ⟨c, h1, h2, h3, h4, h5⟩ := h
   exact ⟨c, hIx c X pre A B h1 (hf.mono fun _ _ ht => up ht), hf.same h2 (fun h' => h'.elim (fun h => (hnT _ h).2 rfl) h5), hf.same h3 (fun h' => h'.elim (fun h => (hnT _ h).1 rfl) h4), h4, h5⟩)
  (fun X X' pre A h hX => by
   have l1 : D < A.heap.size := (Array.getElem?_eq_some_iff.1 h.2.2.1).1
   have l2 : D + 1 < A.heap.size := (Array.getElem?_eq_some_iff.1 h.2.1).1
   exact ⟨hnew X X' pre A h.1 hX, h.2.1, h.2.2.1, fun hd => (hX _ hd).elim h.2.2.2.1 (fun h => by omega), fun hd => (hX _ hd).elim h.2.2.2.2 (fun h => by omega)⟩)
  ?_ ⟨hI _ [] w W1 h0 (hfar.mono fun _ _ h => h.elim), hl1, hd1, id, id⟩).mono ?_
 ·-- a round
  rintro m X pre x Wa ⟨hi, hl, hd, hXD, hXE⟩ hXlt hpre
  have hlt : D + 1 < Wa.heap.size := (Array.getElem?_eq_some_iff.1 hl).1
  have hy := run_yield (P := P) (args := encs x) hl (by rw [hrec]; exact hps x)
  rw [hrec] at hy
  refine ⟨fn, _, assign, body, hy, roundIn_of_wpIn trivial (hassign m (D + 1) x Wa _ (by omega) fun a' Wb hab hax => ?_)⟩
  have hlb := hab.same hl id
  have hdb := hab.same hd id
  have hib := hI X pre Wa Wb hi (hab.mono fun _ _ h => h.elim)
  have hltb : D + 1 < Wb.heap.size := (Array.getElem?_eq_some_iff.1 hlb).1
  refine ⟨_, run_beginRound hlb (by rw [hrec]), ?_⟩
  obtain ⟨Wc, hWc⟩ : ∃ Wc, Wb.putObj (D + 1) (.loop { rec .ready none with state := .busy }) = Wc := ⟨_, rfl⟩
  rw [hWc]
  have hbc : Far (fun k => k = D + 1) Wb Wc := by rw [← hWc]; exact Far.putObj (T := fun k => k = D + 1) (Far.refl _ Wb) (fun _ => rfl) _
  have hlc : Wc.heap[D + 1]? = some (.loop { rec .ready none with state := .busy }) := by rw [← hWc]; exact World.putObj_heap_same hltb
  have hdc : Wc.heap[D]? = some (.deferred (some [])) := hbc.same hdb (by omega)
  have hltc : D + 1 < Wc.heap.size := (Array.getElem?_eq_some_iff.1 hlc).1
  refine wpIn_mono (hbody m (D + 1) X pre x a' Wa Wc (by omega) (fun k hk => ⟨hXlt k hk, fun h => hXD (h ▸ hk), fun h => hXE (h ▸ hk)⟩) (hI X pre Wb Wc hib (hbc.mono fun _ _ h => .inr (.inr (.inr h)))) (hAx _ x a' Wb Wc hax hbc) hpre hi ((hab.mono fun _ _ h => h.elim : Far (fun k => k = D + 1) Wa Wb).trans hbc)) ?_
  -- what 'endRound' makes of it
  have fin : ∀ (j : Option Code) (Wd : World), Far (fun k => ¬ (k = D ∨ k = D + 1)) Wc Wd →
    (Instr.endRound (D + 1) j).run P Wd = .ok (.bool j.isNone) (Wd.putObj (D + 1) (.loop (rec (if j.isNone then .ready else .done) j))) ∧
    (Wd.putObj (D + 1) (.loop (rec (if j.isNone then .ready else .done) j))).heap[D + 1]? = some (.loop (rec (if j.isNone then .ready else .done) j)) ∧
    (Wd.putObj (D + 1) (.loop (rec (if j.isNone then .ready else .done) j))).heap[D]? = some (.deferred (some [])) := fun j Wd hcd => by
   have hld := hcd.same hlc (fun h => h (.inr rfl))
   have he := run_endRound (P := P) j hld
   rw [hrec] at he ⊢
   exact ⟨he, World.putObj_heap_same (Array.getElem?_eq_some_iff.1 hld).1, (World.putObj_heap_other (by omega)).trans (hcd.same hdc (fun h => h (.inl rfl)))⟩
  have back : ∀ (Y : Nat → Prop) (o : Obj) (Wd : World), Far (fun k => T k ∨ Y k ∨ k = D ∨ k = D + 1) Wd (Wd.putObj (D + 1) o) := fun Y o Wd => (Far.refl _ Wd).putObj (fun _ => .inr (.inr (.inr rfl))) o
  intro e a3 Wd hp
  cases e with
  | normal =>
   obtain ⟨hcd, hid⟩ := hp
   obtain ⟨h1, h2, h3⟩ := fin none Wd (hcd.mono fun k _ h h' => h (.inr (.inr h')))
   refine ⟨_, _, h1, .inl ⟨rfl, ⟨hI _ _ _ _ hid (back _ _ Wd), h2, h3, hXD, hXE⟩, ?_⟩⟩
   refine (((hab.mono fun _ _ h => h.elim : Far (fun k => ¬ (K k ∨ X k)) Wa Wb).trans (hbc.mono fun k _ h hk => hk.elim (fun hk => (hnK k hk).2 h) (fun hk => hXE (h ▸ hk)))).trans (hcd.mono fun k _ h hk => h (hk.elim .inl (fun h => .inr (.inl h))))).putObj (fun _ hk => hk.elim (fun hk => (hnK _ hk).2 rfl) hXE) _
  | ret =>
   obtain ⟨hcd, hid⟩ := hp
   obtain ⟨h1, h2, h3⟩ := fin (some .ret) Wd hcd
   exact ⟨_, _, h1, .inr ⟨rfl, .ret, hIx _ _ _ _ _ hid (back _ _ Wd), h2, h3, hXD, hXE⟩⟩
  | exit id =>
   obtain ⟨hcd, hid⟩ := hp
   obtain ⟨h1, h2, h3⟩ := fin (some (.exit id)) Wd hcd
   exact ⟨_, _, h1, .inr ⟨rfl, .exit id, hIx _ _ _ _ _ hid (back _ _ Wd), h2, h3, hXD, hXE⟩⟩
  | goto t =>
   obtain ⟨hcd, hid⟩ := hp
   obtain ⟨h1, h2, h3⟩ := fin (some (.goto t)) Wd hcd
   exact ⟨_, _, h1, .inr ⟨rfl, .goto t, hIx _ _ _ _ _ hid (back _ _ Wd), h2, h3, hXD, hXE⟩⟩
  | panic ch => exact hp.elim
  | outgrown => exact hp.elim
 ·-- behind the iterator
  have back : ∀ (Y : Nat → Prop) (o : Obj) (Wd : World), Far (fun k => T k ∨ Y k ∨ k = D ∨ k = D + 1) Wd (Wd.putObj (D + 1) o) := fun Y o Wd => (Far.refl _ Wd).putObj (fun _ => .inr (.inr (.inr rfl))) o
  rintro e W2 ⟨⟨v, rfl⟩, h2⟩
  rcases h2 with ⟨X, hi, hl, hd, _⟩ | ⟨X, pre, hpre, c, hi, hl, hd, _⟩
  ·have he := run_endLoop (P := P) hl (by rw [hrec]; simp)
   rw [hrec] at he
   have hlt : D + 1 < W2.heap.size := (Array.getElem?_eq_some_iff.1 hl).1
   exact ⟨none, _, he, hdone _ _ (by rw [World.putObj_size]; omega) (hI _ _ _ _ hi (back _ _ W2)) ((World.putObj_heap_other (by omega)).trans hd)⟩
  ·have he := run_endLoop (P := P) hl (by rw [hrec]; simp)
   rw [hrec] at he
   have hlt : D + 1 < W2.heap.size := (Array.getElem?_eq_some_iff.1 hl).1
   exact ⟨some c, _, he, (wpIn_wide (n := 0)).2 (hstop c _ pre _ (by rw [World.putObj_size]; omega) hpre (hIx _ _ _ _ _ hi (back _ _ W2)) ((World.putObj_heap_other (by omega)).trans hd))⟩
theorem SysC.byte {cs : Array Value} {v : Value} {V : Vm} (h : SysC cs v V) {p k : Nat} (hp : p < 1024) (hk : k < 64) : cs[1 + p * 66 + (k + 2)]? = some (.int .u8 ((V.pg p).byt k)) := by
 refine (h.page p hp (k + 2) (by omega)).trans ?_
 unfold pgC
 rw [List.getElem?_cons_succ, List.getElem?_cons_succ, List.getElem?_map, List.getElem?_range hk]; rfl
theorem newRf_ok {l : List Ru} (h : (chkR l).2 = 0) : RfOk (newRf l) := ⟨h, fun k _ => ⟨Int.le_refl _, (by show (0 : Int) ≤ 1000000; decide)⟩, fun k _ => rfl⟩
def whF (V : Vm) (a : Int) : Int := if a < 0 ∨ 65536 ≤ a then 7 else if (V.pg (a / 64).toNat).kind ≠ 2 then 61 else 0
def Pg.byteP (g : Pg) (k : Nat) (v : Int) : Pg := { g with byt := fun j => if j = k then v else g.byt j }
def writeF (V : Vm) (a : Int) (v : Int) : Vm := if whF V a = 0 then V.setP (a / 64).toNat ((V.pg (a / 64).toNat).byteP (a % 64).toNat v) else V
theorem SysC.setByte {cs : Array Value} {v : Value} {V : Vm} (h : SysC cs v V) {p k : Nat} (hp : p < 1024) (hk : k < 64) (x : Int) : SysC (cs.setIfInBounds (1 + p * 66 + 2 + k) (.int .u8 x)) v (V.setP p ((V.pg p).byteP k x)) := by
 have hs := h.size
 have hg : ∀ i, (cs.setIfInBounds (1 + p * 66 + 2 + k) (.int .u8 x))[i]? = if 1 + p * 66 + 2 + k = i then some (.int .u8 x) else cs[i]? := fun i => by
  rw [Array.getElem?_setIfInBounds]
  by_cases e : 1 + p * 66 + 2 + k = i
  ·rw [if_pos e, if_pos e, if_pos (by omega)]
  ·rw [if_neg e, if_neg e]
 refine ⟨by simp [hs], ?_, fun q hq i hi => ?_, fun i hi => ?_⟩
 ·rw [hg, if_neg (by omega)]; exact h.made
 ·rw [hg]
  by_cases e : q = p
  ·subst e
   have hpg : (V.setP q ((V.pg q).byteP k x)).pg q = (V.pg q).byteP k x := by simp [Vm.setP]
   rw [hpg]
   match i with
   | 0 => rw [if_neg (by omega), h.page q hq 0 hi]; rfl
   | 1 => rw [if_neg (by omega), h.page q hq 1 hi]; rfl
   | j + 2 =>
    have hj : j < 64 := by omega
    have e2 : ∀ g : Pg, (pgC g)[j + 2]? = some (.int .u8 (g.byt j)) := fun g => by
     unfold pgC
     simp [hj]
    rw [e2]
    by_cases e1 : j = k
    ·subst e1
     rw [if_pos (by omega)]
     simp [Pg.byteP]
    ·rw [if_neg (by omega), h.page q hq (j + 2) hi, e2]
     simp [Pg.byteP, e1]
  ·rw [if_neg (by omega), h.page q hq i hi]
   simp [Vm.setP, e]
 ·rw [hg, if_neg (by omega)]; exact h.rf i hi
theorem SysIs.setByte {w : World} {b : Nat} {V : Vm} (h : SysIs w b V) {p k : Nat} (hp : p < 1024) (hk : k < 64) (x : Int) : SysIs (w.setCell ⟨b, 1 + p * 66 + 2 + k, none⟩ (.int .u8 x)) b (V.setP p ((V.pg p).byteP k x)) ∧ Far (fun k => k = b) w (w.setCell ⟨b, 1 + p * 66 + 2 + k, none⟩ (.int .u8 x)) := by
 obtain ⟨cs, A, n, cap, h1, h2, h3, h4, h5, h6, h7, h8⟩ := h.ex
 have hF : Far (fun k => k = b) w (w.setCell ⟨b, 1 + p * 66 + 2 + k, none⟩ (.int .u8 x)) := Far.setCell (T := fun k => k = b) (p := ⟨b, 1 + p * 66 + 2 + k, none⟩) (Far.refl _ _) (fun _ => rfl) _
 exact ⟨⟨_, A, n, cap, h1.set_ _ _, h2.setByte hp hk x, h3, (h4.keepR hF (fun g' o e h => h6 g' o e h)).more hF.size, h5, h6, h7, fun g o e h => (h8 g o e h).imp fun cr hc => hF.blk hc (h6 g o e h)⟩, hF⟩
end Go.Pol
namespace Go.Proofs.YtjmmgoijnhnnaaaGreat
open Go Go.Proofs Go.RowKit Go.Pol Go.Shelf
attribute [local go_sem] Oper.semAt_some Go.Pol.wide_fn Go.Pol.wide_depth Go.Pol.wide_fn' Go.Pol.wide_depth'
def whP (b : Nat) (V : Vm) (a : Int) : Option Addr := if whF V a = 0 then some ⟨b, 1 + (a / 64).toNat * 66 + 2 + (a % 64).toNat, none⟩ else none
theorem where_any (b : Nat) (a : Int) (V : Vm) (w : World) (hV : SysIs w b V) :
  Calls Tryz.prog 45 #[.pointer (some ⟨b, 0, none⟩), .int .i64 a] w fun e w' => e = .returned (.tuple #[.pointer (whP b V a), .int .i64 (whF V a)]) ∧ w' = w := by
 have HI := Lib.hid (is_any b V w hV)
 unfold whP
 obtain ⟨R, hR⟩ : ∃ R, whF V a = R := ⟨_, rfl⟩
 rw [hR]
 unfold whF at hR
 by_cases c1 : a < 0
 ·have d1 : decide (a < 0) = true := by simpa using c1
  rw [if_pos (.inl c1)] at hR
  subst hR
  rw [if_neg (by omega)]
  go_enter Tryz.func45, Tryz.ntmps45
  go_wp2_with fail
  refine HI.out.mono ?_
  rintro e9 w9 ⟨rfl, hw9⟩
  replace hw9 := hw9.symm
  subst hw9
  go_wp2_with fail
  go_ret2
  exact ⟨rfl, rfl⟩
 have d1 : decide (a < 0) = false := by simpa using c1
 by_cases c2 : 65536 ≤ a
 ·have d2 : decide (65536 ≤ a) = true := by simpa using c2
  rw [if_pos (.inr c2)] at hR
  subst hR
  rw [if_neg (by omega)]
  go_enter Tryz.func45, Tryz.ntmps45
  go_wp2_with fail
  refine HI.out.mono ?_
  rintro e9 w9 ⟨rfl, hw9⟩
  replace hw9 := hw9.symm
  subst hw9
  go_wp2_with fail
  go_ret2
  exact ⟨rfl, rfl⟩
 have d2 : decide (65536 ≤ a) = false := by simpa using c2
 rw [if_neg (by omega)] at hR
 obtain ⟨q, k, rfl, hq, hk⟩ : ∃ q k : Nat, a = ((q * 64 + k : Nat) : Int) ∧ q < 1024 ∧ k < 64 := ⟨(a / 64).toNat, (a % 64).toNat, by omega, by omega, by omega⟩
 have e1 : (((q * 64 + k : Nat) : Int) / 64).toNat = q := by omega
 have e2 : (((q * 64 + k : Nat) : Int) % 64).toNat = k := by omega
 rw [e1] at hR ⊢
 rw [e2]
 clear e1 e2
 have h0 : (0 : Int) ≤ ((q * 64 + k : Nat) : Int) := by omega
 have hdv : Int.tdiv ((q * 64 + k : Nat) : Int) 64 = (q : Int) := by rw [Int.tdiv_eq_ediv_of_nonneg h0]; omega
 have hmd : Int.tmod ((q * 64 + k : Nat) : Int) 64 = (k : Int) := by rw [Int.tmod_eq_emod_of_nonneg h0]; omega
 have hwq : wrap64 (q : Int) = (q : Int) := by unfold wrap64; omega
 have hql : (q : Int) < 1024 := by omega
 have hkl : (k : Int) < 64 := by omega
 generalize ((q * 64 + k : Nat) : Int) = a at *
 obtain ⟨cs, A, n, cap, hkb, hc, _⟩ := hV.ex
 have c0 := (hkb.cell (1 + q * 66)).trans (hc.kind hq)
 by_cases hkd : (V.pg q).kind = 2
 ·rw [if_neg (by simpa using hkd)] at hR
  subst hR
  rw [if_pos rfl]
  rw [hkd] at c0
  clear hkd hkb hc hV
  go_enter Tryz.func45, Tryz.ntmps45
  go_wp2_with fail
  refine HI.out.mono ?_
  rintro e9 w9 ⟨rfl, hw9⟩
  replace hw9 := hw9.symm
  subst hw9
  go_wp2_with fail
  go_ret2
  exact ⟨rfl, rfl⟩
 ·rw [if_pos hkd] at hR
  subst hR
  rw [if_neg (by omega)]
  generalize (V.pg q).kind = kd at *
  have hkd' : (kd != 2) = true := by simpa using hkd
  clear hkb hc hV
  go_enter Tryz.func45, Tryz.ntmps45
  go_wp2_with fail
  refine HI.out.mono ?_
  rintro e9 w9 ⟨rfl, hw9⟩
  replace hw9 := hw9.symm
  subst hw9
  go_wp2_with fail
  go_ret2
  exact ⟨rfl, rfl⟩
theorem write_any (b : Nat) (a v : Int) (V : Vm) (w : World) (hV : SysIs w b V) :
  Calls Tryz.prog 14 #[.pointer (some ⟨b, 0, none⟩), .int .i64 a, .int .u8 v] w fun e w' => e = .returned (.int .i64 (whF V a)) ∧ SysTo b (writeF V a v) w w' := by
 have HW := Lib.hid (where_any b a V w hV)
 have hV' := Lib.hid hV
 unfold SysTo
 obtain ⟨P, hP⟩ : ∃ P, writeF V a v = P := ⟨_, rfl⟩
 rw [hP]
 unfold writeF at hP
 unfold whP at HW
 obtain ⟨R, hR⟩ : ∃ R, whF V a = R := ⟨_, rfl⟩
 rw [hR] at hP HW ⊢
 by_cases c0 : R = 0
 ·subst c0
  rw [if_pos rfl] at hP HW
  have ha : ¬ (a < 0 ∨ 65536 ≤ a) := fun hc => by unfold whF at hR; rw [if_pos hc] at hR; omega
  have hq : (a / 64).toNat < 1024 := by omega
  have hk : (a % 64).toNat < 64 := by omega
  generalize (a / 64).toNat = q at *
  generalize (a % 64).toNat = k at *
  have hset := hV.setByte hq hk v
  rw [hP] at hset
  have hset' := Lib.hid hset
  obtain ⟨cs, A, n, cap, hkb, hc, _⟩ := hV.ex
  have e1 := (hkb.cell (1 + q * 66 + (k + 2))).trans (hc.byte hq hk)
  rw [show 1 + q * 66 + (k + 2) = 1 + q * 66 + 2 + k by omega] at e1
  have f1 := hkb.frozen
  clear hkb hc hV hP hset hR ha
  go_enter Tryz.func14, Tryz.ntmps14
  go_wp2_with fail
  refine HW.out.mono ?_
  rintro e9 w9 ⟨rfl, hw9⟩
  replace hw9 := hw9.symm
  subst hw9
  go_wp2_with fail
  go_ret
  exact ⟨rfl, hset'.out.1, hset'.out.2⟩
 ·rw [if_neg c0] at hP HW
  subst hP
  have d0 : (R == 0) = false := by simpa using c0
  clear hR hV
  go_enter Tryz.func14, Tryz.ntmps14
  go_wp2_with fail
  refine HW.out.mono ?_
  rintro e9 w9 ⟨rfl, hw9⟩
  replace hw9 := hw9.symm
  subst hw9
  go_wp2_with fail
  go_ret
  exact ⟨rfl, hV'.out, Far.refl _ _⟩
end Go.Proofs.YtjmmgoijnhnnaaaGreat
namespace Go.Pol
open Go Go.RowKit
end Go.Pol
