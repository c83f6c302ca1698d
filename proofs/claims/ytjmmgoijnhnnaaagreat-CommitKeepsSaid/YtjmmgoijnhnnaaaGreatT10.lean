/- Words for memory that all walks of this seat share: a slice that reads as a list of integers or of structs of integers; how such readings are carried into world. -/
import Derived.Below
import Derived.Laws.OwnMore
import Derived.Laws.MakeOwn
import Derived.Laws.CopyOwn
import Derived.Deep.RegionLaw
import Derived.Deep.AppendLies
import Derived.Deep.Draws
import Derived.Deep.QuietTactic
import Derived.BigQuiet
import Derived.Lib.Hide
import Derived.WalkKit
import Derived.WalkSpells
import Derived.WalkLawsBesides
import Derived.Maps.AppendAt
import Derived.StillTailTactics
import Derived.Deep.RegionHeld3
import Derived.Deep.DeepCutAuto
import Derived.Deep.DeepFit
import Derived.ChangeSame
import Derived.Deep.Slices
import Derived.Deep.Fields
import Derived.Lib.SmallJoins
import Derived.OpenShut
import Derived.ProofKit
import Derived.OpenVars
import Derived.JoinedOf
import Derived.RangeFuncNested
import Derived.RangeFuncBound
import Derived.RangeFuncCalls
import Derived.RangeFuncLeaves
import Derived.OwnWalkIn
import Derived.TacticsInMore
import Derived.LoopNIn
import Derived.LoopIn
import Derived.Test.YtjmmgoijnhnnaaaGreatChecked
import Derived.Laws.StructEq
import Derived.Sort.CutIn
import Derived.Shelf.Abstract
import Derived.OrdersHeld
import Derived.Lib.BitFns
import Derived.Lib.Strings
import Derived.Lib.Small
import Derived.Lib.Walk
import Derived.Deep.MidRow
import Derived.OrdersIn
import Derived.Laws.AppendOwn
import Derived.DeepKeys
import Derived.Test.YtjmmgoijnhnnaaaGreatT9
namespace Go.Pol
open Go Go.RowKit
section
variable {P : Program} {Q : Exit → Act → World → Prop}
def edgesDown : List Oper → Nat → Bool
 | [], _ => true
 | o :: r, k => o.after.all (fun e => !Region.binds .any e || decide (e.on < k)) && edgesDown r (k + 1)
theorem edgesDown_at : ∀ (l : List Oper) (k : Nat), edgesDown l k = true → ∀ i o, l[i]? = some o → ∀ e ∈ o.after, Region.binds .any e = true → e.on < k + i
 | [], _, _, _, _, h => by simp at h
 | o :: r, k, h, i, o', hi => by
  simp only [edgesDown, Bool.and_eq_true] at h
  cases i with
  | zero =>
   simp at hi; subst hi
   intro e he hb
   have := Array.all_eq_true'.1 h.1 e he
   simpa [hb] using this
  | succ i =>
   intro e he hb
   have := edgesDown_at r (k + 1) h.2 i o' (by simpa using hi) e he hb
   omega
theorem wpAny_of_inv {l : List Oper} {Inv : (Nat → Bool) → Act → World → Prop} (hB : edgesDown l 0 = true) (hs : StepAll P l.toArray Q Inv l 0)
  (hext : ∀ D D' a w, (∀ i, i < l.length → D i = D' i) → Inv D a w → Inv D' a w)
  (he : ∀ a w, Inv (fun _ => true) a w → Q .normal a w) : ∀ (fuel : Nat) (listed : Array Bool) (a : Act) (w : World), listed.size = l.length → (l.length ≤ fuel + (listed.toList.filter id).length) →
   Inv (fun i => listed.getD i true) a w → wpAny P .any l.toArray Q fuel listed a w := by
 have hnil : ∀ (listed : Array Bool) (a : Act) (w : World), listed.size = l.length → Inv (fun i => listed.getD i true) a w → Region.ready .any l.toArray listed = [] → Q .normal a w := by
  intro listed a w hsz hi hr
  refine he a w (hext _ _ a w (fun i hil => ?_) hi)
  -- the least place that is not listed would be ready
  have hmin : ∀ i, i < l.length → listed.getD i true = true := by
   intro i
   induction i using Nat.strongRecOn with
   | _ i ih =>
    intro hil
    cases hb : listed.getD i true with
    | true => rfl
    | false =>
     exfalso
     obtain ⟨o, ho⟩ : ∃ o, l[i]? = some o := ⟨l[i], List.getElem?_eq_getElem hil⟩
     have : i ∈ Region.ready .any l.toArray listed := mem_ready.2 ⟨hb, o, by simpa using ho, fun e hem hbind => by
      have hlt := edgesDown_at l 0 hB i o ho e hem hbind
      have h1 := ih e.on (by omega) (by omega)
      have h2 : e.on < listed.size := by omega
      simp [h2] at h1 ⊢
      exact h1⟩
     rw [hr] at this
     cases this
  exact hmin i hil
 intro fuel
 induction fuel with
 | zero =>
  intro listed a w hsz hf hi
  have hall : Region.ready .any l.toArray listed = [] := by
   cases hr : Region.ready .any l.toArray listed with
   | nil => rfl
   | cons i rs =>
    exfalso
    have hmem : i ∈ Region.ready .any l.toArray listed := by rw [hr]; simp
    obtain ⟨hun, o, ho, _⟩ := mem_ready.1 hmem
    have hil : i < l.length := by have := (Array.getElem?_eq_some_iff.1 ho).1; simpa using this
    have hlen := List.length_filter_lt_length_iff_exists (p := (id : Bool → Bool)) (l := listed.toList) |>.2 ⟨listed.getD i true, by
     have : i < listed.size := by omega
     simp [this], by simp [hun]⟩
    have : listed.toList.length = l.length := by simpa using hsz
    omega
  exact ⟨hall, hnil listed a w hsz hi hall⟩
 | succ fuel ih =>
  intro listed a w hsz hf hi
  refine ⟨hnil listed a w hsz hi, fun i hmem => ?_⟩
  obtain ⟨hun, o, ho, hall⟩ := mem_ready.1 hmem
  have hil : i < l.length := by have := (Array.getElem?_eq_some_iff.1 ho).1; simpa using this
  have hst := StepAll.at_ l 0 hs i o (by simpa using ho) (fun i => listed.getD i true) a w hi (by simpa using hun) (fun e hem hbind => by
   have h1 := hall e hem hbind
   have h2 : e.on < listed.size := by have := edgesDown_at l 0 hB i o (by simpa using ho) e hem hbind; omega
   simp [h2] at h1 ⊢
   exact h1)
  rw [Nat.zero_add] at hst
  have hnext : ∀ a' w', Inv (fun j => j == i || listed.getD j true) a' w' → wpAny P .any l.toArray Q fuel (listed.setIfInBounds i true) a' w' := by
   intro a' w' h'
   refine ih _ a' w' (by simpa using hsz) ?_ (hext _ _ a' w' (fun j hj => ?_) h')
   ·have hc : ((listed.setIfInBounds i true).toList.filter id).length = (listed.toList.filter id).length + 1 := by
     have hi' : i < listed.toList.length := by simp; omega
     have hf' : listed.toList[i] = false := by
      have : i < listed.size := by omega
      simp [this] at hun; simpa using hun
     rw [Array.toList_setIfInBounds]
     have e1 := List.take_append_drop i listed.toList
     have e2 : listed.toList.drop i = false :: listed.toList.drop (i + 1) := by rw [List.drop_eq_getElem_cons hi', hf']
     have e3 : listed.toList.set i true = listed.toList.take i ++ true :: listed.toList.drop (i + 1) := by
      rw [List.set_eq_take_append_cons_drop, if_pos hi']
     rw [e3]
     conv => rhs; rw [← e1, e2]
     simp
     omega
    omega
   ·by_cases hji : j = i
    ·subst hji
     have : j < listed.size := by omega
     simp [this]
    ·have : j < listed.size := by omega
     simp [hji, this, Ne.symm hji]
  unfold wpOp
  rw [ho]
  show if Region.wanted o (yielded l.toArray a.tmps) = true then _ else _
  split
  ·rename_i hw
   rw [if_pos hw] at hst
   exact .inl (Oper.wp_mono hnext hst)
  ·rename_i hw
   rw [if_neg hw] at hst
   exact hnext _ _ hst
theorem region_inv {id : Nat} {a : Act} {w : World} {l : List Oper} (Inv : (Nat → Bool) → Act → World → Prop) (hm : P.follows .mixedOrders = true) (hB : edgesDown l 0 = true)
  (hext : ∀ D D' a w, (∀ i, i < l.length → D i = D' i) → Inv D a w → Inv D' a w)
  (h0 : ∀ D, (∀ i, i < l.length → D i = false) → Inv D a { w with drawn := w.drawn + 1 }) (hs : StepAll P l.toArray Q Inv l 0) (he : ∀ a w, Inv (fun _ => true) a w → Q .normal a w) : (Code.region id l.toArray true).wp P Q a w := by
 refine wp_region_any hm (wpAny_of_inv hB hs hext he _ _ _ _ (by simp) (by simp) (h0 _ (fun i hi => ?_)))
 have : i < (Array.replicate l.toArray.size false).size := by simpa using hi
 simp [hi]
end
theorem Can.eq_setA {s : List Sp} (h : Can s) (f : Nat → Bool) (hf : ∀ p : Nat, p < 1024 → f p = mem p s) : s = setA f := by
 refine h.eq (setA_can f) fun p => ?_
 rw [Bool.eq_iff_iff, mem_setA]
 constructor
 ·intro hp
  have := h.range hp
  refine ⟨this, ?_⟩
  rw [hf _ (by omega), Int.toNat_of_nonneg this.1]; exact hp
 ·rintro ⟨h1, h2⟩
  rw [hf _ (by omega), Int.toNat_of_nonneg h1.1] at h2; exact h2
end Go.Pol
namespace Go.Proofs.YtjmmgoijnhnnaaaGreat
open Go Go.Proofs Go.RowKit Go.Pol
theorem valid_any (p n : Int) (w : World) :
  Calls Tryz.prog 109 #[.agg #[.int .i64 p, .int .i64 n]] w fun e w' => e = .returned (.bool (vld (p, n))) ∧ Below w.heap.size w w' := by
 have hb0 := (Below.refl w.heap.size w).alloc (Nat.le_refl _) (.cells #[.int .i64 p, .int .i64 n] 140)
 by_cases h1 : 0 ≤ p
 case neg =>
  have h1' : decide (0 ≤ p) = false := by simpa using h1
  go_enter Tryz.func109, Tryz.ntmps109
  go_wp2
  go_ret
  exact ⟨ret_bool (by simp [vld]; omega), hb0⟩
 have h1' : decide (0 ≤ p) = true := by simpa using h1
 by_cases h2 : p < 1024
 case neg =>
  have h2' : decide (p < 1024) = false := by simpa using h2
  go_enter Tryz.func109, Tryz.ntmps109
  go_wp2
  go_ret
  exact ⟨ret_bool (by simp [vld]; omega), hb0⟩
 have h2' : decide (p < 1024) = true := by simpa using h2
 by_cases h3 : 1 ≤ n
 case neg =>
  have h3' : decide (1 ≤ n) = false := by simpa using h3
  go_enter Tryz.func109, Tryz.ntmps109
  go_wp2
  go_ret
  exact ⟨ret_bool (by simp [vld]; omega), hb0⟩
 have h3' : decide (1 ≤ n) = true := by simpa using h3
 go_enter Tryz.func109, Tryz.ntmps109
 go_wp2
 go_ret
 exact ⟨ret_bool (by rw [Bool.eq_iff_iff]; simp [vld]; omega), hb0⟩
set_option maxHeartbeats 800000 in
theorem refSpCheck_any (A : Option Addr) (n cap : Nat) (us : List Sp) (w : World) (hn : us.length = n) (hm : n ≤ maxLen) (hr : RU w w.heap.size A us) :
  Calls Tryz.prog 100 #[.slice A n cap] w fun e w' => e = .returned (.int .i64 (chkS us)) ∧ Below w.heap.size w w' := by
 unfold maxLen at hm
 have hn' := Lib.hid hn
 clear hn
 obtain ⟨R, hR0⟩ : ∃ R : Int, chkS us = R := ⟨_, rfl⟩
 rw [hR0]
 have hR := Lib.hid hR0
 clear hR0
 by_cases hlen : 512 < n
 ·have hlen' : decide (512 < (n : Int)) = true := by simp; omega
  go_enter Tryz.func100, Tryz.ntmps100
  go_wp2
  go_ret
  exact ⟨ret_int (by rw [← hR.out, chkS, if_pos (by rw [hn'.out]; exact hlen)]), Below.refl _ _⟩
 have hlen' : decide (512 < (n : Int)) = false := by simp; omega
 go_enter Tryz.func100, Tryz.ntmps100
 go_wp2_with fail
 go_loopw [3] (fun i wr => ∃ (k : Int), 0 ≤ k ∧ k ≤ n ∧ i = .int .i64 k ∧ Below w.heap.size w wr ∧ Hid (∀ j : Nat, (j : Int) < k → j < us.length → vld (us.getD j (0,0)) = true)) (fun i _ => n - (intOf i).toNat)
 case atStart => exact ⟨0, by omega, by omega, rfl, Below.refl _ _, Lib.hid (fun j hj => absurd hj (by omega))⟩
 case round =>
  obtain ⟨k, hk0, hk, rfl, hB, hL⟩ := hrel
  by_cases hlt : k < n
  ·have hlt' : decide (k < (n : Int)) = true := by simpa using hlt
   obtain ⟨b, o, rfl, _, hc, hd⟩ := RU.at_' (hr.below hB) (k := k.toNat) (by have := hn'.out; omega)
   generalize hu : us.getD k.toNat (0,0) = u at *
   have hu' := Lib.hid hu; clear hu
   obtain ⟨x, y⟩ := u
   dsimp only at hc hd
   by_cases hv : vld (x, y) = true
   ·have hv' : (!vld (x, y)) = false := by simp [hv]
    go_wp2_with (go_at_call 109; refine (valid_any _ _ _).mono ?_; rintro e w1 ⟨rfl, hq⟩)
    have hB1 := hB.trans (hq.mono hB.size)
    go_roundw
    case rel =>
     refine ⟨k+1, by omega, by omega, rfl, hB1, Lib.hid (fun j hj hl => ?_)⟩
     by_cases hjk : (j : Int) < k
     ·exact hL.out j hjk hl
     ·obtain rfl : j = k.toNat := by omega
      rw [hu'.out]; exact hv
    case measure => simp [intOf]; omega
   ·have hv' : (!vld (x, y)) = true := by simpa using hv
    have hE : Hid (R = 7) := Lib.hid (by
     have hb := badAt_at us k.toNat (fun j h1 h2 => hL.out j (by omega) h2) (by have := hn'.out; omega) (by rw [hu'.out]; simpa using hv)
     rw [← hR.out, chkS, if_neg (by rw [hn'.out]; exact hlen), if_pos]
     rw [Bool.eq_false_iff]; intro hh
     have := (badAt_all us).2 hh
     have := hn'.out
     omega)
    clear hv
    go_wp2_with (go_at_call 109; refine (valid_any _ _ _).mono ?_; rintro e w1 ⟨rfl, hq⟩)
    go_ret
    exact ⟨ret_int hE.out.symm, hB.trans (hq.mono hB.size)⟩
  ·have hlt' : decide (k < (n : Int)) = false := by simp; omega
   have hA : Hid (us.all vld = true) := Lib.hid (by rw [← badAt_all]; exact badAt_end us (fun j h2 => hL.out j (by have := hn'.out; omega) h2))
   have hR2 : Hid (R = if formOk (-1) us = true then 0 else 6) := Lib.hid (by rw [← hR.out, chkS, if_neg (by rw [hn'.out]; exact hlen), if_neg (by rw [hA.out]; decide)])
   clear hL hR
   go_wp2_with fail
   go_loopw [4] (fun i wr => ∃ (k : Nat), (k + 1 ≤ n ∨ n = 0 ∧ k = 0) ∧ i = .int .i64 ((k : Int) + 1) ∧ Below w.heap.size w wr ∧ Hid (0 < n → (formOk (-1) us = true ↔ formOk ((us.getD k (0,0)).1 + (us.getD k (0,0)).2) (us.drop (k+1)) = true))) (fun i _ => n + 1 - (intOf i).toNat)
   case atStart => exact ⟨0, by omega, by simp, hB, Lib.hid (fun h => form_start us (by rw [hn'.out]; exact h) hA.out)⟩
   case round =>
    obtain ⟨k, hk, rfl, hB, hL⟩ := hrel
    by_cases hlt : k + 1 < n
    ·have hlt' : decide ((k : Int) + 1 < (n : Int)) = true := by simp; omega
     obtain ⟨b, o, rfl, hbl, hc, hd⟩ := RU.at_' (hr.below hB) (k := k) (by have := hn'.out; omega)
     obtain ⟨b', o', had, _, hc2, hd2⟩ := RU.at_' (hr.below hB) (k := k + 1) (by have := hn'.out; omega)
     obtain ⟨rfl, rfl⟩ : b = b' ∧ o = o' := by simpa using had
     clear had
     have hst := Lib.hid (form_step us (-1) k (by have := hn'.out; omega) (hL.out (by omega)))
     have hv1 := vld_iff.1 (all_at hA.out (k := k) (by have := hn'.out; omega))
     have hv2 := vld_iff.1 (all_at hA.out (k := k + 1) (by have := hn'.out; omega))
     generalize hu : us.getD k (0,0) = u at *
     generalize hv : us.getD (k+1) (0,0) = v at *
     have hv' := Lib.hid hv; clear hu hv hL
     obtain ⟨x, y⟩ := u
     obtain ⟨x2, y2⟩ := v
     dsimp only at hc hd hc2 hd2 hst hv1 hv2
     have q1 := fun y : Ext wr => y.cell hc
     have q2 := fun y : Ext wr => y.cell hd
     have q3 := fun y : Ext wr => y.cell hc2
     have q4 := fun y : Ext wr => y.cell hd2
     by_cases hle : x2 ≤ x + y
     ·have hle' : decide (x2 ≤ x + y) = true := by simpa using hle
      have hE : Hid (R = 6) := Lib.hid (by rw [hR2.out, if_neg (by rw [hst.out]; omega)])
      clear hst hR2
      go_upto_region 11 with fail
      refine region_ext (by kernel_rfl) (by kernel_rfl) ?_
      repeat (go_big_quiet_step (fail))
      refine wpQuiet_nil ?_
      rintro w2 ⟨⟨_, hw2⟩, rfl⟩
      go_wp2_with fail
      go_ret
      exact ⟨ret_int hE.out.symm, hB.trans (hw2.mono hB.size)⟩
     ·have hle' : decide (x2 ≤ x + y) = false := by simpa using hle
      have hst' : Hid (formOk (-1) us = true ↔ formOk (x2 + y2) (us.drop (k + 1 + 1)) = true) := Lib.hid (by rw [hst.out]; exact ⟨fun h => h.2, fun h => ⟨by omega, h⟩⟩)
      clear hst
      go_upto_region 11 with fail
      refine region_ext (by kernel_rfl) (by kernel_rfl) ?_
      repeat (go_big_quiet_step (fail))
      refine wpQuiet_nil ?_
      rintro w2 ⟨⟨_, hw2⟩, rfl⟩
      go_wp2_with fail
      go_roundw
      case rel => exact ⟨k + 1, by omega, by simp, hB.trans (hw2.mono hB.size), Lib.hid (fun _ => by rw [hv'.out]; exact hst'.out)⟩
      case measure => simp [intOf]; omega
    ·have hlt' : decide ((k : Int) + 1 < (n : Int)) = false := by simp; omega
     have hE : Hid (R = 0) := Lib.hid (by
      rw [hR2.out, if_pos]
      by_cases h0 : 0 < n
      ·rw [hL.out h0, List.drop_of_length_le (by have := hn'.out; omega)]; rfl
      ·rw [List.eq_nil_of_length_eq_zero (by have := hn'.out; omega : us.length = 0)]; rfl)
     clear hR2
     go_wp2_with fail
     go_ret
     exact ⟨ret_int hE.out.symm, hB⟩
end Go.Proofs.YtjmmgoijnhnnaaaGreat
namespace Go.Pol
def kindG (pg n f b ev page : Int) : Int :=
 if page - pg < 0 ∨ n ≤ page - pg then 4 else if page - pg < f then 1 else if n - b ≤ page - pg then 2 else if 0 < ev ∧ (page - pg - f + 1) % (ev + 1) = 0 then 3 else 0
end Go.Pol
namespace Go.Proofs.YtjmmgoijnhnnaaaGreat
open Go Go.Proofs Go.RowKit Go.Pol
theorem rspec_any (f b ev : Int) (w : World) :
  Calls Tryz.prog 110 #[.agg #[.int .i64 f, .int .i64 b, .int .i64 ev]] w fun e w' => e = .returned (.bool (!wrongG f b ev)) ∧ Below w.heap.size w w' := by
 have hb0 := (Below.refl w.heap.size w).alloc (Nat.le_refl _) (.cells #[.int .i64 f, .int .i64 b, .int .i64 ev] 23)
 have hR : Hid ((!wrongG f b ev) = (decide (0 ≤ f) && decide (f ≤ 16) && decide (0 ≤ b) && decide (b ≤ 16) && decide (0 ≤ ev) && decide (ev ≤ 1024))) := Lib.hid (by unfold wrongG; rw [Bool.not_not])
 by_cases hsf : 0 ≤ f
 case neg =>
  have hs' : decide (0 ≤ f) = false := by simpa using hsf
  go_enter Tryz.func110, Tryz.ntmps110
  go_wp2
  go_ret
  exact ⟨ret_bool (by rw [hR.out]; simp [*]), hb0⟩
 have hsf' : decide (0 ≤ f) = true := by simpa using hsf
 by_cases hsf : f ≤ 16
 case neg =>
  have hs' : decide (f ≤ 16) = false := by simpa using hsf
  go_enter Tryz.func110, Tryz.ntmps110
  go_wp2
  go_ret
  exact ⟨ret_bool (by rw [hR.out]; simp [*]), hb0⟩
 have hsf' : decide (f ≤ 16) = true := by simpa using hsf
 by_cases hsb : 0 ≤ b
 case neg =>
  have hs' : decide (0 ≤ b) = false := by simpa using hsb
  go_enter Tryz.func110, Tryz.ntmps110
  go_wp2
  go_ret
  exact ⟨ret_bool (by rw [hR.out]; simp [*]), hb0⟩
 have hsb' : decide (0 ≤ b) = true := by simpa using hsb
 by_cases hsb : b ≤ 16
 case neg =>
  have hs' : decide (b ≤ 16) = false := by simpa using hsb
  go_enter Tryz.func110, Tryz.ntmps110
  go_wp2
  go_ret
  exact ⟨ret_bool (by rw [hR.out]; simp [*]), hb0⟩
 have hsb' : decide (b ≤ 16) = true := by simpa using hsb
 by_cases hsev : 0 ≤ ev
 case neg =>
  have hs' : decide (0 ≤ ev) = false := by simpa using hsev
  go_enter Tryz.func110, Tryz.ntmps110
  go_wp2
  go_ret
  exact ⟨ret_bool (by rw [hR.out]; simp [*]), hb0⟩
 have hsev' : decide (0 ≤ ev) = true := by simpa using hsev
 go_enter Tryz.func110, Tryz.ntmps110
 go_wp2
 go_ret
 exact ⟨ret_bool (by rw [hR.out]; simp [*]), hb0⟩
set_option maxHeartbeats 400000 in
theorem rgcheck_any (pg n f b ev : Int) (w : World) :
  Calls Tryz.prog 43 #[planV pg n f b ev] w fun e w' => e = .returned (.int .i64 (chkG pg n f b ev)) ∧ Below w.heap.size w w' := by
 obtain ⟨R, hR0⟩ : ∃ R : Int, chkG pg n f b ev = R := ⟨_, rfl⟩
 rw [hR0]
 have hR := Lib.hid hR0
 clear hR0
 have hb1 := (Below.refl w.heap.size w).alloc (Nat.le_refl _) (.cells (planC pg n f b ev) 25)
 have k1 := Blk.new w 25 (planC pg n f b ev)
 have HC := Lib.hid (fun W => valid_any pg n W)
 by_cases hv : vld (pg, n) = true
 case neg =>
  have hv' : vld (pg, n) = false := by simpa using hv
  rw [hv'] at HC
  have hE : Hid (R = 7) := Lib.hid (by rw [← hR.out, chkG, if_pos (.inl (by simpa using hv))])
  clear hv hR hv'
  go_enter Tryz.func43, Tryz.ntmps43
  go_wp2_with (go_at_call 109; refine (HC.out _).mono ?_; rintro e w1 ⟨rfl, hq⟩; have k2 := k1.call hq; have c2 := k2.cell)
  go_ret
  exact ⟨ret_int hE.out.symm, hb1.trans (hq.mono hb1.size)⟩
 case pos =>
  rw [hv] at HC
  have HW := Lib.hid (fun W => rspec_any f b ev W)
  cases hw : wrongG f b ev with
  | true =>
   rw [hw] at HW
   have hE : Hid (R = 7) := Lib.hid (by rw [← hR.out, chkG, if_pos (.inr hw)])
   clear hv hR hw
   go_enter Tryz.func43, Tryz.ntmps43
   go_wp2_with (first
    | (go_at_call 109; refine (HC.out _).mono ?_; rintro e w1 ⟨rfl, hq⟩; have k2 := k1.call hq; have c2 := k2.cell)
    | (go_at_call 110; refine (HW.out _).mono ?_; rintro e w3 ⟨rfl, hq3⟩))
   go_ret
   have hb2 := hb1.trans (hq.mono hb1.size)
   exact ⟨ret_int hE.out.symm, hb2.trans (hq3.mono hb2.size)⟩
  | false =>
   rw [hw] at HW
   have hE : Hid (R = if n ≤ f + b then 4 else 0) := Lib.hid (by rw [← hR.out, chkG, if_neg (by simp [hv, hw])])
   have hv' := vld_iff.1 hv
   have hw' := wrongG_iff.1 hw
   dsimp only at hv'
   clear hv hR hw
   by_cases hn : n ≤ f + b
   ·have hn' : decide (n ≤ f + b) = true := by simpa using hn
    rw [if_pos hn] at hE
    clear hn
    go_enter Tryz.func43, Tryz.ntmps43
    go_wp2_with (first
     | (go_at_call 109; refine (HC.out _).mono ?_; rintro e w1 ⟨rfl, hq⟩; have k2 := k1.call hq; have c2 := k2.cell)
     | (go_at_call 110; refine (HW.out _).mono ?_; rintro e w3 ⟨rfl, hq3⟩; have k3 := k2.call hq3; have c3 := k3.cell))
    go_ret
    have hb2 := hb1.trans (hq.mono hb1.size)
    exact ⟨ret_int hE.out.symm, hb2.trans (hq3.mono hb2.size)⟩
   ·have hn' : decide (n ≤ f + b) = false := by simpa using hn
    rw [if_neg hn] at hE
    clear hn
    go_enter Tryz.func43, Tryz.ntmps43
    go_wp2_with (first
     | (go_at_call 109; refine (HC.out _).mono ?_; rintro e w1 ⟨rfl, hq⟩; have k2 := k1.call hq; have c2 := k2.cell)
     | (go_at_call 110; refine (HW.out _).mono ?_; rintro e w3 ⟨rfl, hq3⟩; have k3 := k2.call hq3; have c3 := k3.cell))
    go_ret
    have hb2 := hb1.trans (hq.mono hb1.size)
    exact ⟨ret_int hE.out.symm, hb2.trans (hq3.mono hb2.size)⟩
set_option maxHeartbeats 400000 in
theorem kind_any (pg n f b ev page : Int) (w : World) (hp : PlanOk pg n f b ev) (h0 : 0 ≤ page) (h1 : page ≤ 2000) :
  Calls Tryz.prog 171 #[planV pg n f b ev, .int .i64 page] w fun e w' => e = .returned (.int .i64 (kindG pg n f b ev page)) ∧ Below w.heap.size w w' := by
 obtain ⟨R, hR0⟩ : ∃ R : Int, kindG pg n f b ev page = R := ⟨_, rfl⟩
 rw [hR0]
 have hR := Lib.hid hR0
 clear hR0
 obtain ⟨p1, p2, p3, p4, p5, p6, p7, p8, p9, p10, p11⟩ := hp
 have hb1 := (Below.refl w.heap.size w).alloc (Nat.le_refl _) (.cells (planC pg n f b ev) 25)
 have k1 := Blk.new w 25 (planC pg n f b ev)
 have c1 := k1.cell
 by_cases a1 : page - pg < 0 ∨ n ≤ page - pg
 ·have hE : Hid (R = 4) := Lib.hid (by rw [← hR.out, kindG, if_pos a1])
  by_cases a2 : page - pg < 0
  ·have a2' : decide (page - pg < 0) = true := by simpa using a2
   go_enter Tryz.func171, Tryz.ntmps171
   go_wp2_with fail
   go_ret
   exact ⟨ret_int hE.out.symm, hb1⟩
  ·have a2' : decide (page - pg < 0) = false := by simpa using a2
   have a3' : decide (n ≤ page - pg) = true := by simp; omega
   go_enter Tryz.func171, Tryz.ntmps171
   go_wp2_with fail
   go_ret
   exact ⟨ret_int hE.out.symm, hb1⟩
 ·have a2' : decide (page - pg < 0) = false := by simp; omega
  have a3' : decide (n ≤ page - pg) = false := by simp; omega
  have a4 : 0 ≤ page - pg ∧ page - pg < n := by omega
  by_cases b1 : page - pg < f
  ·have hE : Hid (R = 1) := Lib.hid (by rw [← hR.out, kindG, if_neg a1, if_pos b1])
   have b1' : decide (page - pg < f) = true := by simpa using b1
   clear a1
   go_enter Tryz.func171, Tryz.ntmps171
   go_wp2_with fail
   go_ret
   exact ⟨ret_int hE.out.symm, hb1⟩
  ·have b1' : decide (page - pg < f) = false := by simpa using b1
   by_cases b2 : n - b ≤ page - pg
   ·have hE : Hid (R = 2) := Lib.hid (by rw [← hR.out, kindG, if_neg a1, if_neg b1, if_pos b2])
    have b2' : decide (n - b ≤ page - pg) = true := by simpa using b2
    clear a1
    go_enter Tryz.func171, Tryz.ntmps171
    go_wp2_with fail
    go_ret
    exact ⟨ret_int hE.out.symm, hb1⟩
   ·have b2' : decide (n - b ≤ page - pg) = false := by simpa using b2
    have hE : Hid (R = if 0 < ev ∧ (page - pg - f + 1) % (ev + 1) = 0 then 3 else 0) := Lib.hid (by rw [← hR.out, kindG, if_neg a1, if_neg b1, if_neg b2])
    by_cases b3 : 0 < ev
    ·have b3' : decide (0 < ev) = true := by simpa using b3
     have hm : Int.tmod (page - pg - f + 1) (ev + 1) = (page - pg - f + 1) % (ev + 1) := Int.tmod_eq_emod_of_nonneg (by omega)
     by_cases b4 : (page - pg - f + 1) % (ev + 1) = 0
     ·have b4' : ((page - pg - f + 1) % (ev + 1) == 0) = true := by simpa using b4
      have hE2 : Hid (R = 3) := Lib.hid (by rw [hE.out, if_pos ⟨b3, b4⟩])
      clear a1 hE b4
      go_enter Tryz.func171, Tryz.ntmps171
      go_wp2_with fail
      go_ret
      exact ⟨ret_int hE2.out.symm, hb1⟩
     ·have b4' : ((page - pg - f + 1) % (ev + 1) == 0) = false := by simpa using b4
      have hE2 : Hid (R = 0) := Lib.hid (by rw [hE.out, if_neg (fun h => b4 h.2)])
      clear a1 hE b4
      go_enter Tryz.func171, Tryz.ntmps171
      go_wp2_with fail
      go_ret
      exact ⟨ret_int hE2.out.symm, hb1⟩
    ·have b3' : decide (0 < ev) = false := by simpa using b3
     have hE2 : Hid (R = 0) := Lib.hid (by rw [hE.out, if_neg (fun h => b3 h.1)])
     clear a1 hE
     go_enter Tryz.func171, Tryz.ntmps171
     go_wp2_with fail
     go_ret
     exact ⟨ret_int hE2.out.symm, hb1⟩
end Go.Proofs.YtjmmgoijnhnnaaaGreat
namespace Go.Pol
open Go
section
variable {pg n f b ev : Int}
theorem kindG_zero (hp : PlanOk pg n f b ev) (q : Int) : kindG pg n f b ev q = 0 ↔ mem q (runsL pg n f b ev) = true := by
 obtain ⟨a1, a2, a3, a4, a5, a6, a7, a8, a9, a10, a11⟩ := hp
 rw [(runsL_ok ⟨a1, a2, a3, a4, a5, a6, a7, a8, a9, a10, a11⟩).2.2 q]
 unfold kindG
 by_cases h1 : q - pg < 0 ∨ n ≤ q - pg
 ·rw [if_pos h1]; constructor
  ·intro h; cases h
  ·rintro ⟨h, _⟩; omega
 rw [if_neg h1]
 by_cases h2 : q - pg < f
 ·rw [if_pos h2]; constructor
  ·intro h; cases h
  ·rintro ⟨h, _⟩; omega
 rw [if_neg h2]
 by_cases h3 : n - b ≤ q - pg
 ·rw [if_pos h3]; constructor
  ·intro h; cases h
  ·rintro ⟨h, _⟩; omega
 rw [if_neg h3, show q - (pg + f) + 1 = q - pg - f + 1 by omega]
 by_cases h0 : ev = 0
 ·subst h0
  rw [if_neg (by omega), if_pos rfl]
  have : (q - pg - f + 1) % (1024 + 1) = q - pg - f + 1 := Int.emod_eq_of_lt (by omega) (by omega)
  rw [this]; omega
 ·rw [if_neg h0]
  by_cases h4 : (q - pg - f + 1) % (ev + 1) = 0
  ·rw [if_pos ⟨by omega, h4⟩]; constructor
   ·intro h; cases h
   ·rintro ⟨_, h⟩; exact absurd h4 h
  ·rw [if_neg (fun h => h4 h.2)]
   exact ⟨fun _ => ⟨by omega, h4⟩, fun _ => rfl⟩
end
end Go.Pol
namespace Go.Pol
open Go Go.RowKit
theorem form_len2 : ∀ (s : List Sp) (e : Int) (m : Int), (∀ x ∈ s, 1 ≤ x.2 ∧ x.1 + x.2 ≤ m) → formOk e s = true → e ≤ m → (s.length : Int) ≤ m - e
 | [], e, m, _, _, h => by simp; omega
 | x :: r, e, m, hw, hf, _ => by
  have hf' := formOk_cons.1 hf
  have hx := hw x (by simp)
  have := form_len2 r (x.1 + x.2) m (fun y hy => hw y (by simp [hy])) hf'.2 hx.2
  simp only [List.length_cons]
  omega
end Go.Pol
namespace Go.Proofs.YtjmmgoijnhnnaaaGreat
open Go Go.Proofs Go.RowKit Go.Pol
def SpansO (w : World) (us : List Sp) (e : Ending) (w' : World) : Prop :=
 ∃ (A : Option Addr) (cap : Nat), e = .returned (.slice A us.length cap) ∧ RU w' w'.heap.size A us ∧ us.length ≤ cap ∧ cap ≤ maxLen ∧ (∀ b o, A = some ⟨b, o, none⟩ → w.heap.size ≤ b) ∧ Below w.heap.size w w'
set_option maxRecDepth 100000 in
set_option maxHeartbeats 1600000 in
theorem refSet_any (cs : Array Value) (f : Nat → Bool) (w : World) (hm : MarksAre cs f) :
  Calls Tryz.prog 156 #[.agg cs] w (SpansO w (setA f)) := by
 obtain ⟨i0, hi, hz0, hz1, hz2⟩ := infoSp_parts
 have hb0 := (Below.refl w.heap.size w).alloc (Nat.le_refl _) (.cells cs 231)
 have kM := Blk.new w 231 cs
 have hcs := Lib.hid hm.at_
 have hcz := hm.size
 have hok := Lib.hid (fun p => setF_ok f p)
 have hA : Hid (setA f = setF f 1024) := Lib.hid rfl
 obtain ⟨SA, hSA⟩ : ∃ S, setA f = S := ⟨_, rfl⟩
 rw [hSA]
 have hSA' := Lib.hid hSA
 clear hSA hm
 go_enter Tryz.func156, Tryz.ntmps156
 go_wp2_with fail
 go_loopw [3, 4] (fun v i wr => ∃ k : Nat, k ≤ 1024 ∧ i = .int .i64 k ∧ wr.ownsRow (w.heap.size + 1) 140 2 v (setF f k).length (spCells (setF f k)) ∧ Blk wr w.heap.size 231 cs ∧ Below w.heap.size w wr) (fun _ i _ => 1024 - (intOf i).toNat)
 case atStart => exact ⟨0, by omega, rfl, World.ownsRow_nil _ _ _ _, kM, hb0⟩
 case round =>
  obtain ⟨k, hk, rfl, hrow, kW, hB⟩ := hrel
  have hBs := hB.size
  have hwl := kW.lt
  by_cases hlt : k < 1024
  ·have hlt' : decide ((k : Int) < 1024) = true := by simp; omega
   have hck : wr.cell? ⟨w.heap.size, k, none⟩ = some (.bool (f k)) := by rw [kW.cell]; exact hcs.out k hlt
   have hstep := Lib.hid (show setF f (k + 1) = _ from rfl)
   have hl512 : (setF f k).length ≤ 1024 := by
    have := (hok.out k)
    have h := form_len2 (setF f k) (-1) k (fun x hx => ⟨(this.wid x hx).2.1, (this.wid x hx).2.2⟩) this.form (by omega)
    omega
   cases hfk : f k with
   | false =>
    rw [hfk] at hck
    have hS : Hid (setF f (k + 1) = setF f k) := Lib.hid (by rw [setF, if_neg (by simp [hfk])])
    go_wp2_with fail
    go_roundw
    case rel => exact ⟨k + 1, by omega, by simp, by rw [hS.out]; exact hrow, kW, hB⟩
    case measure => simp [intOf]; omega
   | true =>
    rw [hfk] at hck
    by_cases hk0 : 0 < k
    case neg =>
     have hk0' : decide (0 < (k : Int)) = false := by simp; omega
     have hk0n : decide (0 < k) = false := by simp; omega
     have hS : Hid (setF f (k + 1) = setF f k ++ [((k : Int), 1)]) := Lib.hid (by rw [setF, if_pos hfk, if_neg (by simp; omega)])
     have kN := Blk.new wr 140 #[.int .i64 (k : Int), .int .i64 1]
     go_wp2_with (refine wpList_append_own _ rfl (.tmp 9) (.tmp 12) 41 rfl (w.heap.size + 1) 140 i0 (.agg #[.int .i64 0, .int .i64 0]) 2 16 Tryz.underlying41 hi hz0 hz1 hz2 rfl (by decide) _ (setF f k).length (spCells (setF f k)) rfl (hrow.alloc _) ⟨wr.heap.size, 0, none⟩ 1 1 [.int .i64 (k : Int), .int .i64 1] rfl rfl (news_two kN) news_one2 (by unfold maxLen; omega) (by omega) (by simp; omega) ?_; intro v' w1 hown' hgrow _; rw [← spCells_snoc (setF f k) ((k : Int), 1), ← hS.out] at hown')
     have hne1 := (hrow.alloc (.cells #[.int .i64 (k : Int), .int .i64 1] 140)).lt
     go_roundw
     case rel => exact ⟨k + 1, by omega, by simp, by rw [show (setF f (k + 1)).length = (setF f k).length + 1 by rw [hS.out]; simp]; exact hown', (kW.alloc _).grown hgrow (fun e => by have := (hrow.lt _ e.symm).1; omega), (hB.alloc hBs _).grown hgrow (by simp; omega) (fun j hj => by have := (hrow.lt j hj).1; omega)⟩
     case measure => simp [intOf]; omega
    case pos =>
     have hk0' : decide (0 < (k : Int)) = true := by simp; omega
     have hk0n : decide (0 < k) = true := by simp; omega
     have hkp : wr.cell? ⟨w.heap.size, k - 1, none⟩ = some (.bool (f (k - 1))) := by rw [kW.cell]; exact hcs.out (k - 1) (by omega)
     cases hfp : f (k - 1) with
     | false =>
      rw [hfp] at hkp
      have hS : Hid (setF f (k + 1) = setF f k ++ [((k : Int), 1)]) := Lib.hid (by rw [setF, if_pos hfk, if_neg (by simp [hfp])])
      have kN := Blk.new wr 140 #[.int .i64 (k : Int), .int .i64 1]
      go_wp2_with (refine wpList_append_own _ rfl (.tmp 9) (.tmp 12) 41 rfl (w.heap.size + 1) 140 i0 (.agg #[.int .i64 0, .int .i64 0]) 2 16 Tryz.underlying41 hi hz0 hz1 hz2 rfl (by decide) _ (setF f k).length (spCells (setF f k)) rfl (hrow.alloc _) ⟨wr.heap.size, 0, none⟩ 1 1 [.int .i64 (k : Int), .int .i64 1] rfl rfl (news_two kN) news_one2 (by unfold maxLen; omega) (by omega) (by simp; omega) ?_; intro v' w1 hown' hgrow _; rw [← spCells_snoc (setF f k) ((k : Int), 1), ← hS.out] at hown')
      have hne1 := (hrow.alloc (.cells #[.int .i64 (k : Int), .int .i64 1] 140)).lt
      go_roundw
      case rel => exact ⟨k + 1, by omega, by simp, by rw [show (setF f (k + 1)).length = (setF f k).length + 1 by rw [hS.out]; simp]; exact hown', (kW.alloc _).grown hgrow (fun e => by have := (hrow.lt _ e.symm).1; omega), (hB.alloc hBs _).grown hgrow (by simp; omega) (fun j hj => by have := (hrow.lt j hj).1; omega)⟩
      case measure => simp [intOf]; omega
     | true =>
      rw [hfp] at hkp
      obtain ⟨r, x, hrx, hxe⟩ := (hok.out k).last hk0 hfp
      have hwx := (hok.out k).wid x (by rw [hrx]; simp)
      have hS : Hid (setF f (k + 1) = r ++ [(x.1, x.2 + 1)]) := Lib.hid (by rw [setF, if_pos hfk, if_pos (by simp [hfp]; omega), hrx, bump_snoc])
      rw [hrx] at hrow hl512
      clear hrx hstep
      obtain ⟨xa, xb⟩ := x
      dsimp only at hwx hxe
      rw [List.length_append, List.length_singleton] at hrow hl512
      obtain ⟨g, cap, rfl⟩ := ownsRow_succ hrow
      have hgb := (hrow.lt g rfl).1
      have hcx : wr.cell? ⟨g, r.length * 2 + 1, none⟩ = some (.int .i64 xb) := by
       rw [hrow.cellAt _ (by omega), spCells_snoc, List.getElem?_append_right (by rw [spCells_len]; omega), spCells_len]
       simp
      have hfx := hrow.frozenAt (r.length * 2 + 1)
      obtain ⟨hst, hgr⟩ := hrow.stored (r.length * 2 + 1) (.int .i64 (xb + 1))
      rw [spCells_set] at hst
      obtain ⟨rl, hrl⟩ : ∃ rl, r.length = rl := ⟨_, rfl⟩
      rw [hrl] at hcx hfx hst hgr hl512 ⊢
      have hrl' := Lib.hid hrl
      clear hrl hrow
      go_wp2_with fail
      go_roundw
      case rel => exact ⟨k + 1, by omega, by simp, by rw [hS.out]; simpa [hrl'.out] using hst, kW.grown hgr (fun e => by cases e; omega), hB.grown hgr hBs (fun j hj => by cases hj; omega)⟩
      case measure => simp [intOf]; omega
  ·obtain rfl : k = 1024 := by omega
   obtain ⟨A, cap, rfl, hru, h1, h2, h3, _⟩ := own_RU hrow rfl
   have hE : Hid (SA = setF f 1024) := Lib.hid (by rw [← hSA'.out]; rfl)
   go_wp2_with fail
   go_ret
   rw [hE.out]
   exact ⟨A, cap, rfl, hru, h1, h2, fun b o e => by have := h3 b o e; omega, hB⟩
end Go.Proofs.YtjmmgoijnhnnaaaGreat
namespace Go.Pol
open Go Go.RowKit
theorem pagesX_succ (x : Sp) (j : Nat) : pagesX x (j + 1) = pagesX x j ++ [x.1 + (j : Int)] := by simp [pagesX, List.range_succ]
theorem pagesOf_nil : pagesOf [] = [] := rfl
theorem pagesOf_append (l r : List Sp) : pagesOf (l ++ r) = pagesOf l ++ pagesOf r := by simp [pagesOf]
theorem ints_one {a : Int} : ∀ u ∈ [Value.int .i64 a], u.oneCell' = true := by
 intro u hu; simp only [List.mem_cons, List.not_mem_nil, or_false] at hu; subst hu; rfl
theorem news_i {w : World} {g : Nat} {t : TypeId} {a : Int} (h : Blk w g t #[.int .i64 a]) : ∀ (j : Nat) (u : Value), [Value.int .i64 a][j]? = some u → w.cell? ((⟨g, 0, none⟩ : Addr).add j) = some u := by
 intro j u hu
 rw [addr_add0, Nat.zero_add, h.cell]
 simpa using hu
theorem own_RIx {w : World} {base : Nat} {e : TypeId} {v : Value} {n : Nat} {xs : List Int} (h : w.ownsRow base e 1 v n (xs.map (Value.int .i64))) (hn : xs.length = n) : ∃ (A : Option Addr) (cap : Nat), v = .slice A n cap ∧ RI w w.heap.size A xs := by
 have hv := h
 rcases h.2 with ⟨rfl, h0⟩ | ⟨g, cap, cur, rfl, hg, hk, _⟩
 ·subst h0
  obtain rfl : xs = [] := List.eq_nil_of_length_eq_zero hn
  exact ⟨none, 0, rfl, RI.nil⟩
 ·refine ⟨_, cap, rfl, fun k hk' => ?_⟩
  have hk2 : k < xs.length := by simpa using hk'
  have hc := hv.cellAt k (by omega)
  refine ⟨g, 0, rfl, Blk.lt hk, ?_⟩
  rw [Nat.zero_add, hc]
  exact List.getElem?_eq_getElem hk'
end Go.Pol
namespace Go.Proofs.YtjmmgoijnhnnaaaGreat
open Go Go.Proofs Go.RowKit Go.Pol
theorem infoIn : (Tryz.prog.info? 3).map (fun i => (i.zero, i.size, i.bytes)) = some (some (.int .i64 0), 1, 8) := by kernel_rfl
set_option maxRecDepth 100000 in
set_option maxHeartbeats 1600000 in
theorem refPages_any (A : Option Addr) (n cap : Nat) (us : List Sp) (w : World) (hn : us.length = n) (hm : n ≤ maxLen) (hr : RU w w.heap.size A us) (hu : Go.Pol.Can us) (L : List Int) (hL : pagesOf us = L) :
  Calls Tryz.prog 111 #[.slice A n cap] w fun e w' => ∃ (A' : Option Addr) (cap' : Nat), e = .returned (.slice A' L.length cap') ∧ RI w' w'.heap.size A' L ∧ Below w.heap.size w w' := by
 obtain ⟨i0, hi, hz0, hz1, hz2⟩ := info_parts infoIn
 have hc := refSpCheck_any A n cap us w hn hm hr
 rw [chkS_zero.2 hu] at hc
 have HC := Lib.hid hc
 clear hc
 have hlen := hu.len
 have hvl := Lib.hid hu.1
 have hn' := Lib.hid hn
 have hL' := Lib.hid hL
 clear hL
 have hn512 : n ≤ 512 := by omega
 clear hn hu
 go_enter Tryz.func111, Tryz.ntmps111
 go_wp2_with (go_at_call 100; refine (HC.out).mono ?_; rintro e w1 ⟨rfl, hq⟩)
 go_loopw [3, 4] (fun v i wr => ∃ (k : Nat) (xs : List Int), k ≤ n ∧ i = .int .i64 k ∧ Hid (xs = pagesOf (us.take k)) ∧ xs.length ≤ 1024 * k ∧ wr.ownsRow w.heap.size 3 1 v xs.length (xs.map (Value.int .i64)) ∧ Below w.heap.size w wr) (fun _ i _ => n - (intOf i).toNat)
 case atStart => exact ⟨0, [], by omega, rfl, Lib.hid (by simp [pagesOf]), by simp, World.ownsRow_nil _ _ _ _, hq⟩
 case round =>
  obtain ⟨k, xs, hk, rfl, hX, hxl, hrow, hB⟩ := hrel
  have hBs := hB.size
  by_cases hlt : k < n
  ·have hlt' : decide ((k : Int) < (n : Int)) = true := by simp; omega
   obtain ⟨b, o, rfl, hbl, hcw, hdw⟩ := RU.at_' hr (k := k) (by have := hn'.out; omega)
   have hvx := vld_iff.1 (hvl.out (us.getD k (0,0)) (by rw [List.getD_eq_getElem?_getD, List.getElem?_eq_getElem (by have := hn'.out; omega)]; simp))
   have htk := Lib.hid (take_snoc us k (by have := hn'.out; omega))
   generalize us.getD k (0,0) = x at *
   obtain ⟨xa, xb⟩ := x
   dsimp only at hcw hdw hvx
   have hc := (hB.cell (p := ⟨b, o + k * 2, none⟩) hbl).trans hcw
   have hd := (hB.cell (p := ⟨b, o + k * 2 + 1, none⟩) hbl).trans hdw
   go_wp2_with fail
   go_loopw [3, 5] (fun v p wr => ∃ (j : Nat) (ys : List Int), (j : Int) ≤ xb ∧ p = .int .i64 (xa + j) ∧ Hid (ys = xs ++ pagesX (xa, xb) j) ∧ ys.length ≤ 1024 * k + j ∧ wr.ownsRow w.heap.size 3 1 v ys.length (ys.map (Value.int .i64)) ∧ Below w.heap.size w wr) (fun _ p _ => (xa + xb - intOf p).toNat)
   case atStart => exact ⟨0, xs, by omega, by simp, Lib.hid (by simp [pagesX]), by omega, hrow, hB⟩
   case round =>
    obtain ⟨j, ys, hj, rfl, hY, hyl, hrow, hB⟩ := hrel
    have hBs := hB.size
    have hc := (hB.cell (p := ⟨b, o + k * 2, none⟩) hbl).trans hcw
    have hd := (hB.cell (p := ⟨b, o + k * 2 + 1, none⟩) hbl).trans hdw
    have e1 := fun z : Ext wr => z.cell hc
    have e2 := fun z : Ext wr => z.cell hd
    by_cases hjx : (j : Int) < xb
    ·have hj' : decide (xa + (j : Int) < xa + xb) = true := by simp; omega
     have hY2 : Hid (ys ++ [xa + (j : Int)] = xs ++ pagesX (xa, xb) (j + 1)) := Lib.hid (by rw [hY.out, pagesX_succ, List.append_assoc])
     go_upto_region 8 with fail
     refine region_ext (by kernel_rfl) (by kernel_rfl) ?_
     repeat (go_big_quiet_step (fail))
     refine wpQuiet_nil ?_
     rintro w2 ⟨⟨_, hw2⟩, rfl⟩
     have hrow2 := ownsRow_call hrow hw2
     have hB2 := hB.trans (hw2.mono hBs)
     have hBs2 := hB2.size
     have kN := Blk.new w2 3 #[.int .i64 (xa + (j : Int))]
     go_wp2_with (refine wpList_append_own _ rfl (.tmp 35) (.tmp 37) 84 rfl w.heap.size 3 i0 (.int .i64 0) 1 8 Tryz.underlying84 hi hz0 hz1 hz2 rfl (by decide) _ ys.length (ys.map (Value.int .i64)) rfl (hrow2.alloc _) ⟨w2.heap.size, 0, none⟩ 1 1 [.int .i64 (xa + (j : Int))] rfl rfl (news_i kN) ints_one (by unfold maxLen; omega) (by omega) (by simp; omega) ?_; intro v' w3 hown' hgrow _)
     go_roundw
     case rel => exact ⟨j + 1, ys ++ [xa + (j : Int)], by omega, by go_num, hY2, by simp; omega, by simpa using hown', (hB2.alloc hBs2 _).grown hgrow (by simp; omega) (fun i hi => (hrow2.lt i hi).1)⟩
     case measure => simp [intOf]; omega
    ·have hj' : decide (xa + (j : Int) < xa + xb) = false := by simp; omega
     have hjx2 : xb.toNat = j := by omega
     have hX2 : Hid (ys = pagesOf (us.take (k + 1))) := Lib.hid (by rw [hY.out, hX.out, htk.out, pagesOf_append, pagesOf_cons, pagesOf_nil, List.append_nil]; rw [← hjx2])
     go_upto_region 8 with fail
     refine region_ext (by kernel_rfl) (by kernel_rfl) ?_
     repeat (go_big_quiet_step (fail))
     refine wpQuiet_nil ?_
     rintro w2 ⟨⟨_, hw2⟩, rfl⟩
     have hrow2 := ownsRow_call hrow hw2
     have hB2 := hB.trans (hw2.mono hBs)
     go_wp2_with fail
     go_roundw
     case rel => exact ⟨k + 1, ys, by omega, by simp, hX2, by omega, hrow2, hB2⟩
     case measure => simp [intOf]; omega
  ·have hlt' : decide ((k : Int) < (n : Int)) = false := by simp; omega
   have hE : Hid (xs = L) := Lib.hid (by rw [hX.out, List.take_of_length_le (by have := hn'.out; omega)]; exact hL'.out)
   rw [hE.out] at hrow
   obtain ⟨A', cap', rfl, hri⟩ := own_RIx hrow rfl
   clear hX hxl hE
   go_wp2_with fail
   go_ret
   exact ⟨A', cap', rfl, hri, hB⟩
end Go.Proofs.YtjmmgoijnhnnaaaGreat
namespace Go.Pol
open Go Go.RowKit
theorem rangeAt_blk {w : World} {g : Nat} {t : TypeId} {cs : Array Value} (h : Blk w g t cs) : w.rangeAt g 0 cs.toList := fun j v hj => by
 rw [Nat.zero_add, h.cell]; simpa using hj
def setM (pg n f b ev : Int) (us : Bool) (j : Nat) (q : Nat) : Bool := decide (pg ≤ (q : Int) ∧ (q : Int) < pg + j) && ((kindG pg n f b ev q == 0) == us)
end Go.Pol
namespace Go.Proofs.YtjmmgoijnhnnaaaGreat
open Go Go.Proofs Go.RowKit Go.Pol
theorem zeros_are : MarksAre Tryz.zeroCells231 (fun _ => false) := by
 have e : Tryz.zeroCells231 = Array.replicate 1024 (.bool false) := by kernel_rfl
 rw [e]
 exact ⟨by simp, fun k hk => by simp [hk]⟩
set_option maxRecDepth 100000 in
set_option maxHeartbeats 1600000 in
theorem refset_any (pg n f b ev : Int) (us : Bool) (w : World) (hp : PlanOk pg n f b ev) (S : List Sp) (hS : setA (setM pg n f b ev us n.toNat) = S) :
  Calls Tryz.prog 112 #[planV pg n f b ev, .bool us] w (SpansO w S) := by
 have HK := Lib.hid (fun q W h0 h1 => kind_any pg n f b ev q W hp h0 h1)
 have HSet := Lib.hid (fun cs f W h => refSet_any cs f W h)
 obtain ⟨p1, p2, p3, p4, p5, p6, p7, p8, p9, p10, p11⟩ := hp
 obtain ⟨s, hs⟩ : ∃ s, w.heap.size = s := ⟨_, rfl⟩
 obtain ⟨W0, hW0⟩ : ∃ W0, (w.alloc (.cells (planC pg n f b ev) 25)).alloc (.cells Tryz.zeroCells231 231) = W0 := ⟨_, rfl⟩
 have hb0 : Below s w W0 := by rw [← hW0, ← hs]; exact ((Below.refl w.heap.size w).alloc (Nat.le_refl _) _).alloc (by simp) _
 have kP : Blk W0 s 25 (planC pg n f b ev) := by rw [← hW0, ← hs]; exact (Blk.new _ _ _).alloc _
 have kM : Blk W0 (s + 1) 231 Tryz.zeroCells231 := by
  have := Blk.new (w.alloc (.cells (planC pg n f b ev) 25)) 231 Tryz.zeroCells231
  rw [World.size_alloc, hs, hW0] at this; exact this
 have hZ := zeros_are
 have hS' := Lib.hid hS
 have hW1 := Lib.hid hW0
 clear hS hW0
 go_enter Tryz.func112, Tryz.ntmps112
 go_upto_region 2 with fail
 try simp only [Nat.add_assoc, Nat.reduceAdd]
 rw [hW1.out]
 have cP0 := kP.cell
 generalize Tryz.zeroCells231 = Z at *
 clear hW1
 go_wp2_with fail
 go_loopw [6] (fun i wr => ∃ (j : Nat) (cs : Array Value), (j : Int) ≤ n ∧ i = .int .i64 (pg + j) ∧ Blk wr s 25 (planC pg n f b ev) ∧ Blk wr (s + 1) 231 cs ∧ MarksAre cs (setM pg n f b ev us j) ∧ Below s w wr) (fun i _ => (pg + n - intOf i).toNat)
 case atStart => exact ⟨0, Z, by omega, by simp, kP, kM, ⟨hZ.size, fun k hk => by rw [hZ.at_ k hk]; simp [setM]; omega⟩, hb0⟩
 case round =>
  obtain ⟨j, cs, hj, rfl, kP, kM, hM, hB⟩ := hrel
  have cP := kP.cell
  have hBs := hB.size
  have hwl := kM.lt
  by_cases hlt : (j : Int) < n
  ·have hlt' : decide (pg + (j : Int) < pg + n) = true := by simp; omega
   have hKK := Lib.hid (fun W => HK.out (pg + j) W (by omega) (by omega))
   have hst := Lib.hid (hM.set (g := setM pg n f b ev us (j + 1)) (pg + j).toNat (by omega) ((kindG pg n f b ev (pg + j) == 0) == us) (by
    have e : (((pg + (j : Int)).toNat : Nat) : Int) = pg + j := by omega
    simp only [setM, e]
    rw [decide_eq_true (by omega), Bool.true_and]) (fun k hk => by
    simp only [setM]
    congr 1
    exact decide_eq_decide.2 (by omega)))
   have hold := hM.at_ (pg + j).toNat (by omega)
   generalize setM pg n f b ev us j (pg + (j : Int)).toNat = B0 at hold
   generalize kindG pg n f b ev (pg + j) = K at *
   have hN : (pg + (j : Int) + 1) = pg + ((j + 1 : Nat) : Int) := by omega
   have hN' := Lib.hid hN
   clear hN
   go_wp2_with (go_at_call 171; refine (hKK.out _).mono ?_; rintro e w1 ⟨rfl, hq⟩; have kP1 := kP.call hq; have kM1 := kM.call hq; have fM1 := kM1.frozen; have cM1 : w1.cell? ⟨s + 1, (pg + (j : Int)).toNat, none⟩ = some (.bool B0) := (kM1.cell _).trans hold)
   have hf4 : Far (fun k => k = s + 1) w1 (w1.setCell ⟨s + 1, (pg + (j : Int)).toNat, none⟩ (.bool ((K == 0) == us))) := Far.setCell (T := fun k => k = s + 1) (p := ⟨s + 1, (pg + (j : Int)).toNat, none⟩) (Far.refl _ _) (fun _ => rfl) _
   have hB1 := hB.trans (hq.mono (by omega))
   go_roundw
   case rel => exact ⟨j + 1, _, by omega, by rw [hN'.out], hf4.blk kP1 (by omega), kM1.set_ _ _, hst.out, hB1.trans (hf4.below (by have := hB1.size; omega) (fun k hk => by omega))⟩
   case measure => simp [intOf]; omega
  ·have hlt' : decide (pg + (j : Int) < pg + n) = false := by simp; omega
   have hjn : n.toNat = j := by omega
   rw [hjn] at hS'
   have HS2 := Lib.hid (fun W => HSet.out cs _ W hM)
   rw [hS'.out] at HS2
   have hsz := hM.size
   go_wp2_with (first
    | (refine wpList_load_mid rfl 231 (.tmp 5) rfl (s + 1) 0 rfl cs.toList _ (rangeAt_blk kM) Tryz.underlying231 rfl (by rw [Array.length_toList, hsz]; kernel_rfl) ?_; rw [Array.toArray_toList])
    | (go_at_call 156; refine (HS2.out _).mono ?_; rintro e w2 ⟨A, cap, rfl, hru, h1, h2, h3, hq2⟩))
   go_ret
   exact ⟨A, cap, rfl, hru, h1, h2, fun b o e => by have := h3 b o e; omega, by rw [hs]; exact hB.trans (hq2.mono (by omega))⟩
end Go.Proofs.YtjmmgoijnhnnaaaGreat
namespace Go.Pol
open Go
section
variable {pg n f b ev : Int}
theorem setM_true (hp : PlanOk pg n f b ev) : setA (setM pg n f b ev true n.toNat) = runsL pg n f b ev := by
 refine ((runsL_can hp).eq_setA _ fun p hp2 => ?_).symm
 have h := kindG_zero hp (p : Int)
 have hr := (runsL_ok hp).2.2 (p : Int)
 have a1 := hp.f0; have a2 := hp.b0; have a3 := hp.n0
 rw [Bool.eq_iff_iff]
 simp only [setM, Bool.and_eq_true, decide_eq_true_eq, beq_iff_eq]
 rw [← h]
 constructor
 ·rintro ⟨_, h2⟩; simpa using h2
 ·intro h2
  have := hr.1 (h.1 h2)
  refine ⟨by omega, by simpa using h2⟩
end
end Go.Pol
namespace Go.Proofs.YtjmmgoijnhnnaaaGreat
open Go Go.Proofs Go.RowKit Go.Pol
section
variable {pg n f b ev : Int}
theorem has_one {s : List Sp} (hs : Go.Pol.Can s) {p : Int} (hv : vld (p, 1) = true) : (gapsF s (p, 1)).isEmpty = mem p s := by
 obtain ⟨hg, hm⟩ := hs.gaps hv
 cases hp : mem p s with
 | true =>
  have h0 : gapsF s (p, 1) = [] := hg.eq ⟨by simp, rfl⟩ fun q => by
   rw [mem_nil]
   cases hq : mem q (gapsF s (p, 1)) with
   | false => rfl
   | true =>
    have h := (hm q).1 hq
    simp only at h
    have e : q = p := by omega
    rw [e, hp] at h; cases h.2
  rw [h0]; rfl
 | false =>
  have h1 : mem p (gapsF s (p, 1)) = true := (hm p).2 ⟨by simp only; omega, hp⟩
  cases hG : gapsF s (p, 1) with
  | nil => rw [hG, mem_nil] at h1; cases h1
  | cons => rfl
end
end Go.Proofs.YtjmmgoijnhnnaaaGreat
namespace Go.Pol
open Go Go.RowKit
def xPost {α : Type} (D : Nat) (K X : Nat → Prop) (I : (Nat → Prop) → List α → World → Prop) (Ix : Code → (Nat → Prop) → List α → World → Prop) (xs : List α) (W : World) : Exit → Act → World → Prop
 | .normal, _, W' => Far (fun k => ¬ (K k ∨ X k ∨ k = D ∨ k = D + 1)) W W' ∧ I X xs W'
 | .ret, _, W' => Far (fun k => ¬ (k = D ∨ k = D + 1)) W W' ∧ Ix .ret X xs W'
 | .exit id, _, W' => Far (fun k => ¬ (k = D ∨ k = D + 1)) W W' ∧ Ix (.exit id) X xs W'
 | .goto t, _, W' => Far (fun k => ¬ (k = D ∨ k = D + 1)) W W' ∧ Ix (.goto t) X xs W'
 | .panic _, _, _ => False
 | .outgrown, _, _ => False
theorem rangeX {α : Type} {P : Program} {g : Operand} {ps : Array Tmp} {assign body : Code} {Q : Exit → Act → World → Prop} {a : Act} {w : World}
  {gf : Nat} {lb : Array Value} (hg : a.eval g = .func (.func gf) #[] lb) (eg : ∀ args w, (callFunc gf args).run P w = .ok (.enter gf args) w)
  {encs : α → Array Value} {T K : Nat → Prop} {xs : List α} (hseq : SeqX P gf lb encs T K xs w) (hps : ∀ x, (encs x).size = ps.size)
  (hT : ∀ k, T k → k < w.heap.size) (hK : ∀ k, K k → k < w.heap.size)
  (I : (Nat → Prop) → List α → World → Prop) (Ix : Code → (Nat → Prop) → List α → World → Prop)
  (hI : ∀ X pre A B, I X pre A → Far (fun k => T k ∨ X k ∨ k = w.heap.size ∨ k = w.heap.size + 1) A B → I X pre B)
  (hIx : ∀ c X pre A B, Ix c X pre A → Far (fun k => T k ∨ X k ∨ k = w.heap.size ∨ k = w.heap.size + 1) A B → Ix c X pre B)
  (hnew : ∀ X X' pre A, I X pre A → (∀ k, X' k → X k ∨ A.heap.size ≤ k) → I X' pre A)
  (h0 : I (fun _ => False) [] w) (Ax : Nat → α → Act → World → Prop) (hAx : ∀ N x a' A B, Ax N x a' A → Far (fun k => k = w.heap.size + 1) A B → Ax N x a' B)
  (hassign : ∀ (m l : Nat) (x : α) (W : World) (C : Act → World → Prop), w.heap.size + 2 ≤ W.heap.size → (∀ a' W', Far (fun _ => False) W W' → Ax W.heap.size x a' W' → C a' W') →
   assign.wpIn (Fence.wide.inRound l) m P (Exit.then C (fun _ _ _ => False)) { tmps := (ps.zip (encs x)).foldl (fun t (p, v) => t.setIfInBounds p v) a.tmps, defers := [] } W)
  (hbody : ∀ (m l : Nat) (X : Nat → Prop) (pre : List α) (x : α) (a' : Act) (Wa W : World), w.heap.size + 2 ≤ W.heap.size → (∀ k, X k → k < Wa.heap.size ∧ k ≠ w.heap.size ∧ k ≠ w.heap.size + 1) → I X pre W → Ax Wa.heap.size x a' W → pre ++ [x] <+: xs → I X pre Wa → Far (fun k => k = w.heap.size + 1) Wa W →
   body.wpIn (Fence.wide.inRound l) m P (xPost w.heap.size K X I Ix (pre ++ [x]) W) a' W)
  (hdone : ∀ (X : Nat → Prop) (W : World), w.heap.size + 2 ≤ W.heap.size → I X xs W → W.heap[w.heap.size]? = some (.deferred (some [])) → Q .normal { a with defers := markOf w.heap.size :: a.defers } W)
  (hstop : ∀ (c : Code) (X : Nat → Prop) (pre : List α) (W : World), w.heap.size + 2 ≤ W.heap.size → pre <+: xs → Ix c X pre W → W.heap[w.heap.size]? = some (.deferred (some [])) → c.wp P Q { a with defers := markOf w.heap.size :: a.defers } W) :
  (Code.rangeFunc g ps assign body).wp P Q a w := by
 refine (wpIn_wide (n := 0)).1 (wpIn_rangeFunc fun fn _ => ?_)
 obtain ⟨D, hD⟩ : ∃ D, w.heap.size = D := ⟨_, rfl⟩
 -- the loop's record, in its three states
 obtain ⟨rec, hrec⟩ : ∃ rec : LoopState → Option Code → Loop, rec = fun s p => { state := s, pending := p, fn, tmps := a.tmps, params := ps, assign, body, defers := D } := ⟨_, rfl⟩
 obtain ⟨W1, hW1⟩ : ∃ W1, (w.alloc (.deferred (some []))).alloc (.loop (rec .ready none)) = W1 := ⟨_, rfl⟩
 have hent : (Instr.enterLoop fn a.tmps ps assign body none).run P w = .ok (D + 1, [markOf D]) W1 := by
  rw [← hW1, hrec, ← hD]; exact run_enterLoop_outer _ _ _ _ _
 have hfar : Far (fun _ => False) w W1 := by rw [← hW1]; exact ((Far.refl _ w).alloc _).alloc _
 have hl1 : W1.heap[D + 1]? = some (.loop (rec .ready none)) := by
  rw [← hW1, ← hD]
  have := World.alloc_heap_new (w.alloc (.deferred (some []))) (.loop (rec .ready none))
  rwa [World.size_alloc] at this
 have hd1 : W1.heap[D]? = some (.deferred (some [])) := by
  rw [← hW1, ← hD]; exact (Below.heap_alloc _ _ _ (by simp)).trans (World.alloc_heap_new w _)
 rw [hD] at hT hK hI hIx hAx hassign hbody hdone hstop
 refine ⟨D + 1, [markOf D], W1, { target := .fn (.func gf) lb, args := #[.func (.yield (D + 1)) #[] #[]] }, W1, gf, #[.func (.yield (D + 1)) #[] #[]] ++ lb, W1, hent, ?_, fun _ _ => trivial, ?_, fun h => (by cases h), ?_⟩
 ·simp only [resolve, hg]
  simp [go_sem]
 ·simp [invoke, go_sem, eg]
 -- what the iterator carries: the loop's invariant, the record, the block for deferred calls
 let J : (Nat → Prop) → List α → World → Prop := fun X pre W => I X pre W ∧ W.heap[D + 1]? = some (.loop (rec .ready none)) ∧ W.heap[D]? = some (.deferred (some [])) ∧ ¬ X D ∧ ¬ X (D + 1)
 let Jx : (Nat → Prop) → List α → World → Prop := fun X pre W => ∃ c, Ix c X pre W ∧ W.heap[D + 1]? = some (.loop (rec .done (some c))) ∧ W.heap[D]? = some (.deferred (some [])) ∧ ¬ X D ∧ ¬ X (D + 1)
 have hnT : ∀ k, T k → k ≠ D ∧ k ≠ D + 1 := fun k hk => by have := hT k hk; omega
 have hnK : ∀ k, K k → k ≠ D ∧ k ≠ D + 1 := fun k hk => by have := hK k hk; omega
 have up : ∀ {X : Nat → Prop} {k : Nat}, T k ∨ X k → T k ∨ X k ∨ k = D ∨ k = D + 1 := fun h => h.elim .inl (fun h => .inr (.inl h))
 refine (hseq _ (D + 1) J Jx W1 (hfar.mono (fun _ _ h => h.elim))
  (fun X pre A B h hf => ⟨hI X pre A B h.1 (hf.mono fun _ _ ht => up ht), hf.same h.2.1 (fun h' => h'.elim (fun h => (hnT _ h).2 rfl) h.2.2.2.2), hf.same h.2.2.1 (fun h' => h'.elim (fun h => (hnT _ h).1 rfl) h.2.2.2.1), h.2.2.2⟩)
  (fun X pre A B h hf => by
   obtain ⟨c, h1, h2, h3, h4, h5⟩ := h
   exact ⟨c, hIx c X pre A B h1 (hf.mono fun _ _ ht => up ht), hf.same h2 (fun h' => h'.elim (fun h => (hnT _ h).2 rfl) h5), hf.same h3 (fun h' => h'.elim (fun h => (hnT _ h).1 rfl) h4), h4, h5⟩)
  (fun X X' pre A h hX => by
   have l1 : D < A.heap.size := (Array.getElem?_eq_some_iff.1 h.2.2.1).1
   have l2 : D + 1 < A.heap.size := (Array.getElem?_eq_some_iff.1 h.2.1).1
   exact ⟨hnew X X' pre A h.1 hX, h.2.1, h.2.2.1, fun hd => (hX _ hd).elim h.2.2.2.1 (fun h => by omega), fun hd => (hX _ hd).elim h.2.2.2.2 (fun h => by omega)⟩)
  ?_ ⟨hI _ [] w W1 h0 (hfar.mono fun _ _ h => h.elim), hl1, hd1, id, id⟩).mono ?_
 ·-- a round
  rintro m X pre x Wa ⟨hi, hl, hd, hXD, hXE⟩ hXlt hpre
  have hlt : D + 1 < Wa.heap.size := (Array.getElem?_eq_some_iff.1 hl).1
  have hy := run_yield (P := P) (args := encs x) hl (by rw [hrec]; exact hps x)
  rw [hrec] at hy
  refine ⟨fn, _, assign, body, hy, roundIn_of_wpIn trivial (hassign m (D + 1) x Wa _ (by omega) fun a' Wb hab hax => ?_)⟩
  have hlb := hab.same hl id
  have hdb := hab.same hd id
  have hib := hI X pre Wa Wb hi (hab.mono fun _ _ h => h.elim)
  have hltb : D + 1 < Wb.heap.size := (Array.getElem?_eq_some_iff.1 hlb).1
  refine ⟨_, run_beginRound hlb (by rw [hrec]), ?_⟩
  obtain ⟨Wc, hWc⟩ : ∃ Wc, Wb.putObj (D + 1) (.loop { rec .ready none with state := .busy }) = Wc := ⟨_, rfl⟩
  rw [hWc]
  have hbc : Far (fun k => k = D + 1) Wb Wc := by rw [← hWc]; exact Far.putObj (T := fun k => k = D + 1) (Far.refl _ Wb) (fun _ => rfl) _
  have hlc : Wc.heap[D + 1]? = some (.loop { rec .ready none with state := .busy }) := by rw [← hWc]; exact World.putObj_heap_same hltb
  have hdc : Wc.heap[D]? = some (.deferred (some [])) := hbc.same hdb (by omega)
  have hltc : D + 1 < Wc.heap.size := (Array.getElem?_eq_some_iff.1 hlc).1
  refine wpIn_mono (hbody m (D + 1) X pre x a' Wa Wc (by omega) (fun k hk => ⟨hXlt k hk, fun h => hXD (h ▸ hk), fun h => hXE (h ▸ hk)⟩) (hI X pre Wb Wc hib (hbc.mono fun _ _ h => .inr (.inr (.inr h)))) (hAx _ x a' Wb Wc hax hbc) hpre hi ((hab.mono fun _ _ h => h.elim : Far (fun k => k = D + 1) Wa Wb).trans hbc)) ?_
  -- what 'endRound' makes of it
  have fin : ∀ (j : Option Code) (Wd : World), Far (fun k => ¬ (k = D ∨ k = D + 1)) Wc Wd →
    (Instr.endRound (D + 1) j).run P Wd = .ok (.bool j.isNone) (Wd.putObj (D + 1) (.loop (rec (if j.isNone then .ready else .done) j))) ∧
    (Wd.putObj (D + 1) (.loop (rec (if j.isNone then .ready else .done) j))).heap[D + 1]? = some (.loop (rec (if j.isNone then .ready else .done) j)) ∧
    (Wd.putObj (D + 1) (.loop (rec (if j.isNone then .ready else .done) j))).heap[D]? = some (.deferred (some [])) := fun j Wd hcd => by
   have hld := hcd.same hlc (fun h => h (.inr rfl))
   have he := run_endRound (P := P) j hld
   rw [hrec] at he ⊢
   exact ⟨he, World.putObj_heap_same (Array.getElem?_eq_some_iff.1 hld).1, (World.putObj_heap_other (by omega)).trans (hcd.same hdc (fun h => h (.inl rfl)))⟩
  have back : ∀ (Y : Nat → Prop) (o : Obj) (Wd : World), Far (fun k => T k ∨ Y k ∨ k = D ∨ k = D + 1) Wd (Wd.putObj (D + 1) o) := fun Y o Wd => (Far.refl _ Wd).putObj (fun _ => .inr (.inr (.inr rfl))) o
  intro e a3 Wd hp
  cases e with
  | normal =>
   obtain ⟨hcd, hid⟩ := hp
   obtain ⟨h1, h2, h3⟩ := fin none Wd (hcd.mono fun k _ h h' => h (.inr (.inr h')))
   refine ⟨_, _, h1, .inl ⟨rfl, ⟨hI _ _ _ _ hid (back _ _ Wd), h2, h3, hXD, hXE⟩, ?_⟩⟩
   refine (((hab.mono fun _ _ h => h.elim : Far (fun k => ¬ (K k ∨ X k)) Wa Wb).trans (hbc.mono fun k _ h hk => hk.elim (fun hk => (hnK k hk).2 h) (fun hk => hXE (h ▸ hk)))).trans (hcd.mono fun k _ h hk => h (hk.elim .inl (fun h => .inr (.inl h))))).putObj (fun _ hk => hk.elim (fun hk => (hnK _ hk).2 rfl) hXE) _
  | ret =>
   obtain ⟨hcd, hid⟩ := hp
   obtain ⟨h1, h2, h3⟩ := fin (some .ret) Wd hcd
   exact ⟨_, _, h1, .inr ⟨rfl, .ret, hIx _ _ _ _ _ hid (back _ _ Wd), h2, h3, hXD, hXE⟩⟩
  | exit id =>
   obtain ⟨hcd, hid⟩ := hp
   obtain ⟨h1, h2, h3⟩ := fin (some (.exit id)) Wd hcd
   exact ⟨_, _, h1, .inr ⟨rfl, .exit id, hIx _ _ _ _ _ hid (back _ _ Wd), h2, h3, hXD, hXE⟩⟩
  | goto t =>
   obtain ⟨hcd, hid⟩ := hp
   obtain ⟨h1, h2, h3⟩ := fin (some (.goto t)) Wd hcd
   exact ⟨_, _, h1, .inr ⟨rfl, .goto t, hIx _ _ _ _ _ hid (back _ _ Wd), h2, h3, hXD, hXE⟩⟩
  | panic ch => exact hp.elim
  | outgrown => exact hp.elim
 ·-- behind the iterator
  have back : ∀ (Y : Nat → Prop) (o : Obj) (Wd : World), Far (fun k => T k ∨ Y k ∨ k = D ∨ k = D + 1) Wd (Wd.putObj (D + 1) o) := fun Y o Wd => (Far.refl _ Wd).putObj (fun _ => .inr (.inr (.inr rfl))) o
  rintro e W2 ⟨⟨v, rfl⟩, h2⟩
  rcases h2 with ⟨X, hi, hl, hd, _⟩ | ⟨X, pre, hpre, c, hi, hl, hd, _⟩
  ·have he := run_endLoop (P := P) hl (by rw [hrec]; simp)
   rw [hrec] at he
   have hlt : D + 1 < W2.heap.size := (Array.getElem?_eq_some_iff.1 hl).1
   exact ⟨none, _, he, hdone _ _ (by rw [World.putObj_size]; omega) (hI _ _ _ _ hi (back _ _ W2)) ((World.putObj_heap_other (by omega)).trans hd)⟩
  ·have he := run_endLoop (P := P) hl (by rw [hrec]; simp)
   rw [hrec] at he
   have hlt : D + 1 < W2.heap.size := (Array.getElem?_eq_some_iff.1 hl).1
   exact ⟨some c, _, he, (wpIn_wide (n := 0)).2 (hstop c _ pre _ (by rw [World.putObj_size]; omega) hpre (hIx _ _ _ _ _ hi (back _ _ W2)) ((World.putObj_heap_other (by omega)).trans hd))⟩
section
variable {P : Program} (w : World)
theorem append_block (base : Nat) (t ty e : TypeId) (i : TypeInfo) (z : Value) (size bytes : Nat) (ht : P.underlying t = some (.slice e)) (hi : P.info? e = some i) (hz : i.zero = some z)
  (hsize : i.size = size) (hby : i.bytes = bytes) (hzs : z.cells.size = size) (hsz : 0 < size)
  (v : Value) (n : Nat) (xs : List Value) (hown : w.ownsRow base e size v n xs)
  (a : Addr) (m c : Nat) (news : List Value) (hl : news.length = m * size) (hnews : ∀ j u, news[j]? = some u → w.cell? (a.add j) = some u) (h1 : ∀ u ∈ news, u.oneCell' = true)
  (h63 : n + m ≤ maxLen) (hbytes : (n + m) * bytes ≤ 140737488355328) (hbase : base ≤ w.heap.size) :
  ∃ v' w', (Builtin.append_ #[t, t] ty #[v, .slice (some a) m c]).run P w = .ok v' w' ∧ w'.ownsRow base e size v' (n + m) (xs ++ news) ∧ w.grownBy w' v.ownBlock ∧
   ∀ g, v'.ownBlock = some g → v.ownBlock = some g ∨ w.heap.size ≤ g := by
 obtain ⟨v', w', hr, r1, r2, _⟩ := run_append_own (P := P) w base t ty e i z size bytes ht hi hz hsize hby hzs hsz v n xs hown a m c news hl hnews h1 h63 hbytes hbase
 refine ⟨v', w', hr, r1, r2, fun g' hg' => ?_⟩
 have hsmall : n + m ≤ 9223372036854775807 := by simp only [maxLen] at h63; omega
 rcases hown.2 with ⟨hv, h0⟩ | ⟨g, cap, cur, hv, hbg, hg, hnc, hcm, hcs, htake⟩
 ·subst h0
  have hx : xs = [] := List.eq_nil_of_length_eq_zero (by simpa using hown.1)
  have hown2 : w.ownsRow w.heap.size e size v 0 xs := by rw [hv, hx]; exact World.ownsRow_nil _ _ _ _
  obtain ⟨v2, w2, hr2, s1, _, _⟩ := run_append_own (P := P) w w.heap.size t ty e i z size bytes ht hi hz hsize hby hzs hsz v 0 xs hown2 a m c news hl hnews h1 h63 hbytes (Nat.le_refl _)
  rw [hr] at hr2
  injection hr2 with e1 e2
  subst e1; subst e2
  exact .inr (s1.lt g' hg').1
 ·subst hsize
  subst hby
  subst hv
  by_cases hroom : n + m ≤ cap
  ·have hfit : n * i.size + news.length ≤ cur.size := by rw [hl, hcs, ← Nat.add_mul]; exact Nat.mul_le_mul_right _ hroom
   have hr2 := run_append_room (P := P) w t ty e i ht hi g n cap cur hg a m c news hl hnews h1 hroom hfit
   rw [hr] at hr2
   injection hr2 with e1 e2
   subst e1
   exact .inl hg'
  ·have holds : ∀ j u, xs[j]? = some u → w.cell? ((⟨g, 0, none⟩ : Addr).add j) = some u := hown.cells (g := g) rfl
   have hr2 := run_append_grow (P := P) w t ty e i z ht hi hz ⟨g, 0, none⟩ n cap xs hown.1 holds a m c news hl hnews (by omega) (by omega) (growslice_fits (by omega) hbytes)
   rw [hr] at hr2
   injection hr2 with e1 e2
   subst e1
   simp only [Value.ownBlock, Option.some.injEq] at hg'
   exact .inr (by omega)
end
theorem wpListIn_append_x {F : Fence} {n : Nat} {P : Program} (w : World) {ops : Array Oper} {rest : List Oper} {o : Oper} {a : Act} {Q : Exit → Act → World → Prop}
  (hg : o.guard = none) (s x : Operand) (t : TypeId) (hop : o.op = Op.call { callee := Callee.builtin Builtin.append, args := #[s, x], argTypes := #[t, t] })
  (base : Nat) (e : TypeId) (i : TypeInfo) (z : Value) (size bytes : Nat) (h1 : P.underlying t = some (.slice e)) (h2 : P.info? e = some i) (h3 : i.zero = some z) (h4 : i.size = size) (h5 : i.bytes = bytes) (h6 : z.cells.size = size) (h7 : 0 < size)
  (v : Value) (k : Nat) (xs : List Value) (hs : a.eval s = v) (hown : w.ownsRow base e size v k xs) (ad : Addr) (m c : Nat) (news : List Value) (hx : a.eval x = .slice (some ad) m c) (hn : news.length = m * size)
  (hc : ∀ j u, news[j]? = some u → w.cell? (ad.add j) = some u) (h1c : ∀ u ∈ news, u.oneCell' = true) (b1 : k + m ≤ maxLen) (b2 : (k + m) * bytes ≤ 140737488355328) (b3 : base ≤ w.heap.size)
  (hK : ∀ v' w', w'.ownsRow base e size v' (k + m) (xs ++ news) → w.grownBy w' v.ownBlock → (∀ g, v'.ownBlock = some g → v.ownBlock = some g ∨ w.heap.size ≤ g) → wpListIn F n P ops Q rest (a.put o.dst v') w') :
  wpListIn F n P ops Q (o :: rest) a w := by
 refine wpListIn_plain hg fun K hK' => ?_
 obtain ⟨v', w', hrun, r1, r2, r3⟩ := append_block (P := P) w base t o.type e i z size bytes h1 h2 h3 h4 h5 h6 h7 v k xs hown ad m c news hn hc h1c b1 b2 b3
 unfold Oper.wpIn
 refine ⟨?_, ?_⟩
 ·simp [Oper.about, hop, resolve, Target.leads, Sem.run_pure]
 ·rw [Oper.semAt_plain F _ _ (by rw [hop]; intro c hc'; cases hc')]
  simp [execOp, hop, resolve, invoke, builtin, hs, hx, hrun, Result.andThen]
  exact hK' _ _ (hK v' w' r1 r2 r3)
theorem SysC.byte {cs : Array Value} {v : Value} {V : Vm} (h : SysC cs v V) {p k : Nat} (hp : p < 1024) (hk : k < 64) : cs[1 + p * 66 + (k + 2)]? = some (.int .u8 ((V.pg p).byt k)) := by
 refine (h.page p hp (k + 2) (by omega)).trans ?_
 unfold pgC
 rw [List.getElem?_cons_succ, List.getElem?_cons_succ, List.getElem?_map, List.getElem?_range hk]; rfl
theorem newRf_ok {l : List Ru} (h : (chkR l).2 = 0) : RfOk (newRf l) := ⟨h, fun k _ => ⟨Int.le_refl _, (by show (0 : Int) ≤ 1000000; decide)⟩, fun k _ => rfl⟩
def whF (V : Vm) (a : Int) : Int := if a < 0 ∨ 65536 ≤ a then 7 else if (V.pg (a / 64).toNat).kind ≠ 2 then 61 else 0
def Pg.byteP (g : Pg) (k : Nat) (v : Int) : Pg := { g with byt := fun j => if j = k then v else g.byt j }
def writeF (V : Vm) (a : Int) (v : Int) : Vm := if whF V a = 0 then V.setP (a / 64).toNat ((V.pg (a / 64).toNat).byteP (a % 64).toNat v) else V
theorem SysC.setByte {cs : Array Value} {v : Value} {V : Vm} (h : SysC cs v V) {p k : Nat} (hp : p < 1024) (hk : k < 64) (x : Int) : SysC (cs.setIfInBounds (1 + p * 66 + 2 + k) (.int .u8 x)) v (V.setP p ((V.pg p).byteP k x)) := by
 have hs := h.size
 have hg : ∀ i, (cs.setIfInBounds (1 + p * 66 + 2 + k) (.int .u8 x))[i]? = if 1 + p * 66 + 2 + k = i then some (.int .u8 x) else cs[i]? := fun i => by
  rw [Array.getElem?_setIfInBounds]
  by_cases e : 1 + p * 66 + 2 + k = i
  ·rw [if_pos e, if_pos e, if_pos (by omega)]
  ·rw [if_neg e, if_neg e]
 refine ⟨by simp [hs], ?_, fun q hq i hi => ?_, fun i hi => ?_⟩
 ·rw [hg, if_neg (by omega)]; exact h.made
 ·rw [hg]
  by_cases e : q = p
  ·subst e
   have hpg : (V.setP q ((V.pg q).byteP k x)).pg q = (V.pg q).byteP k x := by simp [Vm.setP]
   rw [hpg]
   match i with
   | 0 => rw [if_neg (by omega), h.page q hq 0 hi]; rfl
   | 1 => rw [if_neg (by omega), h.page q hq 1 hi]; rfl
   | j + 2 =>
    have hj : j < 64 := by omega
    have e2 : ∀ g : Pg, (pgC g)[j + 2]? = some (.int .u8 (g.byt j)) := fun g => by
     unfold pgC
     simp [hj]
    rw [e2]
    by_cases e1 : j = k
    ·subst e1
     rw [if_pos (by omega)]
     simp [Pg.byteP]
    ·rw [if_neg (by omega), h.page q hq (j + 2) hi, e2]
     simp [Pg.byteP, e1]
  ·rw [if_neg (by omega), h.page q hq i hi]
   simp [Vm.setP, e]
 ·rw [hg, if_neg (by omega)]; exact h.rf i hi
theorem SysIs.setByte {w : World} {b : Nat} {V : Vm} (h : SysIs w b V) {p k : Nat} (hp : p < 1024) (hk : k < 64) (x : Int) : SysIs (w.setCell ⟨b, 1 + p * 66 + 2 + k, none⟩ (.int .u8 x)) b (V.setP p ((V.pg p).byteP k x)) ∧ Far (fun k => k = b) w (w.setCell ⟨b, 1 + p * 66 + 2 + k, none⟩ (.int .u8 x)) := by
 obtain ⟨cs, A, n, cap, h1, h2, h3, h4, h5, h6, h7, h8⟩ := h.ex
 have hF : Far (fun k => k = b) w (w.setCell ⟨b, 1 + p * 66 + 2 + k, none⟩ (.int .u8 x)) := Far.setCell (T := fun k => k = b) (p := ⟨b, 1 + p * 66 + 2 + k, none⟩) (Far.refl _ _) (fun _ => rfl) _
 exact ⟨⟨_, A, n, cap, h1.set_ _ _, h2.setByte hp hk x, h3, (h4.keepR hF (fun g' o e h => h6 g' o e h)).more hF.size, h5, h6, h7, fun g o e h => (h8 g o e h).imp fun cr hc => hF.blk hc (h6 g o e h)⟩, hF⟩
end Go.Pol
namespace Go.Proofs.YtjmmgoijnhnnaaaGreat
open Go Go.Proofs Go.RowKit Go.Pol Go.Shelf
attribute [local go_sem] Oper.semAt_some Go.Pol.wide_fn Go.Pol.wide_depth Go.Pol.wide_fn' Go.Pol.wide_depth'
def whP (b : Nat) (V : Vm) (a : Int) : Option Addr := if whF V a = 0 then some ⟨b, 1 + (a / 64).toNat * 66 + 2 + (a % 64).toNat, none⟩ else none
theorem where_any (b : Nat) (a : Int) (V : Vm) (w : World) (hV : SysIs w b V) :
  Calls Tryz.prog 45 #[.pointer (some ⟨b, 0, none⟩), .int .i64 a] w fun e w' => e = .returned (.tuple #[.pointer (whP b V a), .int .i64 (whF V a)]) ∧ w' = w := by
 have HI := Lib.hid (is_any b V w hV)
 unfold whP
 obtain ⟨R, hR⟩ : ∃ R, whF V a = R := ⟨_, rfl⟩
 rw [hR]
 unfold whF at hR
 by_cases c1 : a < 0
 ·have d1 : decide (a < 0) = true := by simpa using c1
  rw [if_pos (.inl c1)] at hR
  subst hR
  rw [if_neg (by omega)]
  go_enter Tryz.func45, Tryz.ntmps45
  go_wp2_with fail
  refine HI.out.mono ?_
  rintro e9 w9 ⟨rfl, hw9⟩
  replace hw9 := hw9.symm
  subst hw9
  go_wp2_with fail
  go_ret2
  exact ⟨rfl, rfl⟩
 have d1 : decide (a < 0) = false := by simpa using c1
 by_cases c2 : 65536 ≤ a
 ·have d2 : decide (65536 ≤ a) = true := by simpa using c2
  rw [if_pos (.inr c2)] at hR
  subst hR
  rw [if_neg (by omega)]
  go_enter Tryz.func45, Tryz.ntmps45
  go_wp2_with fail
  refine HI.out.mono ?_
  rintro e9 w9 ⟨rfl, hw9⟩
  replace hw9 := hw9.symm
  subst hw9
  go_wp2_with fail
  go_ret2
  exact ⟨rfl, rfl⟩
 have d2 : decide (65536 ≤ a) = false := by simpa using c2
 rw [if_neg (by omega)] at hR
 obtain ⟨q, k, rfl, hq, hk⟩ : ∃ q k : Nat, a = ((q * 64 + k : Nat) : Int) ∧ q < 1024 ∧ k < 64 := ⟨(a / 64).toNat, (a % 64).toNat, by omega, by omega, by omega⟩
 have e1 : (((q * 64 + k : Nat) : Int) / 64).toNat = q := by omega
 have e2 : (((q * 64 + k : Nat) : Int) % 64).toNat = k := by omega
 rw [e1] at hR ⊢
 rw [e2]
 clear e1 e2
 have h0 : (0 : Int) ≤ ((q * 64 + k : Nat) : Int) := by omega
 have hdv : Int.tdiv ((q * 64 + k : Nat) : Int) 64 = (q : Int) := by rw [Int.tdiv_eq_ediv_of_nonneg h0]; omega
 have hmd : Int.tmod ((q * 64 + k : Nat) : Int) 64 = (k : Int) := by rw [Int.tmod_eq_emod_of_nonneg h0]; omega
 have hwq : wrap64 (q : Int) = (q : Int) := by unfold wrap64; omega
 have hql : (q : Int) < 1024 := by omega
 have hkl : (k : Int) < 64 := by omega
 generalize ((q * 64 + k : Nat) : Int) = a at *
 obtain ⟨cs, A, n, cap, hkb, hc, _⟩ := hV.ex
 have c0 := (hkb.cell (1 + q * 66)).trans (hc.kind hq)
 by_cases hkd : (V.pg q).kind = 2
 ·rw [if_neg (by simpa using hkd)] at hR
  subst hR
  rw [if_pos rfl]
  rw [hkd] at c0
  clear hkd hkb hc hV
  go_enter Tryz.func45, Tryz.ntmps45
  go_wp2_with fail
  refine HI.out.mono ?_
  rintro e9 w9 ⟨rfl, hw9⟩
  replace hw9 := hw9.symm
  subst hw9
  go_wp2_with fail
  go_ret2
  exact ⟨rfl, rfl⟩
 ·rw [if_pos hkd] at hR
  subst hR
  rw [if_neg (by omega)]
  generalize (V.pg q).kind = kd at *
  have hkd' : (kd != 2) = true := by simpa using hkd
  clear hkb hc hV
  go_enter Tryz.func45, Tryz.ntmps45
  go_wp2_with fail
  refine HI.out.mono ?_
  rintro e9 w9 ⟨rfl, hw9⟩
  replace hw9 := hw9.symm
  subst hw9
  go_wp2_with fail
  go_ret2
  exact ⟨rfl, rfl⟩
theorem write_any (b : Nat) (a v : Int) (V : Vm) (w : World) (hV : SysIs w b V) :
  Calls Tryz.prog 14 #[.pointer (some ⟨b, 0, none⟩), .int .i64 a, .int .u8 v] w fun e w' => e = .returned (.int .i64 (whF V a)) ∧ SysTo b (writeF V a v) w w' := by
 have HW := Lib.hid (where_any b a V w hV)
 have hV' := Lib.hid hV
 unfold SysTo
 obtain ⟨P, hP⟩ : ∃ P, writeF V a v = P := ⟨_, rfl⟩
 rw [hP]
 unfold writeF at hP
 unfold whP at HW
 obtain ⟨R, hR⟩ : ∃ R, whF V a = R := ⟨_, rfl⟩
 rw [hR] at hP HW ⊢
 by_cases c0 : R = 0
 ·subst c0
  rw [if_pos rfl] at hP HW
  have ha : ¬ (a < 0 ∨ 65536 ≤ a) := fun hc => by unfold whF at hR; rw [if_pos hc] at hR; omega
  have hq : (a / 64).toNat < 1024 := by omega
  have hk : (a % 64).toNat < 64 := by omega
  generalize (a / 64).toNat = q at *
  generalize (a % 64).toNat = k at *
  have hset := hV.setByte hq hk v
  rw [hP] at hset
  have hset' := Lib.hid hset
  obtain ⟨cs, A, n, cap, hkb, hc, _⟩ := hV.ex
  have e1 := (hkb.cell (1 + q * 66 + (k + 2))).trans (hc.byte hq hk)
  rw [show 1 + q * 66 + (k + 2) = 1 + q * 66 + 2 + k by omega] at e1
  have f1 := hkb.frozen
  clear hkb hc hV hP hset hR ha
  go_enter Tryz.func14, Tryz.ntmps14
  go_wp2_with fail
  refine HW.out.mono ?_
  rintro e9 w9 ⟨rfl, hw9⟩
  replace hw9 := hw9.symm
  subst hw9
  go_wp2_with fail
  go_ret
  exact ⟨rfl, hset'.out.1, hset'.out.2⟩
 ·rw [if_neg c0] at hP HW
  subst hP
  have d0 : (R == 0) = false := by simpa using c0
  clear hR hV
  go_enter Tryz.func14, Tryz.ntmps14
  go_wp2_with fail
  refine HW.out.mono ?_
  rintro e9 w9 ⟨rfl, hw9⟩
  replace hw9 := hw9.symm
  subst hw9
  go_wp2_with fail
  go_ret
  exact ⟨rfl, hV'.out, Far.refl _ _⟩
end Go.Proofs.YtjmmgoijnhnnaaaGreat
namespace Go.Pol
open Go Go.RowKit
end Go.Pol
namespace Go.Proofs.YtjmmgoijnhnnaaaGreat
open Go Go.Proofs Go.RowKit Go.Pol
theorem infoKinds : (Tryz.prog.info? 63).map (·.size) = some 64 := by kernel_rfl
end Go.Proofs.YtjmmgoijnhnnaaaGreat
namespace Go.Pol
open Go Go.RowKit
abbrev rnV (x : Rn) : Value := .agg #[.int .i64 x.1, .int .i64 x.2.1, .int .i64 x.2.2]
abbrev rnA (x : Rn) : Array Value := #[rnV x]
theorem bumpR_snoc (l : List Rn) (x : Rn) : bumpR (l ++ [x]) = l ++ [(x.1, x.2.1 + 1, x.2.2)] := by simp [bumpR]
theorem bumpR_len (l : List Rn) : (bumpR l).length = l.length := by
 unfold bumpR
 split
 ·rename_i h; rw [List.reverse_eq_nil_iff] at h; rw [h]
 ·rename_i x r h
  have : l = r.reverse ++ [x] := by rw [← List.reverse_reverse l, h, List.reverse_cons]
  rw [this]; simp
theorem bumpR_app (a t : List Rn) (ht : t ≠ []) : bumpR (a ++ t) = a ++ bumpR t ∧ bumpR t ≠ [] := by
 obtain ⟨l, x, rfl⟩ : ∃ l x, t = l ++ [x] := ⟨t.dropLast, t.getLast ht, (List.dropLast_concat_getLast ht).symm⟩
 rw [← List.append_assoc, bumpR_snoc, bumpR_snoc, List.append_assoc]
 exact ⟨rfl, by simp⟩
theorem vrunsL_succ (V : Vm) (k : Nat) : vrunsL V (k + 1) = if (V.pg k).kind = 0 then vrunsL V k else if 0 < k ∧ (V.pg (k - 1)).kind = (V.pg k).kind then bumpR (vrunsL V k) else vrunsL V k ++ [((k : Int), 1, (V.pg k).kind)] := rfl
theorem vrunsL_len (V : Vm) : ∀ k, (vrunsL V k).length ≤ k
 | 0 => Nat.le_refl _
 | k + 1 => by
  have := vrunsL_len V k
  unfold vrunsL
  split
  ·omega
  ·split
   ·rw [bumpR_len]; omega
   ·rw [List.length_append, List.length_singleton]; omega
def bdy (V : Vm) (p : Nat) : Prop := p = 0 ∨ (V.pg (p - 1)).kind ≠ (V.pg p).kind ∨ 1024 ≤ p
theorem vruns_same {V : Vm} {p : Nat} {c : Int} (hb : p = 0 ∨ (V.pg (p - 1)).kind ≠ (V.pg p).kind) (hc : c ≠ 0) : ∀ m, (∀ q, p ≤ q → q < p + (m + 1) → (V.pg q).kind = c) → vrunsL V (p + (m + 1)) = vrunsL V p ++ [((p : Int), ((m + 1 : Nat) : Int), c)]
 | 0, h => by
  have h0 := h p (by omega) (by omega)
  rw [Nat.zero_add, vrunsL_succ, if_neg (by rw [h0]; exact hc), if_neg (by
   rintro ⟨h1, h2⟩
   rcases hb with h3 | h3
   ·omega
   ·exact h3 h2), h0]
  rfl
 | m + 1, h => by
  have ih := vruns_same hb hc m (fun q h1 h2 => h q h1 (by omega))
  have h0 := h (p + (m + 1)) (by omega) (by omega)
  have h1 := h (p + (m + 1) - 1) (by omega) (by omega)
  rw [show p + (m + 1 + 1) = p + (m + 1) + 1 by omega, vrunsL_succ, if_neg (by rw [h0]; exact hc), if_pos ⟨by omega, by rw [h0, h1]⟩, ih, bumpR_snoc]
  have e : ((m + 1 : Nat) : Int) + 1 = ((m + 1 + 1 : Nat) : Int) := by omega
  rw [← e]
theorem vruns_free {V : Vm} {p : Nat} : ∀ m, (∀ q, p ≤ q → q < p + m → (V.pg q).kind = 0) → vrunsL V (p + m) = vrunsL V p
 | 0, _ => rfl
 | m + 1, h => by
  rw [← Nat.add_assoc, vrunsL_succ, if_pos (h (p + m) (by omega) (by omega))]
  exact vruns_free m (fun q h1 h2 => h q h1 (by omega))
theorem vruns_pre {V : Vm} {q : Nat} (hb : q = 0 ∨ (V.pg (q - 1)).kind ≠ (V.pg q).kind) : ∀ m, ∃ t, vrunsL V (q + m) = vrunsL V q ++ t ∧ (0 < m → (V.pg (q + m - 1)).kind ≠ 0 → t ≠ [])
 | 0 => ⟨[], by simp, fun h => absurd h (by omega)⟩
 | m + 1 => by
  obtain ⟨t, h1, h2⟩ := vruns_pre hb m
  have e : q + (m + 1) - 1 = q + m := by omega
  rw [e]
  rw [← Nat.add_assoc, vrunsL_succ]
  by_cases hk : (V.pg (q + m)).kind = 0
  ·rw [if_pos hk]
   exact ⟨t, h1, fun _ h => absurd hk h⟩
  ·rw [if_neg hk]
   by_cases hs : 0 < q + m ∧ (V.pg (q + m - 1)).kind = (V.pg (q + m)).kind
   ·rw [if_pos hs]
    have hm : 0 < m := by
     rcases Nat.eq_zero_or_pos m with h | h
     ·subst h
      rcases hb with h3 | h3
      ·omega
      ·exact absurd hs.2 h3
     ·exact h
    have ht := h2 hm (by rw [hs.2]; exact hk)
    obtain ⟨b1, b2⟩ := bumpR_app (vrunsL V q) t ht
    exact ⟨bumpR t, by rw [h1, b1], fun _ _ => b2⟩
   ·rw [if_neg hs]
    exact ⟨t ++ [(((q + m : Nat) : Int), 1, (V.pg (q + m)).kind)], by rw [h1, List.append_assoc], fun _ _ => by simp⟩
theorem vruns_prefix {V : Vm} {q : Nat} (hb : bdy V q) (hq : q ≤ 1024) : vrunsL V q <+: vrunsL V 1024 := by
 by_cases h : q = 1024
 ·rw [h]; exact List.prefix_refl _
 ·obtain ⟨t, ht, _⟩ := vruns_pre (V := V) (q := q) (hb.elim .inl (fun h => h.elim .inr (fun h => by omega))) (1024 - q)
  rw [show q + (1024 - q) = 1024 by omega] at ht
  exact ⟨t, ht.symm⟩
theorem hugL_len (V : Vm) : ∀ k, (hugL V k).length ≤ k
 | 0 => Nat.le_refl _
 | k + 1 => by
  have := hugL_len V k
  unfold hugL
  split
  ·rw [List.length_append, List.length_singleton]; omega
  ·omega
theorem datL_len (V : Vm) : ∀ k, (datL V k).length ≤ k
 | 0 => Nat.le_refl _
 | k + 1 => by
  have := datL_len V k
  unfold datL
  split
  ·rw [List.length_append, List.length_singleton]; omega
  ·omega
theorem bytL_one (g : Pg) : ∀ x ∈ bytL g, x.oneCell' = true := by
 intro x hx
 simp only [bytL, List.mem_map] at hx
 obtain ⟨k, _, rfl⟩ := hx
 rfl
theorem daC_one (V : Vm) (us : List Nat) : ∀ u ∈ fl (daC V) us, u.oneCell' = true := by
 intro u hu
 simp only [fl, List.mem_flatMap, daC, List.mem_cons] at hu
 obtain ⟨x, _, rfl | h⟩ := hu
 ·rfl
 ·exact bytL_one _ u h
end Go.Pol
namespace Go.Proofs.YtjmmgoijnhnnaaaGreat
open Go Go.Proofs Go.RowKit Go.Pol Go.Shelf
attribute [local go_sem] Oper.semAt_some Go.Pol.wide_fn Go.Pol.wide_depth Go.Pol.wide_fn' Go.Pol.wide_depth'
theorem vruns_any (b : Nat) (w : World) :
  Calls Tryz.prog 78 #[.pointer (some ⟨b, 0, none⟩)] w fun e w' => e = .returned (.func (.func 139) #[] #[.pointer (some ⟨w.heap.size, 0, none⟩)]) ∧ w' = w.alloc (.cells #[.pointer (some ⟨b, 0, none⟩)] 44) := by
 go_enter Tryz.func78, Tryz.ntmps78
 go_wp2
 go_ret
 exact ⟨by simp, rfl⟩
theorem vruns1_enters : ∀ args w, (callFunc 139 args).run Tryz.prog w = .ok (.enter 139 args) w := enters_of Tryz.func139 (by kernel_rfl) rfl
set_option maxRecDepth 100000 in
set_option maxHeartbeats 1600000 in
theorem vruns1_seq (b B1 : Nat) (V : Vm) (cs : Array Value) (v : Value) (K : Nat → Prop) (w : World) (hKb : K b) (hK1 : K B1)
  (k1 : Blk w B1 44 #[.pointer (some ⟨b, 0, none⟩)]) (kS : Blk w b 71 cs) (hc : SysC cs v V) :
  SeqX Tryz.prog 139 #[.pointer (some ⟨B1, 0, none⟩)] rnA (fun _ => False) K (vrunsL V 1024) w := by
 intro m l J Jx W hW hJ hJx hnew hY h0
 have kB1 := hW.blk k1 (by simpa using hK1)
 have kbS := hW.blk kS (by simpa using hKb)
 have hkd := Lib.hid (fun (wr : World) (h : Blk wr b 71 cs) p (hp : p < 1024) => (h.cell (1 + p * 66)).trans (hc.kind hp))
 refine callsIn_of_wp Tryz.func139 rfl trivial ?_ rfl
 simp only [Tryz.ntmps139, List.size_toArray, List.length_cons, List.length_nil, Nat.reduceAdd, Nat.reduceSub, Array.replicate_succ, Array.replicate_zero, List.push_toArray, List.append_toArray, List.nil_append, List.cons_append]
 clear hW k1 kS hc
 gi_wp2_with fail
 gi_loopw [3] (fun u wr => ∃ p : Nat, p ≤ 1024 ∧ u = .int .i64 p ∧ W.heap.size ≤ wr.heap.size ∧ J (fun _ => False) (vrunsL V p) wr ∧ Blk wr B1 44 #[.pointer (some ⟨b, 0, none⟩)] ∧ Blk wr b 71 cs ∧ Hid (bdy V p)) (fun u _ => 1024 - (intOf u).toNat)
 case atStart => exact ⟨0, by omega, rfl, Nat.le_refl _, h0, kB1, kbS, Lib.hid (.inl rfl)⟩
 case round =>
  clear h0 kB1 kbS
  obtain ⟨p, hp, rfl, hwz, hJs, kB1, kbS, hbd⟩ := hrel
  by_cases hlt : p < 1024
  ·have hlt' : decide ((p : Int) < 1024) = true := by rw [decide_eq_true_eq]; omega
   have hpl : (p : Int) < 1024 := by omega
   have hcell := hkd.out wr kbS p hlt
   have c1 := kB1.cell
   obtain ⟨kd, hkdp⟩ : ∃ kd, (V.pg p).kind = kd := ⟨_, rfl⟩
   rw [hkdp] at hcell
   have kX := Blk.new wr 158 #[.int .i64 p, .int .i64 0, .int .i64 kd]
   have hfa : Far (fun _ => False) wr (wr.alloc (.cells #[.int .i64 p, .int .i64 0, .int .i64 kd] 158)) := (Far.refl _ wr).alloc _
   have hJ2 := hJ _ _ _ _ (hnew _ (fun k => k = wr.heap.size) _ wr hJs (fun j hj => .inr (by omega))) (hfa.mono fun _ _ h => h.elim)
   have kB1b := kB1.alloc (.cells #[.int .i64 p, .int .i64 0, .int .i64 kd] 158)
   have kbSb := kbS.alloc (.cells #[.int .i64 p, .int .i64 0, .int .i64 kd] 158)
   have hszb : W.heap.size ≤ (wr.alloc (.cells #[.int .i64 p, .int .i64 0, .int .i64 kd] 158)).heap.size := by simp; omega
   have hbx0 : wr.heap.size < (wr.alloc (.cells #[.int .i64 p, .int .i64 0, .int .i64 kd] 158)).heap.size := by simp
   have hne1 : B1 ≠ wr.heap.size := Nat.ne_of_lt kB1.lt
   have hneb : b ≠ wr.heap.size := Nat.ne_of_lt kbS.lt
   have hkdp' := Lib.hid hkdp
   clear hkdp
   gi_wp2_with fail
   generalize wr.alloc (.cells #[.int .i64 p, .int .i64 0, .int .i64 kd] 158) = wa at *
   generalize wr.heap.size = bx at *
   clear hJs kB1 kbS hfa hwz hcell c1 hlt'
   gi_loopw [3] (fun u wr => ∃ q : Nat, p ≤ q ∧ q ≤ 1024 ∧ u = .int .i64 q ∧ W.heap.size ≤ wr.heap.size ∧ bx < wr.heap.size ∧ J (fun k => k = bx) (vrunsL V p) wr ∧ Blk wr B1 44 #[.pointer (some ⟨b, 0, none⟩)] ∧ Blk wr b 71 cs ∧ Blk wr bx 158 #[.int .i64 p, .int .i64 ((q - p : Nat) : Int), .int .i64 kd] ∧ Hid (∀ r, p ≤ r → r < q → (V.pg r).kind = kd)) (fun u _ => 1024 - (intOf u).toNat)
   case atStart => exact ⟨p, by omega, by omega, rfl, hszb, hbx0, hJ2, kB1b, kbSb, by rw [Nat.sub_self]; exact kX, Lib.hid (fun r h1 h2 => by omega)⟩
   case round =>
    clear hJ2 kB1b kbSb kX hszb hbx0
    obtain ⟨q, hq0, hq1, rfl, hwz, hbx, hJs, kB1, kbS, kX, hall⟩ := hrel
    by_cases hq : q < 1024
    ·have hq' : decide ((q : Int) < 1024) = true := by rw [decide_eq_true_eq]; omega
     have hql : (q : Int) < 1024 := by omega
     have e1 := fun z : Ext wr => (z.blk kB1).cell
     have e2 := fun z : Ext wr => (z.blk kX).cell
     have hcell := hkd.out wr kbS q hq
     have e3 := fun z : Ext wr => z.cell hcell
     generalize hgk : (V.pg q).kind = kq at *
     gi_upto_region 3 with fail
     refine wpIn_wide.2 ?_
     by_cases hkq : kq = kd
     ·have hkq' : (kq == kd) = true := by simpa using hkq
      have hall2 : Hid (∀ r, p ≤ r → r < q + 1 → (V.pg r).kind = kd) := Lib.hid (fun r h1 h2 => by
       by_cases e : r = q
       ·rw [e, hgk, hkq]
       ·exact hall.out r h1 (by omega))
      clear hkq hgk hall
      refine region_ext (by kernel_rfl) (by kernel_rfl) ?_
      repeat (go_big_quiet_step (fail))
      refine wpQuiet_nil ?_
      rintro w3 ⟨⟨_, hw3⟩, rfl⟩
      have kX3 := kX.call hw3
      have J3 := hJ _ _ wr w3 hJs (.of_below hw3)
      have hwz3 := Nat.le_trans hwz hw3.size
      have hbx3 := Nat.lt_of_lt_of_le hbx hw3.size
      have kB13 := kB1.call hw3
      have kbS3 := kbS.call hw3
      have cX := kX3.cell
      have fX := kX3.frozen
      have F4 : Far (fun k => k = bx) w3 (w3.setCell ⟨bx, 1, none⟩ (.int .i64 ((q - p + 1 : Nat) : Int))) := Far.setCell (T := fun k => k = bx) (p := ⟨bx, 1, none⟩) (Far.refl _ w3) (fun _ => rfl) _
      have kX4 := kX3.set_ 1 (.int .i64 ((q - p + 1 : Nat) : Int))
      have hcs1 : ((q - p : Nat) : Int) + 1 = ((q - p + 1 : Nat) : Int) := by omega
      have J4 := hJ _ _ w3 _ J3 (F4.mono fun _ _ h => .inr h)
      have kB14 := F4.blk kB13 hne1
      have kbS4 := F4.blk kbS3 hneb
      have hs4 := F4.size
      have hql2 : ((q - p : Nat) : Int) < 2000 := by omega
      have hq0' : q - p + 1 = q + 1 - p := by omega
      rw [hq0'] at kX4
      clear e1 e2 e3 hJs kB1 kbS kX J3 kB13 kbS3 kX3 hw3 F4 hcell
      gi_wp2_with fail
      rw [hq0'] at J4 kB14 kbS4 hs4
      go_roundw
      case rel => exact ⟨q + 1, by omega, by omega, by go_num, by omega, by omega, J4, kB14, kbS4, kX4, hall2⟩
      case measure => simp [intOf]; omega
     ·have hkq' : (kq == kd) = false := by simpa using hkq
      have hqp : Hid (p < q) := Lib.hid (by
       rcases Nat.lt_or_ge p q with h | h
       ·exact h
       ·exfalso
        have : q = p := by omega
        rw [this] at hgk
        exact hkq (hgk.symm.trans hkdp'.out))
      have hbq : Hid (bdy V q) := Lib.hid (.inr (.inl (by
       have := hqp.out
       rw [hgk, hall.out (q - 1) (by omega) (by omega)]
       exact fun h => hkq h.symm)))
      clear hkq hgk hq
      refine region_ext (by kernel_rfl) (by kernel_rfl) ?_
      repeat (go_big_quiet_step (fail))
      refine wpQuiet_nil ?_
      rintro w3 ⟨⟨_, hw3⟩, rfl⟩
      have kX3 := kX.call hw3
      have J3 := hJ _ _ wr w3 hJs (.of_below hw3)
      have hwz3 := Nat.le_trans hwz hw3.size
      have hbx3 := Nat.lt_of_lt_of_le hbx hw3.size
      have kB13 := kB1.call hw3
      have kbS3 := kbS.call hw3
      have cX := kX3.cell
      clear e1 e2 e3 hJs kB1 kbS kX hw3 hcell
      by_cases hk0 : kd = 0
      ·subst hk0
       have hR : Hid (vrunsL V q = vrunsL V p) := Lib.hid (by
        have := vruns_free (V := V) (p := p) (q - p) (fun r h1 h2 => hall.out r h1 (by have := hqp.out; omega))
        rwa [show p + (q - p) = q by have := hqp.out; omega] at this)
       have J4 := hnew _ (fun _ => False) _ _ J3 (fun _ h => h.elim)
       rw [← hR.out] at J4
       have hqp2 := hqp.out
       gi_wp2_with fail
       go_roundw
       case rel => exact ⟨q, by omega, rfl, hwz3, J4, kB13, kbS3, hbq⟩
       case measure => simp [intOf]; omega
      ·have hk0' : (kd != 0) = true := by simpa using hk0
       have hR : Hid (vrunsL V q = vrunsL V p ++ [((p : Int), ((q - p : Nat) : Int), kd)]) := Lib.hid (by
        have h1 := hqp.out
        have h2 := vruns_same (V := V) (p := p) (c := kd) (hbd.out.elim .inl (fun h => h.elim .inr (fun h => by omega))) hk0 (q - p - 1) (fun r a1 a2 => hall.out r a1 (by omega))
        rw [show q - p - 1 + 1 = q - p by omega, show p + (q - p) = q by omega] at h2
        exact h2)
       have hpre : Hid (vrunsL V p ++ [((p : Int), ((q - p : Nat) : Int), kd)] <+: vrunsL V 1024) := Lib.hid (by
        rw [← hR.out]
        exact vruns_prefix hbq.out (by omega))
       have hqp2 := hqp.out
       obtain ⟨fn, tmps, assign, body, hy, hRd⟩ := hY (m - 1) (fun k => k = bx) (vrunsL V p) ((p : Int), ((q - p : Nat) : Int), kd) w3 J3 (fun k hk => by rw [hk]; exact hbx3) hpre.out
       clear hY hk0
       gi_wp2_with fail
       refine hRd.mono ?_
       rintro e W4 (⟨rfl, hJ4, hF4⟩ | ⟨rfl, hJx4⟩)
       ·have J5 := hnew _ (fun _ => False) _ _ hJ4 (fun _ h => h.elim)
        rw [← hR.out] at J5
        gi_wp2_with fail
        go_roundw
        case rel => exact ⟨q, by omega, rfl, Nat.le_trans hwz3 hF4.size, J5, hF4.blk kB13 (fun h => h (.inl hK1)), hF4.blk kbS3 (fun h => h (.inl hKb)), hbq⟩
        case measure => simp [intOf]; omega
       ·gi_wp2_with fail
        refine bodyPost_ret (results_none rfl _ _ _) rfl ?_
        exact ⟨⟨_, rfl⟩, .inr ⟨_, _, hpre.out, hJx4⟩⟩
    ·obtain rfl : q = 1024 := by omega
     have hq' : decide (((1024 : Nat) : Int) < 1024) = false := by decide
     have hqp : Hid (p < 1024) := Lib.hid hlt
     have hbq : Hid (bdy V 1024) := Lib.hid (.inr (.inr (Nat.le_refl _)))
     have e1 := fun z : Ext wr => (z.blk kB1).cell
     have e2 := fun z : Ext wr => (z.blk kX).cell
     have e3 : True := trivial
     have hcell : True := trivial
     gi_upto_region 3 with fail
     refine wpIn_wide.2 ?_
     refine region_ext (by kernel_rfl) (by kernel_rfl) ?_
     repeat (go_big_quiet_step (fail))
     refine wpQuiet_nil ?_
     rintro w3 ⟨⟨_, hw3⟩, rfl⟩
     have kX3 := kX.call hw3
     have J3 := hJ _ _ wr w3 hJs (.of_below hw3)
     have hwz3 := Nat.le_trans hwz hw3.size
     have hbx3 := Nat.lt_of_lt_of_le hbx hw3.size
     have kB13 := kB1.call hw3
     have kbS3 := kbS.call hw3
     have cX := kX3.cell
     clear e1 e2 e3 hJs kB1 kbS kX hw3 hcell
     by_cases hk0 : kd = 0
     ·subst hk0
      have hR : Hid (vrunsL V 1024 = vrunsL V p) := Lib.hid (by
       have := vruns_free (V := V) (p := p) (1024 - p) (fun r h1 h2 => hall.out r h1 (by have := hqp.out; omega))
       rwa [show p + (1024 - p) = 1024 by have := hqp.out; omega] at this)
      have J4 := hnew _ (fun _ => False) _ _ J3 (fun _ h => h.elim)
      rw [← hR.out] at J4
      have hqp2 := hqp.out
      gi_wp2_with fail
      go_roundw
      case rel => exact ⟨1024, by omega, rfl, hwz3, J4, kB13, kbS3, hbq⟩
      case measure => simp [intOf]; omega
     ·have hk0' : (kd != 0) = true := by simpa using hk0
      have hR : Hid (vrunsL V 1024 = vrunsL V p ++ [((p : Int), ((1024 - p : Nat) : Int), kd)]) := Lib.hid (by
       have h1 := hqp.out
       have h2 := vruns_same (V := V) (p := p) (c := kd) (hbd.out.elim .inl (fun h => h.elim .inr (fun h => by omega))) hk0 (1024 - p - 1) (fun r a1 a2 => hall.out r a1 (by omega))
       rw [show 1024 - p - 1 + 1 = 1024 - p by omega, show p + (1024 - p) = 1024 by omega] at h2
       exact h2)
      have hpre : Hid (vrunsL V p ++ [((p : Int), ((1024 - p : Nat) : Int), kd)] <+: vrunsL V 1024) := Lib.hid (by
       rw [← hR.out]
       exact vruns_prefix hbq.out (by omega))
      have hqp2 := hqp.out
      obtain ⟨fn, tmps, assign, body, hy, hRd⟩ := hY (m - 1) (fun k => k = bx) (vrunsL V p) ((p : Int), ((1024 - p : Nat) : Int), kd) w3 J3 (fun k hk => by rw [hk]; exact hbx3) hpre.out
      clear hY hk0
      gi_wp2_with fail
      refine hRd.mono ?_
      rintro e W4 (⟨rfl, hJ4, hF4⟩ | ⟨rfl, hJx4⟩)
      ·have J5 := hnew _ (fun _ => False) _ _ hJ4 (fun _ h => h.elim)
       rw [← hR.out] at J5
       gi_wp2_with fail
       go_roundw
       case rel => exact ⟨1024, by omega, rfl, Nat.le_trans hwz3 hF4.size, J5, hF4.blk kB13 (fun h => h (.inl hK1)), hF4.blk kbS3 (fun h => h (.inl hKb)), hbq⟩
       case measure => simp [intOf]; omega
      ·gi_wp2_with fail
       refine bodyPost_ret (results_none rfl _ _ _) rfl ?_
       exact ⟨⟨_, rfl⟩, .inr ⟨_, _, hpre.out, hJx4⟩⟩
  ·obtain rfl : p = 1024 := by omega
   have hlt' : decide (((1024 : Nat) : Int) < 1024) = false := by decide
   gi_wp2_with fail
   go_end0
   exact ⟨⟨_, rfl⟩, .inl ⟨_, hJs⟩⟩
end Go.Proofs.YtjmmgoijnhnnaaaGreat
namespace Go.Pol
open Go Go.RowKit
theorem rnC_snoc (bs : List Rn) (x : Rn) : fl rnC (bs ++ [x]) = fl rnC bs ++ [.int .i64 x.1, .int .i64 x.2.1, .int .i64 x.2.2] := by rw [fl_append]; simp [fl, rnC]
theorem news_rn {w : World} {g : Nat} {t : TypeId} {a b c : Int} (h : Blk w g t #[.int .i64 a, .int .i64 b, .int .i64 c]) : ∀ (j : Nat) (u : Value), [Value.int .i64 a, Value.int .i64 b, Value.int .i64 c][j]? = some u → w.cell? ((⟨g, 0, none⟩ : Addr).add j) = some u := by
 intro j u hu
 rw [addr_add0, Nat.zero_add]
 rw [h.cell]
 simpa using hu
theorem news_oneR {a b c : Int} : ∀ u ∈ [Value.int .i64 a, Value.int .i64 b, Value.int .i64 c], u.oneCell' = true := by
 intro u hu
 simp only [List.mem_cons, List.not_mem_nil, or_false] at hu
 rcases hu with rfl | rfl | rfl <;> rfl
theorem rangeXR {P : Program} {g : Operand} {ps : Array Tmp} {assign body : Code} {Q : Exit → Act → World → Prop} {a : Act} {w : World} (ib pb : Nat) (tE : TypeId)
  {gf : Nat} {lb : Array Value} (hg : a.eval g = .func (.func gf) #[] lb) (eg : ∀ args w, (callFunc gf args).run P w = .ok (.enter gf args) w)
  {T K : Nat → Prop} {xs : List Rn} (hseq : SeqX P gf lb rnA T K xs w) (hps : ps = #[pb])
  (hT : ∀ k, T k → k < w.heap.size) (hK : ∀ k, K k → k < w.heap.size)
  (I : (Nat → Prop) → List Rn → World → Prop) (Ix : Code → (Nat → Prop) → List Rn → World → Prop)
  (hI : ∀ X pre A B, I X pre A → Far (fun k => T k ∨ X k ∨ k = w.heap.size ∨ k = w.heap.size + 1) A B → I X pre B)
  (hIx : ∀ c X pre A B, Ix c X pre A → Far (fun k => T k ∨ X k ∨ k = w.heap.size ∨ k = w.heap.size + 1) A B → Ix c X pre B)
  (hnew : ∀ X X' pre A, I X pre A → (∀ k, X' k → X k ∨ A.heap.size ≤ k) → I X' pre A)
  (h0 : I (fun _ => False) [] w)
  (hassign : ∀ (m l : Nat) (x : Rn) (W : World) (C : Act → World → Prop),
   C { tmps := (a.tmps.setIfInBounds pb (rnV x)).setIfInBounds ib (.pointer (some ⟨W.heap.size, 0, none⟩)), defers := [] } (W.alloc (.cells #[.int .i64 x.1, .int .i64 x.2.1, .int .i64 x.2.2] tE)) →
   assign.wpIn (Fence.wide.inRound l) m P (Exit.then C (fun _ _ _ => False)) { tmps := a.tmps.setIfInBounds pb (rnV x), defers := [] } W)
  (hbody : ∀ (m l : Nat) (X : Nat → Prop) (pre : List Rn) (x : Rn) (Bx : Nat) (Wa W : World), w.heap.size + 2 ≤ W.heap.size → (∀ k, X k → k < Wa.heap.size ∧ k ≠ w.heap.size ∧ k ≠ w.heap.size + 1) → I X pre W → pre ++ [x] <+: xs → w.heap.size + 2 ≤ Bx → Blk W Bx tE #[.int .i64 x.1, .int .i64 x.2.1, .int .i64 x.2.2] → Wa.heap.size ≤ Bx →
   body.wpIn (Fence.wide.inRound l) m P (xPost w.heap.size K X I Ix (pre ++ [x]) W) { tmps := (a.tmps.setIfInBounds pb (rnV x)).setIfInBounds ib (.pointer (some ⟨Bx, 0, none⟩)), defers := [] } W)
  (hdone : ∀ (X : Nat → Prop) (W : World), w.heap.size + 2 ≤ W.heap.size → I X xs W → W.heap[w.heap.size]? = some (.deferred (some [])) → Q .normal { a with defers := markOf w.heap.size :: a.defers } W)
  (hstop : ∀ (c : Code) (X : Nat → Prop) (pre : List Rn) (W : World), w.heap.size + 2 ≤ W.heap.size → pre <+: xs → Ix c X pre W → W.heap[w.heap.size]? = some (.deferred (some [])) → c.wp P Q { a with defers := markOf w.heap.size :: a.defers } W) :
  (Code.rangeFunc g ps assign body).wp P Q a w := by
 subst hps
 refine rangeX hg eg hseq (fun _ => rfl) hT hK I Ix hI hIx hnew h0
  (fun N x a' W => ∃ Bx, N ≤ Bx ∧ w.heap.size + 2 ≤ Bx ∧ Blk W Bx tE #[.int .i64 x.1, .int .i64 x.2.1, .int .i64 x.2.2] ∧ a' = { tmps := (a.tmps.setIfInBounds pb (rnV x)).setIfInBounds ib (.pointer (some ⟨Bx, 0, none⟩)), defers := [] })
  (fun N x a' A B ⟨Bx, h0, h1, h2, h3⟩ hf => ⟨Bx, h0, h1, hf.blk h2 (by omega), h3⟩) ?_ ?_ hdone hstop
 ·intro m l x W C hs hC
  have e : (#[pb].zip (rnA x)).foldl (fun t (p, v) => t.setIfInBounds p v) a.tmps = a.tmps.setIfInBounds pb (rnV x) := by simp [rnA]
  rw [e]
  exact hassign m l x W C (hC _ _ ((Far.refl _ W).alloc _) ⟨W.heap.size, Nat.le_refl _, hs, Blk.new _ _ _, rfl⟩)
 ·rintro m l X pre x a' Wa W hs hX hi ⟨Bx, h0, h1, h2, rfl⟩ hpre _ _
  exact hbody m l X pre x Bx Wa W hs hX hi hpre h1 h2 h0
end Go.Pol
namespace Go.Proofs.YtjmmgoijnhnnaaaGreat
open Go Go.Proofs Go.RowKit Go.Pol Go.Shelf
attribute [local go_sem] Oper.semAt_some Go.Pol.wide_fn Go.Pol.wide_depth Go.Pol.wide_fn' Go.Pol.wide_depth'
theorem infoRn : (Tryz.prog.info? 158).map (fun i => (i.zero, i.size, i.bytes)) = some (some (.agg #[.int .i64 0, .int .i64 0, .int .i64 0]), 3, 24) := by kernel_rfl
theorem infoRn_parts : ∃ i0, Tryz.prog.info? 158 = some i0 ∧ i0.zero = some (.agg #[.int .i64 0, .int .i64 0, .int .i64 0]) ∧ i0.size = 3 ∧ i0.bytes = 24 := by
 obtain ⟨i0, h⟩ := info_parts infoRn
 exact ⟨i0, h⟩
set_option maxRecDepth 100000 in
set_option maxHeartbeats 3200000 in
theorem appendSeqR_any (g : Nat) (lb : Array Value) (K : Nat → Prop) (xs : List Rn) (w : World) (hxs : xs.length ≤ 1000000)
  (hseq : SeqX Tryz.prog g lb rnA (fun _ => False) K xs w) (eg : ∀ args w, (callFunc g args).run Tryz.prog w = .ok (.enter g args) w) (hK : ∀ k, K k → k < w.heap.size) :
  Calls Tryz.prog 138 #[.slice none 0 0, .func (.func g) #[] lb] w fun e w' => ∃ v, e = .returned v ∧ w'.ownsRow w.heap.size 158 3 v xs.length (fl rnC xs) ∧ Below w.heap.size w w' := by
 obtain ⟨i0, hi, hz0, hz1, hz2⟩ := infoRn_parts
 obtain ⟨s, hs⟩ : ∃ s, w.heap.size = s := ⟨_, rfl⟩
 obtain ⟨W0, hW0⟩ : ∃ W0, w.alloc (.cells #[.slice none 0 0] 83) = W0 := ⟨_, rfl⟩
 have hs0 : W0.heap.size = s + 1 := by rw [← hW0, ← hs]; simp
 have kO : Blk W0 s 83 #[.slice none 0 0] := by rw [← hW0, ← hs]; exact Blk.new _ _ _
 have hb0 : Below s w W0 := by rw [← hW0, ← hs]; exact (Below.refl w.heap.size w).alloc (Nat.le_refl _) _
 have hF0 : Far (fun _ => False) w W0 := .of_below (by rw [hs]; exact hb0)
 have hW1 := Lib.hid hW0
 clear hW0
 refine calls_of_marks Tryz.func138 rfl ?_
 simp only [Tryz.ntmps138, List.size_toArray, List.length_cons, List.length_nil, Nat.reduceAdd, Nat.reduceSub, Array.replicate_succ, Array.replicate_zero, List.push_toArray, List.append_toArray, List.nil_append, List.cons_append]
 go_wp2_with fail
 rw [hW1.out]
 clear hW1
 have ls1 := kO.lt
 have hlen : ∀ (pre : List Rn) (x : Rn), pre ++ [x] <+: xs → pre.length < 1000000 := fun pre x h => by
  have := h.length_le
  simp at this
  omega
 refine rangeXR 5 7 158 (gf := g) (lb := lb) rfl eg (hseq.later (hF0.mono fun _ _ h => h.elim)) rfl (fun _ h => h.elim) (fun k h => by have := hK k h; omega)
  (fun X pre W => BoxX X W s 83 158 (s + 3) 3 pre.length (fl rnC pre) ∧ Below s w W ∧ ∀ k, X k → s ≤ k)
  (fun _ _ _ _ => False)
  (fun X pre A B h hf => ⟨h.1.far hf (by rintro (h | h | h | h) <;> first | exact h | exact h.elim | omega) (fun g hg => by rintro (h | h | h | h) <;> first | exact h | exact h.elim | omega),
   h.2.1.trans (hf.below (by rw [← hs]; exact h.2.1.size) (fun k hk => by rintro (h' | h' | h' | h'); exact h'; have := h.2.2 k h'; omega; omega; omega)), h.2.2⟩)
  (fun _ _ _ _ _ h _ => h.elim)
  (fun X X' pre A h hX => ⟨h.1.new hX, h.2.1, fun k hk => (hX _ hk).elim (h.2.2 k) (fun h' => by have := h.2.1.size; omega)⟩)
  ⟨⟨_, kO, World.ownsRow_nil _ _ _ _, id, fun _ _ => id⟩, hb0, fun _ h => h.elim⟩ ?assign ?body ?done (fun _ _ _ _ _ _ h _ => h.elim)
 case assign =>
  intro m l x W C hC
  obtain ⟨xn, xc, xl⟩ := x
  simp only [rnV, List.setIfInBounds_toArray, List.set_cons_succ, List.set_cons_zero] at hC ⊢
  gi_wp2
  exact hC
 case body =>
  rintro m l X pre x Bx Wa W hsz hXlt ⟨hbox, hB, hXs⟩ hpre hBx kx hBa
  simp only [List.setIfInBounds_toArray, List.set_cons_succ, List.set_cons_zero]
  have hlt := hlen pre x hpre
  obtain ⟨v, hv, hrow, hXB, hXg⟩ := hbox.ex
  obtain ⟨A', cap', rfl, _⟩ := own_Rd hrow
  obtain ⟨pl, hpl⟩ : ∃ pl, pre.length = pl := ⟨_, rfl⟩
  obtain ⟨xa, xo, xl⟩ := x
  dsimp only at kx
  have cx := kx.cell
  have cv := hv.cell
  have fv := hv.frozen
  have kN := Blk.new W 158 #[.int .i64 xa, .int .i64 xo, .int .i64 xl]
  have hXl2 : ∀ k, X k → k < W.heap.size := fun k hk => by have := (hXlt k hk).1; have := kx.lt; omega
  rw [hpl] at hrow hv cv hlt hXg
  gi_wp2_with (gi_at_builtin; refine wpListIn_append_x _ rfl (.tmp 8) (.tmp 10) 83 rfl (s + 3) 158 i0 (.agg #[.int .i64 0, .int .i64 0, .int .i64 0]) 3 24 Tryz.underlying83 hi hz0 hz1 hz2 rfl (by decide) _ pl (fl rnC pre) rfl (hrow.alloc _) ⟨W.heap.size, 0, none⟩ 1 1 [.int .i64 xa, .int .i64 xo, .int .i64 xl] rfl rfl (news_rn kN) news_oneR (by unfold maxLen; omega) (by omega) (by simp; omega) ?_; intro v' w1 hown' hgrow hblk; rw [← rnC_snoc pre (xa, xo, xl)] at hown'; obtain ⟨hv1, hb2, hf2⟩ := BoxX.appended hv (by decide) hrow hXB hXg hown' hgrow hblk hXl2; obtain ⟨A2, cap2, rfl, _⟩ := own_Rd hown'; have cv1 := hv1.cell; have fv1 := hv1.frozen)
  have hgx : ∀ g, (Value.slice A' pl cap').ownBlock = some g → s + 3 ≤ g ∧ ¬ X g := fun g hg => ⟨(hrow.lt g hg).1, hXg g hg⟩
  have hf3 := hf2 (fun k => k = s ∨ (Value.slice A' pl cap').ownBlock = some k) (.inl rfl) (fun g hg => .inr hg)
  refine ⟨hf3.mono fun k _ h => ?_, ?_, hB.trans (hf3.below (by have := hB.size; omega) fun k hk => ?_), hXs⟩
  ·rintro (h' | h' | h' | h')
   ·have := hK k h'
    rcases h with h | h
    ·omega
    ·have := hgx k h; omega
   ·rcases h with h | h
    ·exact hXB (h ▸ h')
    ·exact (hgx k h).2 h'
   ·rcases h with h | h
    ·omega
    ·have := hgx k h; omega
   ·rcases h with h | h
    ·omega
    ·have := hgx k h; omega
  ·rw [List.length_append, List.length_singleton, hpl]; exact hb2
  ·rintro (h | h)
   ·omega
   ·have := hgx _ h; omega
 case done =>
  rintro X W hsz ⟨hbox, hB, hXs⟩ hd
  obtain ⟨v, hv, hrow, hXB, hXg⟩ := hbox.ex
  have cv := hv.cell
  obtain ⟨A', cap', rfl, _⟩ := own_Rd hrow
  rw [hs0] at hd hsz
  go_wp2_with fail
  rw [hs0]
  have hfp : Far (fun k => k = s + 1) W (W.putObj (s + 1) (.deferred none)) := Far.putObj (T := fun k => k = s + 1) (Far.refl _ _) (fun _ => rfl) _
  have hrow3 := ownsRow_far hrow hfp (fun g hg h => by have := (hrow.lt g hg).1; omega)
  exact leave_mark (v := .slice A' xs.length cap') hd (by simp [results, Tryz.results138, go_sem]) ⟨_, rfl, ownsRow_base hrow3 (by omega), by rw [hs]; exact hB.trans (hfp.below (by have := hB.size; omega) (fun k hk => by omega))⟩
theorem collectR_any (g : Nat) (lb : Array Value) (K : Nat → Prop) (xs : List Rn) (w : World) (hxs : xs.length ≤ 1000000)
  (hseq : SeqX Tryz.prog g lb rnA (fun _ => False) K xs w) (eg : ∀ args w, (callFunc g args).run Tryz.prog w = .ok (.enter g args) w) (hK : ∀ k, K k → k < w.heap.size) :
  Calls Tryz.prog 77 #[.func (.func g) #[] lb] w fun e w' => ∃ v, e = .returned v ∧ w'.ownsRow w.heap.size 158 3 v xs.length (fl rnC xs) ∧ Below w.heap.size w w' := by
 have HA := Lib.hid (appendSeqR_any g lb K xs w hxs hseq eg hK)
 go_enter Tryz.func77, Tryz.ntmps77
 go_wp2_with (go_at_call 138; refine (HA.out).mono ?_; rintro e w1 ⟨v, rfl, hown, hf⟩)
 go_ret
 exact ⟨v, rfl, hown, hf⟩
end Go.Proofs.YtjmmgoijnhnnaaaGreat
namespace Go.Proofs.YtjmmgoijnhnnaaaGreat
open Go Go.Proofs Go.RowKit Go.Pol
theorem wp_valU {P : Program} {o : Oper} {a : Act} {w w' : World} {v : Value} {K : Act → World → Prop} {Q : Exit → Act → World → Prop} (h : (execOp a.eval o).run P w = .ok (.value v) w') (hK : K (a.put o.dst v) w') : o.wp P a w K Q := by
 unfold Oper.wp; rw [h]; exact hK
theorem step_plainU {P : Program} {ops : Array Oper} {o : Oper} {a : Act} {w : World} {K : Act → World → Prop} {Q : Exit → Act → World → Prop} {E : Prop} (hg : o.guard = none) (h : o.wp P a w K Q) :
  if Region.wanted o (yielded ops a.tmps) = true then o.wp P a w K Q else E := by
 rw [if_pos (by simp [Region.wanted, hg])]; exact h
theorem putU (a : Act) (t : Nat) (x y : Value) : (a.put (some t) x).put (some t) y = a.put (some t) y := by simp [Act.put]
theorem swapU (a : Act) (t u : Nat) (x y : Value) (h : t ≠ u) : (a.put (some t) x).put (some u) y = (a.put (some u) y).put (some t) x := Act.put_comm a x y (fun d hd he => by cases hd; cases he; exact h rfl)
theorem evalU_same (a : Act) (t : Nat) (x : Value) (h : t < a.tmps.size) : (a.put (some t) x).eval (.tmp t) = x := by simp [Act.eval, Act.put, h]
theorem evalU_ne (a : Act) (t u : Nat) (x : Value) (h : t ≠ u) : (a.put (some t) x).eval (.tmp u) = a.eval (.tmp u) := Act.eval_put (fun d hd he => by cases hd; cases he; exact h rfl)
theorem sizeU (a : Act) (t : Nat) (x : Value) : (a.put (some t) x).tmps.size = a.tmps.size := by simp [Act.put]
def regOpsU (n : Nat) : Code → Option (Array Oper)
 | .region id ops _ => if id = n then some ops else none
 | .seq a b => match regOpsU n a with
  | some l => some l
  | none => regOpsU n b
 | .block _ c => regOpsU n c
 | .loop c => regOpsU n c
 | .scope c => regOpsU n c
 | .cond _ a b => match regOpsU n a with
  | some l => some l
  | none => regOpsU n b
 | _ => none
theorem wp_enterV {P : Program} {o : Oper} {a : Act} {w w1 : World} {f : FuncId} {args : Array Value} {C : Value → World → Prop} {K : Act → World → Prop} {Q : Exit → Act → World → Prop} (h : (execOp a.eval o).run P w = .ok (.enter f args) w1)
  (hC : Calls P f args w1 fun e w' => ∃ v, e = .returned v ∧ C v w') (hK : ∀ v w', C v w' → K (a.put o.dst v) w') : o.wp P a w K Q := by
 unfold Oper.wp; rw [h]
 show Calls P f args w1 _
 refine hC.mono ?_
 rintro e w' ⟨v, rfl, hw⟩
 exact hK v w' hw
end Go.Proofs.YtjmmgoijnhnnaaaGreat
namespace Go.Pol
open Go Go.RowKit
theorem stC_one {v1 v2 v3 v4 : Value} (h1 : v1.oneCell' = true) (h2 : v2.oneCell' = true) (h3 : v3.oneCell' = true) (h4 : v4.oneCell' = true) (cs hs : Nat → Int) : ∀ x ∈ stC v1 v2 v3 v4 cs hs, x.oneCell' = true := by
 intro x hx
 simp only [stC, List.mem_cons] at hx
 rcases hx with rfl | rfl | rfl | hx
 ·exact h1
 ·exact h2
 ·exact h3
 ·exact rfC_one h4 cs hs x hx
end Go.Pol
namespace Go.Proofs.YtjmmgoijnhnnaaaGreat
open Go Go.Proofs Go.RowKit Go.Pol Go.Shelf
attribute [local go_sem] Oper.semAt_some Go.Pol.wide_fn Go.Pol.wide_depth Go.Pol.wide_fn' Go.Pol.wide_depth'
theorem wp_storeU {P : Program} {op : Oper} {a : Act} {w : World} {K : Act → World → Prop} {Q : Exit → Act → World → Prop} (ty : TypeId) (x y : Operand) (ho : op.op = .store ty x y) (hd : op.dst = none)
  (b o : Nat) (cells : Array Value) (hx : a.eval x = .pointer (some ⟨b, o, none⟩)) (hy : a.eval y = .agg cells)
  (ht : w.there b o cells.size) (hi : (P.info? ty).map (·.size) = some cells.size) (h1 : cells.all (·.oneCell') = true)
  (h : K a (w.setCells b o cells.toList)) : op.wp P a w K Q :=
 wp_store_mid ty x y ho b o cells hx hy ht hi h1 (by rw [hd]; exact h)
theorem infoSt : (Tryz.prog.info? 87).map (·.size) = some 18 := by kernel_rfl
def lpput (a : Act) (v10 v11 v12 v13 v14 v15 v16 v17 v3 : Value) : Act := ((((((((a.put (some 10) v10).put (some 11) v11).put (some 12) v12).put (some 13) v13).put (some 14) v14).put (some 15) v15).put (some 16) v16).put (some 17) v17).put (some 3) v3
theorem lp_self (a : Act) (hsz : 68 ≤ a.tmps.size) : lpput a (a.eval (.tmp 10)) (a.eval (.tmp 11)) (a.eval (.tmp 12)) (a.eval (.tmp 13)) (a.eval (.tmp 14)) (a.eval (.tmp 15)) (a.eval (.tmp 16)) (a.eval (.tmp 17)) (a.eval (.tmp 3)) = a := by
 have h : ∀ t : Nat, t < 68 → a.put (some t) (a.eval (.tmp t)) = a := fun t ht => by
  have : a.tmps.setIfInBounds t (a.eval (.tmp t)) = a.tmps := by
   apply Array.ext_getElem?
   intro i
   rw [Array.getElem?_setIfInBounds]
   split
   ·rename_i e; subst e
    have : t < a.tmps.size := by omega
    simp [Act.eval, this]
   ·rfl
  simp only [Act.put, this]
 unfold lpput
 rw [h 10 (by omega), h 11 (by omega), h 12 (by omega), h 13 (by omega), h 14 (by omega), h 15 (by omega), h 16 (by omega), h 17 (by omega), h 3 (by omega)]
section
variable (a : Act) (v10 v11 v12 v13 v14 v15 v16 v17 v3 x : Value)
theorem lp_10 : (lpput a v10 v11 v12 v13 v14 v15 v16 v17 v3).put (some 10) x = lpput a x v11 v12 v13 v14 v15 v16 v17 v3 := by
 unfold lpput
 rw [swapU _ 3 10 _ _ (by omega), swapU _ 17 10 _ _ (by omega), swapU _ 16 10 _ _ (by omega), swapU _ 15 10 _ _ (by omega), swapU _ 14 10 _ _ (by omega), swapU _ 13 10 _ _ (by omega), swapU _ 12 10 _ _ (by omega), swapU _ 11 10 _ _ (by omega), putU]
theorem lp_11 : (lpput a v10 v11 v12 v13 v14 v15 v16 v17 v3).put (some 11) x = lpput a v10 x v12 v13 v14 v15 v16 v17 v3 := by
 unfold lpput
 rw [swapU _ 3 11 _ _ (by omega), swapU _ 17 11 _ _ (by omega), swapU _ 16 11 _ _ (by omega), swapU _ 15 11 _ _ (by omega), swapU _ 14 11 _ _ (by omega), swapU _ 13 11 _ _ (by omega), swapU _ 12 11 _ _ (by omega), putU]
theorem lp_12 : (lpput a v10 v11 v12 v13 v14 v15 v16 v17 v3).put (some 12) x = lpput a v10 v11 x v13 v14 v15 v16 v17 v3 := by
 unfold lpput
 rw [swapU _ 3 12 _ _ (by omega), swapU _ 17 12 _ _ (by omega), swapU _ 16 12 _ _ (by omega), swapU _ 15 12 _ _ (by omega), swapU _ 14 12 _ _ (by omega), swapU _ 13 12 _ _ (by omega), putU]
theorem lp_13 : (lpput a v10 v11 v12 v13 v14 v15 v16 v17 v3).put (some 13) x = lpput a v10 v11 v12 x v14 v15 v16 v17 v3 := by
 unfold lpput
 rw [swapU _ 3 13 _ _ (by omega), swapU _ 17 13 _ _ (by omega), swapU _ 16 13 _ _ (by omega), swapU _ 15 13 _ _ (by omega), swapU _ 14 13 _ _ (by omega), putU]
theorem lp_14 : (lpput a v10 v11 v12 v13 v14 v15 v16 v17 v3).put (some 14) x = lpput a v10 v11 v12 v13 x v15 v16 v17 v3 := by
 unfold lpput
 rw [swapU _ 3 14 _ _ (by omega), swapU _ 17 14 _ _ (by omega), swapU _ 16 14 _ _ (by omega), swapU _ 15 14 _ _ (by omega), putU]
theorem lp_15 : (lpput a v10 v11 v12 v13 v14 v15 v16 v17 v3).put (some 15) x = lpput a v10 v11 v12 v13 v14 x v16 v17 v3 := by
 unfold lpput
 rw [swapU _ 3 15 _ _ (by omega), swapU _ 17 15 _ _ (by omega), swapU _ 16 15 _ _ (by omega), putU]
theorem lp_16 : (lpput a v10 v11 v12 v13 v14 v15 v16 v17 v3).put (some 16) x = lpput a v10 v11 v12 v13 v14 v15 x v17 v3 := by
 unfold lpput
 rw [swapU _ 3 16 _ _ (by omega), swapU _ 17 16 _ _ (by omega), putU]
theorem lp_17 : (lpput a v10 v11 v12 v13 v14 v15 v16 v17 v3).put (some 17) x = lpput a v10 v11 v12 v13 v14 v15 v16 x v3 := by
 unfold lpput
 rw [swapU _ 3 17 _ _ (by omega), putU]
theorem lp_3 : (lpput a v10 v11 v12 v13 v14 v15 v16 v17 v3).put (some 3) x = lpput a v10 v11 v12 v13 v14 v15 v16 v17 x := by
 unfold lpput
 rw [putU]
end
section
variable (a : Act) (hsz : 68 ≤ a.tmps.size) (v10 v11 v12 v13 v14 v15 v16 v17 v3 : Value)
include hsz
theorem lpev_10 : (lpput a v10 v11 v12 v13 v14 v15 v16 v17 v3).eval (.tmp 10) = v10 := by
 unfold lpput
 rw [evalU_ne _ 3 10 _ (by omega), evalU_ne _ 17 10 _ (by omega), evalU_ne _ 16 10 _ (by omega), evalU_ne _ 15 10 _ (by omega), evalU_ne _ 14 10 _ (by omega), evalU_ne _ 13 10 _ (by omega), evalU_ne _ 12 10 _ (by omega), evalU_ne _ 11 10 _ (by omega), evalU_same _ _ _ (by omega)]
theorem lpev_11 : (lpput a v10 v11 v12 v13 v14 v15 v16 v17 v3).eval (.tmp 11) = v11 := by
 unfold lpput
 rw [evalU_ne _ 3 11 _ (by omega), evalU_ne _ 17 11 _ (by omega), evalU_ne _ 16 11 _ (by omega), evalU_ne _ 15 11 _ (by omega), evalU_ne _ 14 11 _ (by omega), evalU_ne _ 13 11 _ (by omega), evalU_ne _ 12 11 _ (by omega), evalU_same _ _ _ (by rw [sizeU]; omega)]
theorem lpev_12 : (lpput a v10 v11 v12 v13 v14 v15 v16 v17 v3).eval (.tmp 12) = v12 := by
 unfold lpput
 rw [evalU_ne _ 3 12 _ (by omega), evalU_ne _ 17 12 _ (by omega), evalU_ne _ 16 12 _ (by omega), evalU_ne _ 15 12 _ (by omega), evalU_ne _ 14 12 _ (by omega), evalU_ne _ 13 12 _ (by omega), evalU_same _ _ _ (by rw [sizeU, sizeU]; omega)]
theorem lpev_13 : (lpput a v10 v11 v12 v13 v14 v15 v16 v17 v3).eval (.tmp 13) = v13 := by
 unfold lpput
 rw [evalU_ne _ 3 13 _ (by omega), evalU_ne _ 17 13 _ (by omega), evalU_ne _ 16 13 _ (by omega), evalU_ne _ 15 13 _ (by omega), evalU_ne _ 14 13 _ (by omega), evalU_same _ _ _ (by rw [sizeU, sizeU, sizeU]; omega)]
theorem lpev_14 : (lpput a v10 v11 v12 v13 v14 v15 v16 v17 v3).eval (.tmp 14) = v14 := by
 unfold lpput
 rw [evalU_ne _ 3 14 _ (by omega), evalU_ne _ 17 14 _ (by omega), evalU_ne _ 16 14 _ (by omega), evalU_ne _ 15 14 _ (by omega), evalU_same _ _ _ (by rw [sizeU, sizeU, sizeU, sizeU]; omega)]
theorem lpev_15 : (lpput a v10 v11 v12 v13 v14 v15 v16 v17 v3).eval (.tmp 15) = v15 := by
 unfold lpput
 rw [evalU_ne _ 3 15 _ (by omega), evalU_ne _ 17 15 _ (by omega), evalU_ne _ 16 15 _ (by omega), evalU_same _ _ _ (by rw [sizeU, sizeU, sizeU, sizeU, sizeU]; omega)]
theorem lpev_16 : (lpput a v10 v11 v12 v13 v14 v15 v16 v17 v3).eval (.tmp 16) = v16 := by
 unfold lpput
 rw [evalU_ne _ 3 16 _ (by omega), evalU_ne _ 17 16 _ (by omega), evalU_same _ _ _ (by rw [sizeU, sizeU, sizeU, sizeU, sizeU, sizeU]; omega)]
theorem lpev_17 : (lpput a v10 v11 v12 v13 v14 v15 v16 v17 v3).eval (.tmp 17) = v17 := by
 unfold lpput
 rw [evalU_ne _ 3 17 _ (by omega), evalU_same _ _ _ (by rw [sizeU, sizeU, sizeU, sizeU, sizeU, sizeU, sizeU]; omega)]
theorem lpev_3 : (lpput a v10 v11 v12 v13 v14 v15 v16 v17 v3).eval (.tmp 3) = v3 := by
 unfold lpput
 rw [evalU_same _ _ _ (by rw [sizeU, sizeU, sizeU, sizeU, sizeU, sizeU, sizeU, sizeU]; omega)]
omit hsz in
theorem lpev_0 : (lpput a v10 v11 v12 v13 v14 v15 v16 v17 v3).eval (.tmp 0) = a.eval (.tmp 0) := by
 unfold lpput
 rw [evalU_ne _ 3 0 _ (by omega), evalU_ne _ 17 0 _ (by omega), evalU_ne _ 16 0 _ (by omega), evalU_ne _ 15 0 _ (by omega), evalU_ne _ 14 0 _ (by omega), evalU_ne _ 13 0 _ (by omega), evalU_ne _ 12 0 _ (by omega), evalU_ne _ 11 0 _ (by omega), evalU_ne _ 10 0 _ (by omega)]
end
noncomputable def saveOps : Array Oper := (Tryz.f26.body.bind (regOpsU 3)).getD #[]
def clR (B1 : Nat) : Value := .func (.func 139) #[] #[.pointer (some ⟨B1, 0, none⟩)]
def SaveInv (a0 : Act) (w0 : World) (b : Nat) (V : Vm) (rv : Value) (D : Nat → Bool) (a : Act) (w : World) : Prop :=
 ∃ (v10 v11 v12 v13 v14 v15 v16 v17 v3 : Value) (B1 s3 : Nat), a = lpput a0 v10 v11 v12 v13 v14 v15 v16 v17 v3 ∧ Below w0.heap.size w0 w ∧ (D 0 = true → v10 = .pointer (some ⟨b, 0, none⟩)) ∧
  (D 1 = true → v11 = clR B1 ∧ w0.heap.size ≤ B1 ∧ Blk w B1 44 #[.pointer (some ⟨b, 0, none⟩)]) ∧
  (D 2 = true → w.ownsRow w0.heap.size 158 3 v12 (vrunsL V 1024).length (fl rnC (vrunsL V 1024))) ∧
  (D 3 = true → v13 = .pointer (some ⟨b, 0, none⟩)) ∧ (D 4 = true → v14 = .pointer (some ⟨b, 0, none⟩)) ∧ (D 5 = true → v15 = .pointer (some ⟨b, 67585, none⟩)) ∧ (D 6 = true → v16 = rfV rv V.rf.calls V.rf.hits) ∧
  (D 7 = true → v17 = .agg (stC v12 (.slice none 0 0) (.slice none 0 0) rv V.rf.calls V.rf.hits).toArray) ∧
  (D 8 = true → v3 = .pointer (some ⟨s3, 0, none⟩) ∧ w0.heap.size ≤ s3 ∧ Blk w s3 87 (if D 9 = true then (stC v12 (.slice none 0 0) (.slice none 0 0) rv V.rf.calls V.rf.hits).toArray else (stC (.slice none 0 0) (.slice none 0 0) (.slice none 0 0) (.slice none 0 0) (fun _ => 0) (fun _ => 0)).toArray)) ∧
  (D 9 = true → D 8 = true ∧ D 7 = true) ∧ (D 7 = true → D 2 = true ∧ D 6 = true)
attribute [local irreducible] Oper.wp in
set_option maxHeartbeats 3200000 in
theorem save_first {Q : Exit → Act → World → Prop} (a0 : Act) (w0 : World) (b : Nat) (cs : Array Value) (V : Vm) (A : Option Addr) (n cap : Nat) (hsz : 68 ≤ a0.tmps.size) (hp0 : a0.eval (.tmp 0) = .pointer (some ⟨b, 0, none⟩))
  (kS : Blk w0 b 71 cs) (hc : SysC cs (.slice A n cap) V)
  (hQ : ∀ (B1 s3 : Nat) (v12 : Value) (w' : World), w0.heap.size ≤ s3 → Blk w' s3 87 (stC v12 (.slice none 0 0) (.slice none 0 0) (.slice A n cap) V.rf.calls V.rf.hits).toArray → w'.ownsRow w0.heap.size 158 3 v12 (vrunsL V 1024).length (fl rnC (vrunsL V 1024)) → Below w0.heap.size w0 w' →
   Q .normal (lpput a0 (.pointer (some ⟨b, 0, none⟩)) (clR B1) v12 (.pointer (some ⟨b, 0, none⟩)) (.pointer (some ⟨b, 0, none⟩)) (.pointer (some ⟨b, 67585, none⟩)) (rfV (.slice A n cap) V.rf.calls V.rf.hits) (.agg (stC v12 (.slice none 0 0) (.slice none 0 0) (.slice A n cap) V.rf.calls V.rf.hits).toArray) (.pointer (some ⟨s3, 0, none⟩))) w') :
  (Code.region 3 saveOps true).wp Tryz.prog Q a0 w0 := by
 conv => arg 2; arg 2; whnf
 have hbl := kS.lt
 refine region_inv (SaveInv a0 w0 b V (.slice A n cap)) (by kernel_rfl) (by simp [edgesDown, Region.binds]) ?ext ?start ?steps ?fin
 case ext =>
  intro D D' a w h hI
  have e : ∀ i, i < 10 → D i = D' i := h
  have : SaveInv a0 w0 b V (.slice A n cap) D a w = SaveInv a0 w0 b V (.slice A n cap) D' a w := by
   unfold SaveInv
   simp only [e 0 (by omega), e 1 (by omega), e 2 (by omega), e 3 (by omega), e 4 (by omega), e 5 (by omega), e 6 (by omega), e 7 (by omega), e 8 (by omega), e 9 (by omega)]
  exact this ▸ hI
 case start =>
  intro D h
  have n : ∀ i, i < 10 → ¬ (D i = true) := fun i hi => by rw [h i hi]; decide
  exact ⟨_, _, _, _, _, _, _, _, _, 0, 0, (lp_self a0 hsz).symm, (Below.refl _ w0).drew, fun h => absurd h (n 0 (by omega)), fun h => absurd h (n 1 (by omega)), fun h => absurd h (n 2 (by omega)), fun h => absurd h (n 3 (by omega)), fun h => absurd h (n 4 (by omega)), fun h => absurd h (n 5 (by omega)), fun h => absurd h (n 6 (by omega)), fun h => absurd h (n 7 (by omega)), fun h => absurd h (n 8 (by omega)), fun h => absurd h (n 9 (by omega)), fun h => absurd h (n 7 (by omega))⟩
 case fin =>
  rintro a w ⟨v10, v11, v12, v13, v14, v15, v16, v17, v3, B1, s3, rfl, hb, h0, h1, h2, h3, h4, h5, h6, h7, h8, _, _⟩
  obtain rfl := h0 rfl
  obtain ⟨rfl, _, _⟩ := h1 rfl
  obtain rfl := h3 rfl
  obtain rfl := h4 rfl
  obtain rfl := h5 rfl
  obtain rfl := h6 rfl
  obtain rfl := h7 rfl
  obtain ⟨rfl, g8, k8⟩ := h8 rfl
  simp only [if_true] at k8
  exact hQ B1 s3 v12 w g8 k8 (h2 rfl) hb
 case steps =>
  refine ⟨?_, ?_, ?_, ?_, ?_, ?_, ?_, ?_, ?_, ?_, trivial⟩
  all_goals (rintro D a w ⟨v10, v11, v12, v13, v14, v15, v16, v17, v3, B1, s3, rfl, hb, h0, h1, h2, h3, h4, h5, h6, h7, h8, h98, h76⟩ hk he)
  all_goals (refine step_plainU rfl ?_)
  ·refine wp_valU (v := .pointer (some ⟨b, 0, none⟩)) (w' := w) (by simp only [execOp, lpev_0, hp0]; simp [go_sem]) ?_
   show SaveInv a0 w0 b V (.slice A n cap) _ ((lpput a0 v10 v11 v12 v13 v14 v15 v16 v17 v3).put (some 10) _) _; rw [lp_10]
   refine ⟨_, _, _, _, _, _, _, _, _, B1, s3, rfl, hb, ?_⟩
   simp only [Nat.reduceBEq, Bool.true_or, Bool.false_or, forall_const]
   exact ⟨trivial, h1, h2, h3, h4, h5, h6, h7, h8, h98, h76⟩
  ·have e := h0 (he ⟨0, .data⟩ (by simp) rfl)
   have ev' : (lpput a0 v10 v11 v12 v13 v14 v15 v16 v17 v3).tmps[10]?.getD undef = .pointer (some ⟨b, 0, none⟩) := by
    have := (lpev_10 a0 hsz v10 v11 v12 v13 v14 v15 v16 v17 v3).trans e
    simpa [Act.eval] using this
   refine wp_enterV (f := 78) (args := #[.pointer (some ⟨b, 0, none⟩)]) (w1 := w) (C := fun v w' => v = clR w.heap.size ∧ w' = w.alloc (.cells #[.pointer (some ⟨b, 0, none⟩)] 44)) (by simp only [execOp]; simp [go_sem, ev']) ((vruns_any b w).mono fun e w' ⟨h1, h2⟩ => ⟨_, h1, rfl, h2⟩) ?_
   rintro v w' ⟨rfl, rfl⟩
   show SaveInv a0 w0 b V (.slice A n cap) _ ((lpput a0 v10 v11 v12 v13 v14 v15 v16 v17 v3).put (some 11) _) _; rw [lp_11]
   refine ⟨_, _, _, _, _, _, _, _, _, w.heap.size, s3, rfl, hb.alloc hb.size _, ?_⟩
   simp only [Nat.reduceBEq, Nat.reduceAdd, Bool.true_or, Bool.false_or, forall_const]
   have hbA := (Below.refl w.heap.size w).alloc (Nat.le_refl _) (.cells #[.pointer (some ⟨b, 0, none⟩)] 44)
   exact ⟨h0, ⟨trivial, hb.size, Blk.new _ _ _⟩, fun d => ownsRow_call (h2 d) hbA, h3, h4, h5, h6, h7, fun d => ⟨(h8 d).1, (h8 d).2.1, (h8 d).2.2.call hbA⟩, h98, h76⟩
  ·obtain ⟨rfl, g1, k1⟩ := h1 (he ⟨1, .data⟩ (by simp) rfl)
   have ev' : (lpput a0 v10 (clR B1) v12 v13 v14 v15 v16 v17 v3).tmps[11]?.getD undef = clR B1 := by
    have := lpev_11 a0 hsz v10 (clR B1) v12 v13 v14 v15 v16 v17 v3
    simpa [Act.eval] using this
   have hd7 : D 7 = false := by cases h : D 7 with | false => rfl | true => rw [(h76 h).1] at hk; cases hk
   have hd9 : D 9 = false := by
    cases h : D 9 with
    | false => rfl
    | true => rw [(h98 h).2] at hd7; cases hd7
   refine wp_enterV (f := 77) (args := #[clR B1]) (w1 := w) (C := fun v w' => w'.ownsRow w.heap.size 158 3 v (vrunsL V 1024).length (fl rnC (vrunsL V 1024)) ∧ Below w.heap.size w w') (by simp only [execOp]; simp [go_sem, ev']) ((collectR_any _ _ (fun k => k = b ∨ k = B1) (vrunsL V 1024) w (Nat.le_trans (vrunsL_len V 1024) (by omega)) (vruns1_seq b B1 V cs _ _ w (.inl rfl) (.inr rfl) k1 (kS.call hb) hc) vruns1_enters (fun k hk => hk.elim (fun h => by rw [h]; exact Nat.lt_of_lt_of_le hbl hb.size) (fun h => by rw [h]; exact k1.lt))).mono fun e w' ⟨v, h1, h2, h3⟩ => ⟨v, h1, h2, h3⟩) ?_
   rintro v w' ⟨hrow, hbA⟩
   show SaveInv a0 w0 b V (.slice A n cap) _ ((lpput a0 v10 (clR B1) v12 v13 v14 v15 v16 v17 v3).put (some 12) _) _; rw [lp_12]
   refine ⟨_, _, _, _, _, _, _, _, _, B1, s3, rfl, hb.trans (hbA.mono hb.size), ?_⟩
   simp only [Nat.reduceBEq, Nat.reduceAdd, Bool.true_or, Bool.false_or, forall_const]
   simp only [hd7, hd9] at h7 h8 ⊢
   exact ⟨h0, fun _ => ⟨trivial, g1, k1.call hbA⟩, ownsRow_base hrow hb.size, h3, h4, h5, h6, fun d => (by cases d), fun d => ⟨(h8 d).1, (h8 d).2.1, (h8 d).2.2.call hbA⟩, fun d => (by cases d), fun d => (by cases d)⟩
  ·refine wp_valU (v := .pointer (some ⟨b, 0, none⟩)) (w' := w) (by simp only [execOp, lpev_0, hp0]; simp [go_sem]) ?_
   show SaveInv a0 w0 b V (.slice A n cap) _ ((lpput a0 v10 v11 v12 v13 v14 v15 v16 v17 v3).put (some 13) _) _; rw [lp_13]
   refine ⟨_, _, _, _, _, _, _, _, _, B1, s3, rfl, hb, ?_⟩
   simp only [Nat.reduceBEq, Nat.reduceAdd, Bool.true_or, Bool.false_or, forall_const]
   exact ⟨h0, h1, h2, trivial, h4, h5, h6, h7, h8, h98, h76⟩
  ·have e := h3 (he ⟨3, .data⟩ (by simp) rfl)
   refine wp_valU (v := .pointer (some ⟨b, 0, none⟩)) (w' := w) (by simp only [execOp, lpev_13 _ hsz, e]; simp [go_sem]) ?_
   show SaveInv a0 w0 b V (.slice A n cap) _ ((lpput a0 v10 v11 v12 v13 v14 v15 v16 v17 v3).put (some 14) _) _; rw [lp_14]
   refine ⟨_, _, _, _, _, _, _, _, _, B1, s3, rfl, hb, ?_⟩
   simp only [Nat.reduceBEq, Nat.reduceAdd, Bool.true_or, Bool.false_or, forall_const]
   exact ⟨h0, h1, h2, h3, trivial, h5, h6, h7, h8, h98, h76⟩
  ·have e := h4 (he ⟨4, .data⟩ (by simp) rfl)
   refine wp_valU (v := .pointer (some ⟨b, 67585, none⟩)) (w' := w) (by simp only [execOp, lpev_14 _ hsz, e]; simp [go_sem]) ?_
   show SaveInv a0 w0 b V (.slice A n cap) _ ((lpput a0 v10 v11 v12 v13 v14 v15 v16 v17 v3).put (some 15) _) _; rw [lp_15]
   refine ⟨_, _, _, _, _, _, _, _, _, B1, s3, rfl, hb, ?_⟩
   simp only [Nat.reduceBEq, Nat.reduceAdd, Bool.true_or, Bool.false_or, forall_const]
   exact ⟨h0, h1, h2, h3, h4, trivial, h6, h7, h8, h98, h76⟩
  ·have e := h5 (he ⟨5, .data⟩ (by simp) rfl)
   have kb := kS.call hb
   have hrng : w.rangeAt b 67585 (rfC (.slice A n cap) V.rf.calls V.rf.hits) := fun j v hj => by
    have hj15 : j < 15 := (List.getElem?_eq_some_iff.1 hj).1
    rw [kb.cell, hc.rf j hj15]; exact hj
   have hd7 : D 7 = false := by cases h : D 7 with | false => rfl | true => rw [(h76 h).2] at hk; cases hk
   refine wp_load_mid 69 (.tmp 15) rfl b 67585 ((lpev_15 _ hsz ..).trans e) (rfC (.slice A n cap) V.rf.calls V.rf.hits) _ hrng Tryz.underlying69 rfl infoRf ?_
   show SaveInv a0 w0 b V (.slice A n cap) _ ((lpput a0 v10 v11 v12 v13 v14 v15 v16 v17 v3).put (some 16) _) _; rw [lp_16]
   refine ⟨_, _, _, _, _, _, _, _, _, B1, s3, rfl, hb, ?_⟩
   simp only [Nat.reduceBEq, Nat.reduceAdd, Bool.true_or, Bool.false_or, forall_const]
   simp only [hd7] at h7 ⊢
   exact ⟨h0, h1, h2, h3, h4, h5, rfl, fun d => (by cases d), h8, fun d => (by rw [(h98 d).2] at hd7; cases hd7), fun d => (by cases d)⟩
  ·have d2 := he ⟨2, .data⟩ (by simp) rfl
   have d6 := he ⟨6, .data⟩ (by simp) rfl
   obtain rfl := h6 d6
   obtain ⟨A', cap', rfl, _⟩ := own_Rd (h2 d2)
   have ev12 : (lpput a0 v10 v11 (.slice A' (vrunsL V 1024).length cap') v13 v14 v15 (rfV (.slice A n cap) V.rf.calls V.rf.hits) v17 v3).tmps[12]?.getD undef = .slice A' (vrunsL V 1024).length cap' := by
    have := lpev_12 a0 hsz v10 v11 (.slice A' (vrunsL V 1024).length cap') v13 v14 v15 (rfV (.slice A n cap) V.rf.calls V.rf.hits) v17 v3
    simpa [Act.eval] using this
   have ev16 : (lpput a0 v10 v11 (.slice A' (vrunsL V 1024).length cap') v13 v14 v15 (rfV (.slice A n cap) V.rf.calls V.rf.hits) v17 v3).tmps[16]?.getD undef = rfV (.slice A n cap) V.rf.calls V.rf.hits := by
    have := lpev_16 a0 hsz v10 v11 (.slice A' (vrunsL V 1024).length cap') v13 v14 v15 (rfV (.slice A n cap) V.rf.calls V.rf.hits) v17 v3
    simpa [Act.eval] using this
   refine wp_valU (v := .agg (stC (.slice A' (vrunsL V 1024).length cap') (.slice none 0 0) (.slice none 0 0) (.slice A n cap) V.rf.calls V.rf.hits).toArray) (w' := w) (by
    generalize lpput a0 v10 v11 (.slice A' (vrunsL V 1024).length cap') v13 v14 v15 (rfV (.slice A n cap) V.rf.calls V.rf.hits) v17 v3 = aa at *
    generalize (vrunsL V 1024).length = N at *
    unfold rfV rfC at ev16
    unfold stC rfC
    simp only [execOp]
    simp [go_sem, ev12, ev16]) ?_
   show SaveInv a0 w0 b V (.slice A n cap) _ ((lpput a0 v10 v11 (.slice A' (vrunsL V 1024).length cap') v13 v14 v15 (rfV (.slice A n cap) V.rf.calls V.rf.hits) v17 v3).put (some 17) _) _; rw [lp_17]
   refine ⟨_, _, _, _, _, _, _, _, _, B1, s3, rfl, hb, ?_⟩
   simp only [Nat.reduceBEq, Nat.reduceAdd, Bool.true_or, Bool.false_or, forall_const]
   exact ⟨h0, h1, h2, h3, h4, h5, fun _ => trivial, trivial, h8, fun d => ⟨(h98 d).1, trivial⟩, d2, d6⟩
  ·have hd9 : D 9 = false := by cases h : D 9 with | false => rfl | true => rw [(h98 h).1] at hk; cases hk
   have hbA := (Below.refl w.heap.size w).alloc (Nat.le_refl _) (.cells (stC (.slice none 0 0) (.slice none 0 0) (.slice none 0 0) (.slice none 0 0) (fun _ => 0) (fun _ => 0)).toArray 87)
   refine wp_valU (v := .pointer (some ⟨w.heap.size, 0, none⟩)) (w' := w.alloc (.cells (stC (.slice none 0 0) (.slice none 0 0) (.slice none 0 0) (.slice none 0 0) (fun _ => 0) (fun _ => 0)).toArray 87)) (by unfold stC rfC; simp [execOp, go_sem]) ?_
   show SaveInv a0 w0 b V (.slice A n cap) _ ((lpput a0 v10 v11 v12 v13 v14 v15 v16 v17 v3).put (some 3) _) _; rw [lp_3]
   refine ⟨_, _, _, _, _, _, _, _, _, B1, w.heap.size, rfl, hb.alloc hb.size _, ?_⟩
   simp only [Nat.reduceBEq, Nat.reduceAdd, Bool.true_or, Bool.false_or, forall_const]
   simp only [hd9]
   exact ⟨h0, fun d => ⟨(h1 d).1, (h1 d).2.1, (h1 d).2.2.call hbA⟩, fun d => ownsRow_call (h2 d) hbA, h3, h4, h5, h6, h7, ⟨trivial, hb.size, Blk.new _ _ _⟩, fun d => (by cases d), h76⟩
  ·have d8 := he ⟨8, .data⟩ (by simp) rfl
   have d7 := he ⟨7, .data⟩ (by simp) rfl
   obtain ⟨d2, d6⟩ := h76 d7
   obtain ⟨rfl, g8, k8⟩ := h8 d8
   obtain rfl := h7 d7
   have hrow := h2 d2
   obtain ⟨A', cap', rfl, _⟩ := own_Rd hrow
   have k8' : Blk w s3 87 (stC (.slice none 0 0) (.slice none 0 0) (.slice none 0 0) (.slice none 0 0) (fun _ => 0) (fun _ => 0)).toArray := by rw [hk] at k8; exact k8
   have hF := Far.puts (T := fun k => k = s3) rfl (stC (.slice A' (vrunsL V 1024).length cap') (.slice none 0 0) (.slice none 0 0) (.slice A n cap) V.rf.calls V.rf.hits) 0 w w (Far.refl _ _)
   have kP := Blk.puts (g := s3) (t := 87) (w := w) (cs := #[]) (stC (.slice A' (vrunsL V 1024).length cap') (.slice none 0 0) (.slice none 0 0) (.slice A n cap) V.rf.calls V.rf.hits) 0 w _ k8'
   rw [putA_all (by rfl)] at kP
   have hs18 : (stC (.slice A' (vrunsL V 1024).length cap') (.slice none 0 0) (.slice none 0 0) (.slice A n cap) V.rf.calls V.rf.hits).toArray.size = 18 := by rw [List.size_toArray]; rfl
   have ht : w.there s3 0 (stC (.slice A' (vrunsL V 1024).length cap') (.slice none 0 0) (.slice none 0 0) (.slice A n cap) V.rf.calls V.rf.hits).toArray.size := by rw [hs18]; exact z_there k8' 0 18 (by rw [List.size_toArray]; exact Nat.le_refl _)
   have hinf : (Tryz.prog.info? 87).map (·.size) = some (stC (.slice A' (vrunsL V 1024).length cap') (.slice none 0 0) (.slice none 0 0) (.slice A n cap) V.rf.calls V.rf.hits).toArray.size := by rw [hs18]; exact infoSt
   refine wp_storeU 87 (.tmp 3) (.tmp 17) rfl rfl s3 0 (stC (.slice A' (vrunsL V 1024).length cap') (.slice none 0 0) (.slice none 0 0) (.slice A n cap) V.rf.calls V.rf.hits).toArray (lpev_3 _ hsz ..) (lpev_17 _ hsz ..) ht hinf (Go.all_oneCell_toArray (stC_one rfl rfl rfl rfl _ _)) ?_
   refine ⟨_, _, _, _, _, _, _, _, _, B1, s3, rfl, hb.trans (hF.below hb.size (fun k hk e => by omega)), ?_⟩
   simp only [Nat.reduceBEq, Nat.reduceAdd, Bool.true_or, Bool.false_or, forall_const, if_true]
   exact ⟨h0, fun d => ⟨(h1 d).1, (h1 d).2.1, hF.blk (h1 d).2.2 (Blk.ne_ (h1 d).2.2 k8' (by decide))⟩, fun _ => ownsRow_far hrow hF (fun g hg h => own_other hrow (hg.trans (congrArg some h)) k8' (by decide)), h3, h4, h5, h6, fun _ => trivial, fun _ => ⟨trivial, g8, kP⟩, ⟨d8, d7⟩, h76⟩
def arrI (k : IntKind) (n : Nat) (f : Nat → Int) : Array Value := ((List.range n).map fun i => .int k (f i)).toArray
theorem arrI_at {k : IntKind} {n : Nat} {f : Nat → Int} {i : Nat} (h : i < n) : (arrI k n f)[i]? = some (.int k (f i)) := by
 unfold arrI
 rw [List.getElem?_toArray, List.getElem?_map, List.getElem?_range h]; rfl
theorem eqItems_u8 (f g : Nat → Int) (w : World) : ∀ is : List Nat, (∀ i ∈ is, i < 64) → (Op.eqItems 9999 5 1 (arrI .u8 64 f) (arrI .u8 64 g) is).run Tryz.prog w = .ok (is.all fun i => f i == g i) w
 | [], _ => by simp [Op.eqItems]
 | i :: is, h => by
  have ih := eqItems_u8 f g w is (fun j hj => h j (by simp [hj]))
  have h1 := arrI_at (k := .u8) (f := f) (h i (by simp))
  have h2 := arrI_at (k := .u8) (f := g) (h i (by simp))
  have a3 := Tryz.isAgg5
  have he := run_equalIn_int (P := Tryz.prog) w 9998 5 .u8 _ (f i) (g i) Tryz.underlying5
  generalize arrI .u8 64 f = X at *
  generalize arrI .u8 64 g = Y at *
  have p1 : (part 5 X (i * 1)).run Tryz.prog w = .ok (.int .u8 (f i)) w := by simp [part, a3, h1]
  have p2 : (part 5 Y (i * 1)).run Tryz.prog w = .ok (.int .u8 (g i)) w := by simp [part, a3, h2]
  simp only [Op.eqItems, Sem.run_bind, p1, p2, he, Result.andThen_ok, List.all_cons]
  cases f i == g i with
  | false => simp
  | true => simp only [Bool.not_true, Bool.false_eq_true, if_false, Bool.true_and]; exact ih
theorem eq64_any (f g : Nat → Int) (w : World) : (Op.equalIn 10000 63 (.agg (arrI .u8 64 f)) (.agg (arrI .u8 64 g))).run Tryz.prog w = .ok ((List.range 64).all fun i => f i == g i) w := by
 obtain ⟨i0, hi⟩ := info_of_underlying (P := Tryz.prog) Tryz.underlying5
 rw [run_equalIn_array w 9999 _ _ Tryz.underlying63 hi]
 have hc : Tryz.prog.cellsOf 5 = 1 := by kernel_rfl
 rw [hc]
 exact eqItems_u8 f g w _ (fun i hi => List.mem_range.1 hi)
end Go.Proofs.YtjmmgoijnhnnaaaGreat
