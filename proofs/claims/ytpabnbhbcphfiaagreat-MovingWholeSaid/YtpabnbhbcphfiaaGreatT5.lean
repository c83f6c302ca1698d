/- Merged texts. Walks of layer 6: a new system. Walks of layer 6: other refusals for a system; Counts. Walks of layer 6: Release, Decommit; first; Join. Walks of layer 6: Split; Counts. Walks of layer 6: where, Read, Write. Walks of law 13's own functions: system. Openers: what a system is made of (law 24's Made) as it comes in, and a case. A list turned round by swaps, from both ends. What moving's Do does to a system, said in plain words. Walks: slices.Collect over a function value that goes through spans; the usable pages of a plan. Walks: the reference's set of marked pages. Walks of layer 24 over a system: the runs of committed pages; bytes copied. Walks: the gaps of a set of spans in a span, Not. Walks: Hit and Least of layer 11. Walks: the examples of the document for layer 11. Walks: the reference's list of the pages of a set. Walks: the reference's usable pages and guards as sets. Walks: slices.Grow of nil, slices.Concat of two sets, Union. Walks: slices.Clone of spans, Of; the reference's Marks and Of. A range over a function value whose function ranges over another one: what the body must leave, it must leave too where it ends the loop. Walks: slices.IndexFunc and slices.ContainsFunc over ints; open$1. The reference's system in memory. Plain words for what a system's Save says: the runs of pages of one kind, the huge groups, the pages with bytes. Walks of layer 6: Save's first statement, whose order of evaluation is open. Walks of layer 6: Save. Walks of the reference of layer 6: Write, Join, Split, Plan, New. Walks of the reference of layer 6: the two regions of Save that draw their order, over any slots. Walks of layer 24 over a system: a place left. Walks of layer 24 over a system: a list of spans turned round. What moving's Do does, said in plain words; what After's answer says of the moves. -/
import Derived.Maps.AppendAt
import Derived.Shelf.Abstract
import Derived.Deep.MidRow
import Derived.Shelf.SlSortCmp.WholeK
import Derived.Ground.SlsfProg
import Derived.Shelf.Spec.SlicesGrow
import Derived.Ground.Names8Prog
import Derived.Test.YtpabnbhbcphfiaaGreatProg
import Derived.Sort.OwnSortedInts
import Derived.Laws.AppendOwnNone
import Derived.Sort.CutIn
import Derived.DeepKeys
import Derived.Great.BuildSlice
import Derived.Test.YtpabnbhbcphfiaaGreatT4
namespace Go.Pol
open Go Go.RowKit
/-- a new system is handed back -/
def NewO (w : World) (e : Ending) (w' : World) : Prop := ∃ b, e = .returned (.tuple #[.pointer (some ⟨b, 0, none⟩), .int .i64 0]) ∧ SysIs w' b newVm ∧ w.heap.size ≤ b ∧ Below w.heap.size w w'
end Go.Pol
namespace Go.Proofs.YtpabnbhbcphfiaaGreat
open Go Go.Proofs Go.RowKit Go.Pol Go.Shelf
attribute [local go_sem] Oper.semAt_some Go.Pol.wide_fn Go.Pol.wide_depth Go.Pol.wide_fn' Go.Pol.wide_depth'

set_option maxRecDepth 100000 in
set_option maxHeartbeats 1600000 in
theorem new_any (w : World) :
    Calls Tryz.prog 22 #[.agg #[.slice none 0 0]] w (NewO w) := by
  have hb0 := (Below.refl w.heap.size w).alloc (Nat.le_refl _) (.cells #[.slice none 0 0] 25)
  have k0 := Blk.new w 25 #[.slice none 0 0]
  have c0 := k0.cell
  have HS := Lib.hid (fun W => start_any none 0 0 [] W rfl (by omega) (fun _ => rfl) (fun k hk => absurd hk (by simp [fl])))
  go_enter Tryz.func22, Tryz.ntmps22
  go_wp2_with fail
  refine (HS.out _).mono ?_
  rintro e w1 hS
  rcases hS with ⟨h0, _⟩ | ⟨_, v, rfl, hv⟩
  · exact absurd (by decide) h0
  obtain ⟨A, cap, rfl, v1, v2, v3, v4, v5, hb1⟩ := hv
  simp only [List.length_nil]
  have B1 := hb0.trans (hb1.mono hb0.size)
  have hB2 := B1.alloc B1.size (.cells (rfC (.slice A 0 cap) (fun _ => 0) (fun _ => 0)).toArray 51)
  have hzs := Tryz.zeroCells133_size
  have hzz := zeroSys
  obtain ⟨zc, hzc⟩ : ∃ zc, Tryz.zeroCells133 = zc := ⟨_, rfl⟩
  rw [hzc] at hzs hzz
  have hne : ¬ zc = #[] := fun e => by rw [e] at hzs; simp at hzs
  have hC := Lib.hid (newSys hzz (.slice A 0 cap))
  have kz := Blk.new w1 51 (rfC (.slice A 0 cap) (fun _ => 0) (fun _ => 0)).toArray
  clear hzz c0 k0 v1 HS
  unfold rfC at hB2 kz
  unfold rfV rfC
  go_upto_region 4 with fail
  generalize w1.alloc _ = w2 at *
  have cz := kz.cell
  have hB3 := hB2.alloc hB2.size (.cells (putA (putA zc 0 [.bool true]) 67585 (rfC (.slice A 0 cap) (fun _ => 0) (fun _ => 0))) 133)
  have kS := Blk.new w2 133 (putA (putA zc 0 [.bool true]) 67585 (rfC (.slice A 0 cap) (fun _ => 0) (fun _ => 0)))
  have hbs := hB2.size
  go_wp2_with fail
  go_ret2
  refine ⟨w2.heap.size, rfl, ?_, hbs, hB3⟩
  refine ⟨_, A, 0, cap, kS, hC.out, rfl, fun k hk => absurd hk (by simp [fl, newVm]), v5.1, fun g o e h => absurd rfl h, ⟨by decide, fun k _ => ⟨Int.le_refl _, (by show (0 : Int) ≤ 1000000; decide)⟩, fun k _ => rfl⟩, fun g o e h => absurd rfl h⟩
end Go.Proofs.YtpabnbhbcphfiaaGreat
namespace Go.Pol
open Go Go.RowKit
/-- a plan begun -/
def newRf (l : List Ru) : Rf := ⟨l, fun _ => 0, fun _ => 0⟩
/-- a system with other refusals -/
def planF (V : Vm) (l : List Ru) : Vm := if (chkR l).2 = 0 then { V with rf := newRf l } else V
/-- are the kinds of all pages kinds? -/
def KindOk (V : Vm) : Prop := ∀ p, p < 1024 → 0 ≤ (V.pg p).kind ∧ (V.pg p).kind ≤ 3
end Go.Pol
namespace Go.Pol
open Go Go.RowKit
/-- is a number that of the first page of a group? -/
def fstB (p : Int) : Bool := decide (0 ≤ p) && decide (p < 1024) && decide (p % 16 = 0)
def Pg.hugeP (g : Pg) (h : Bool) : Pg := { g with huge := h }
end Go.Pol
namespace Go.Proofs.YtpabnbhbcphfiaaGreat
open Go Go.Proofs Go.RowKit Go.Pol Go.Shelf
attribute [local go_sem] Oper.semAt_some Go.Pol.wide_fn Go.Pol.wide_depth Go.Pol.wide_fn' Go.Pol.wide_depth'

theorem release_any (b : Nat) (a n : Int) (V : Vm) (w : World) (hV : SysIs w b V) :
    Calls Tryz.prog 203 #[.pointer (some ⟨b, 0, none⟩), .int .i64 a, .int .i64 n] w fun e w' => e = .returned (.int .i64 (bec V a n 1 1 0).1) ∧ SysTo b (bec V a n 1 1 0).2 w w' := by
  have HB := Lib.hid (becomes_any 1 1 0 w)
  have HM := Lib.hid (fun W s hW h1 h2 hb => makeBec_any b 1 a n 1 0 s V W hW (by omega) h1 h2 hb)
  have hbs := hV.lt
  have hV' := Lib.hid hV
  obtain ⟨re, hre⟩ : ∃ re, (bec V a n 1 1 0).1 = re := ⟨_, rfl⟩
  obtain ⟨rV, hrV⟩ : ∃ rV, (bec V a n 1 1 0).2 = rV := ⟨_, rfl⟩
  simp only [hre, hrV] at HM ⊢
  unfold SysTo at HM ⊢
  clear hre hrV hV
  go_enter Tryz.func203, Tryz.ntmps203
  go_wp2_with fail
  refine HB.out.mono ?_
  rintro e9 w1 ⟨rfl, k1, k2, hb1⟩
  have V1 := hV'.out.call hb1
  have HM1 := Lib.hid (HM.out w1 _ V1 k1 k2 (by omega))
  clear HM HB k1 k2
  go_wp2_with fail
  refine HM1.out.mono ?_
  rintro e8 w2 ⟨rfl, V2, F2⟩
  go_wp2_with fail
  go_ret
  exact ⟨rfl, V2, (Far.of_below hb1).trans F2⟩
theorem decommit_any (b : Nat) (a n : Int) (V : Vm) (w : World) (hV : SysIs w b V) :
    Calls Tryz.prog 115 #[.pointer (some ⟨b, 0, none⟩), .int .i64 a, .int .i64 n] w fun e w' => e = .returned (.int .i64 (bec V a n 3 2 1).1) ∧ SysTo b (bec V a n 3 2 1).2 w w' := by
  have HB := Lib.hid (becomes_any 3 2 1 w)
  have HM := Lib.hid (fun W s hW h1 h2 hb => makeBec_any b 3 a n 2 1 s V W hW (by omega) h1 h2 hb)
  have hbs := hV.lt
  have hV' := Lib.hid hV
  obtain ⟨re, hre⟩ : ∃ re, (bec V a n 3 2 1).1 = re := ⟨_, rfl⟩
  obtain ⟨rV, hrV⟩ : ∃ rV, (bec V a n 3 2 1).2 = rV := ⟨_, rfl⟩
  simp only [hre, hrV] at HM ⊢
  unfold SysTo at HM ⊢
  clear hre hrV hV
  go_enter Tryz.func115, Tryz.ntmps115
  go_wp2_with fail
  refine HB.out.mono ?_
  rintro e9 w1 ⟨rfl, k1, k2, hb1⟩
  have V1 := hV'.out.call hb1
  have HM1 := Lib.hid (HM.out w1 _ V1 k1 k2 (by omega))
  clear HM HB k1 k2
  go_wp2_with fail
  refine HM1.out.mono ?_
  rintro e8 w2 ⟨rfl, V2, F2⟩
  go_wp2_with fail
  go_ret
  exact ⟨rfl, V2, (Far.of_below hb1).trans F2⟩
theorem vfirst_any (p : Int) (w : World) : Calls Tryz.prog 71 #[.int .i64 p] w fun e w' => e = .returned (.bool (fstB p)) ∧ w' = w := by
  unfold fstB
  by_cases c1 : 0 ≤ p
  · have d1 : decide (0 ≤ p) = true := by simpa using c1
    by_cases c2 : p < 1024
    · have d2 : decide (p < 1024) = true := by simpa using c2
      have hr : Int.tmod p 16 = p % 16 := Int.tmod_eq_emod_of_nonneg c1
      by_cases c3 : p % 16 = 0
      · have d3 : decide (p % 16 = 0) = true := by simpa using c3
        have d4 : (p % 16 == 0) = true := by simpa using c3
        rw [d1, d2, d3]
        clear d3 c3
        go_enter Tryz.func71, Tryz.ntmps71
        go_wp2_with fail
        go_ret
        exact ⟨rfl, rfl⟩
      · have d3 : decide (p % 16 = 0) = false := by simpa using c3
        have d4 : (p % 16 == 0) = false := by simpa using c3
        rw [d1, d2, d3]
        clear d3 c3
        go_enter Tryz.func71, Tryz.ntmps71
        go_wp2_with fail
        go_ret
        exact ⟨rfl, rfl⟩
    · have d2 : decide (p < 1024) = false := by simpa using c2
      rw [d1, d2]
      go_enter Tryz.func71, Tryz.ntmps71
      go_wp2_with fail
      go_ret
      exact ⟨rfl, rfl⟩
  · have d1 : decide (0 ≤ p) = false := by simpa using c1
    rw [d1]
    go_enter Tryz.func71, Tryz.ntmps71
    go_wp2_with fail
    go_ret
    exact ⟨rfl, rfl⟩
end Go.Proofs.YtpabnbhbcphfiaaGreat
namespace Go.Pol
open Go Go.RowKit
/-- what Split makes of a system -/
def splitF (V : Vm) (p : Int) : Int × Vm := if fstB p = false then (7, V) else makeF V p 16 6 (fun g => g.huge) (fun g => g.hugeP false)
/-- so many numbers, whichever -/
structure IntsC (cs : Array Value) (n : Nat) : Prop where
  size : cs.size = n
  at_ : ∀ j, j < n → ∃ z : Int, cs[j]? = some (.int .i64 z)
theorem IntsC.set {cs : Array Value} {n : Nat} (h : IntsC cs n) (i : Nat) (z : Int) : IntsC (cs.setIfInBounds i (.int .i64 z)) n := by
  refine ⟨by simp [h.size], fun j hj => ?_⟩
  rw [Array.getElem?_setIfInBounds]
  by_cases e : i = j
  · rw [if_pos e, if_pos (by rw [h.size]; omega)]
    exact ⟨z, rfl⟩
  · rw [if_neg e]
    exact h.at_ j hj
theorem IntsC.one {cs : Array Value} {n : Nat} (h : IntsC cs n) : ∀ x ∈ cs.toList, x.oneCell' = true := by
  intro x hx
  obtain ⟨i, hi, rfl⟩ := List.mem_iff_getElem.1 hx
  obtain ⟨z, hz⟩ := h.at_ i (by rw [← h.size]; simpa using hi)
  rw [Array.getElem?_eq_getElem (by simpa using hi)] at hz
  simp only [Option.some.injEq] at hz
  rw [Array.getElem_toList, hz]
  rfl
end Go.Pol
namespace Go.Proofs.YtpabnbhbcphfiaaGreat
open Go Go.Proofs Go.RowKit Go.Pol Go.Shelf
attribute [local go_sem] Oper.semAt_some Go.Pol.wide_fn Go.Pol.wide_depth Go.Pol.wide_fn' Go.Pol.wide_depth'

/-- four pointers to numbers -/
theorem infoVc : (Tryz.prog.info? 163).map (·.size) = some 5 := by kernel_rfl
set_option maxRecDepth 100000 in
set_option maxHeartbeats 1600000 in
theorem counts_any (b : Nat) (V : Vm) (w : World) (hV : SysIs w b V) (hk : KindOk V) :
    Calls Tryz.prog 85 #[.pointer (some ⟨b, 0, none⟩)] w fun e w' => (∃ cs, IntsC cs 5 ∧ e = .returned (.tuple #[.agg cs, .int .i64 0])) ∧ Below w.heap.size w w' := by
  have hb0 := (Below.refl w.heap.size w).alloc (Nat.le_refl _) (.cells #[.int .i64 0, .int .i64 0, .int .i64 0, .int .i64 0, .int .i64 0] 163)
  have k0 := Blk.new w 163 #[.int .i64 0, .int .i64 0, .int .i64 0, .int .i64 0, .int .i64 0]
  have HI := Lib.hid (fun W h => is_any b V W h)
  have HF := Lib.hid (fun (p : Int) W => vfirst_any p W)
  have V0 := hV.call hb0
  have hbs := hV.lt
  have hk' := Lib.hid hk
  have hV' := Lib.hid hV
  obtain ⟨s, hs⟩ : ∃ s, w.heap.size = s := ⟨_, rfl⟩
  have hsz0 : (w.alloc (.cells #[.int .i64 0, .int .i64 0, .int .i64 0, .int .i64 0, .int .i64 0] 163)).heap.size = s + 1 := by rw [World.size_alloc, hs]
  rw [hs] at k0 hbs
  clear hk hV
  go_enter Tryz.func85, Tryz.ntmps85
  go_upto_region 1 with fail
  generalize w.alloc _ = w0 at *
  go_wp2_with fail
  refine (HI.out _ V0).mono ?_
  rintro e9 w9 ⟨rfl, hw9⟩
  replace hw9 := hw9.symm
  subst hw9
  go_upto_region 4 with fail
  have hb1 := hb0.alloc (by omega) (.cells #[.int .i64 0, .int .i64 0, .int .i64 0, .int .i64 0, .int .i64 0] 163)
  have k01 := k0.alloc (.cells #[.int .i64 0, .int .i64 0, .int .i64 0, .int .i64 0, .int .i64 0] 163)
  have k4 := Blk.new w0 163 #[.int .i64 0, .int .i64 0, .int .i64 0, .int .i64 0, .int .i64 0]
  have hsz1 : (w0.alloc (.cells #[.int .i64 0, .int .i64 0, .int .i64 0, .int .i64 0, .int .i64 0] 163)).heap.size = s + 2 := by rw [World.size_alloc, hsz0]
  rw [hsz0] at k4
  clear V0 hb0 k0
  generalize w0.alloc _ = w1 at *
  have k5 := Blk.new w1 236 #[Value.pointer (some ⟨s + 1, 0, none⟩), Value.pointer (some ⟨s + 1, 1, none⟩), Value.pointer (some ⟨s + 1, 2, none⟩), Value.pointer (some ⟨s + 1, 3, none⟩)]
  rw [hsz1] at k5
  have k24 := k4.alloc (.cells #[Value.pointer (some ⟨s + 1, 0, none⟩), Value.pointer (some ⟨s + 1, 1, none⟩), Value.pointer (some ⟨s + 1, 2, none⟩), Value.pointer (some ⟨s + 1, 3, none⟩)] 236)
  have k20 := k01.alloc (.cells #[Value.pointer (some ⟨s + 1, 0, none⟩), Value.pointer (some ⟨s + 1, 1, none⟩), Value.pointer (some ⟨s + 1, 2, none⟩), Value.pointer (some ⟨s + 1, 3, none⟩)] 236)
  have B2 := hb1.alloc (by omega) (.cells #[Value.pointer (some ⟨s + 1, 0, none⟩), Value.pointer (some ⟨s + 1, 1, none⟩), Value.pointer (some ⟨s + 1, 2, none⟩), Value.pointer (some ⟨s + 1, 3, none⟩)] 236)
  go_wp2_with fail
  generalize w1.alloc _ = w2 at *
  have hint : IntsC #[.int .i64 0, .int .i64 0, .int .i64 0, .int .i64 0, .int .i64 0] 5 := ⟨rfl, fun j hj => by
    rcases (show j = 0 ∨ j = 1 ∨ j = 2 ∨ j = 3 ∨ j = 4 by omega) with rfl | rfl | rfl | rfl | rfl <;> exact ⟨0, rfl⟩⟩
  clear k4 k01 hb1 hsz0 hsz1
  go_loopw [16] (fun u wr => ∃ i : Nat, i ≤ 1024 ∧ u = .int .i64 i ∧ Below w.heap.size w wr ∧ Blk wr s 163 #[.int .i64 0, .int .i64 0, .int .i64 0, .int .i64 0, .int .i64 0] ∧ Blk wr (s + 2) 236 ([Value.pointer (some ⟨s + 1, 0, none⟩), Value.pointer (some ⟨s + 1, 1, none⟩), Value.pointer (some ⟨s + 1, 2, none⟩), Value.pointer (some ⟨s + 1, 3, none⟩)]).toArray ∧ ∃ cs, IntsC cs 5 ∧ Blk wr (s + 1) 163 cs) (fun u _ => 1024 - (intOf u).toNat)
  case atStart => exact ⟨0, by omega, rfl, B2, k20, k5, _, hint, k24⟩
  case round =>
    clear k24 k20 B2 k5 hint
    obtain ⟨i, hi, rfl, hB, h0, h5, cs, hcs, h4⟩ := hrel
    by_cases hlt : i < 1024
    · have hil : (i : Int) < 1024 := by omega
      have hlt' : decide ((i : Int) < 1024) = true := by simpa using hil
      obtain ⟨cv, A, n, cap, hkv, hcv, _⟩ := (hV'.out.call hB).ex
      obtain ⟨hk0, hk3⟩ := hk'.out i hlt
      have e0 := (hkv.cell (1 + i * 66)).trans (hcv.kind hlt)
      generalize (V.pg i).kind = kd at *
      obtain ⟨d, rfl⟩ : ∃ d : Nat, kd = (d : Int) := ⟨kd.toNat, by omega⟩
      have hd4 : (d : Int) < 4 := by omega
      have e1 : wr.cell? ⟨s + 2, d, none⟩ = some (.pointer (some ⟨s + 1, d, none⟩)) := by
        rw [h5.cell]
        rcases (show d = 0 ∨ d = 1 ∨ d = 2 ∨ d = 3 by omega) with rfl | rfl | rfl | rfl <;> rfl
      obtain ⟨z, hz⟩ := hcs.at_ d (by omega)
      have e2 := (h4.cell d).trans hz
      have f2 := h4.frozen d
      have k4' := h4.set_ d (.int .i64 (wrap64 (z + 1)))
      have hcs' := hcs.set d (wrap64 (z + 1))
      have F4 := Far.setCell (T := fun k => k = s + 1) (p := ⟨s + 1, d, none⟩) (Far.refl _ wr) (fun _ => rfl) (.int .i64 (wrap64 (z + 1)))
      go_upto_region 9 with fail
      generalize wr.setCell ⟨s + 1, d, none⟩ _ = w3 at *
      clear e0 e1 e2 f2 hkv hcv hcs h4 hz
      have B3 := hB.trans (F4.below (by have := hB.size; omega) (fun k hk e => by omega))
      have h03 := F4.blk h0 (by show ¬ s = s + 1; omega)
      have h53 := F4.blk h5 (by show ¬ s + 2 = s + 1; omega)
      clear h0 h5 F4 hB
      generalize cs.setIfInBounds d _ = cs at *
      obtain ⟨cv, A, n, cap, hkv, hcv, _⟩ := (hV'.out.call B3).ex
      have e0 := (hkv.cell (1 + i * 66 + 1)).trans (hcv.hug hlt)
      obtain ⟨z4, hz4⟩ := hcs'.at_ 4 (by omega)
      have e2 := (k4'.cell 4).trans hz4
      have f2 := k4'.frozen 4
      have k4'' := k4'.set_ 4 (.int .i64 (wrap64 (z4 + 1)))
      have hcs'' := hcs'.set 4 (wrap64 (z4 + 1))
      have F4 := Far.setCell (T := fun k => k = s + 1) (p := ⟨s + 1, 4, none⟩) (Far.refl _ w3) (fun _ => rfl) (.int .i64 (wrap64 (z4 + 1)))
      clear hkv hcv
      cases hh : (V.pg i).huge with
      | false =>
        rw [hh] at e0
        clear hh
        go_wp2_with fail
        go_roundw
        case rel => exact ⟨i + 1, by omega, by go_num, B3, h03, h53, _, hcs', k4'⟩
        case measure => simp [intOf]; omega
      | true =>
        rw [hh] at e0
        clear hh
        have HF' := Lib.hid (HF.out (i : Int) w3)
        cases hf : fstB (i : Int) with
        | false =>
          rw [hf] at HF'
          clear hf
          go_wp2_with fail
          refine HF'.out.mono ?_
          rintro e9 w9 ⟨rfl, hw9⟩
          replace hw9 := hw9.symm
          subst hw9
          go_wp2_with fail
          go_roundw
          case rel => exact ⟨i + 1, by omega, by go_num, B3, h03, h53, _, hcs', k4'⟩
          case measure => simp [intOf]; omega
        | true =>
          rw [hf] at HF'
          clear hf
          go_wp2_with fail
          refine HF'.out.mono ?_
          rintro e9 w9 ⟨rfl, hw9⟩
          replace hw9 := hw9.symm
          subst hw9
          have B4 := B3.trans (F4.below (by have := B3.size; omega) (fun k hk e => by omega))
          have h04 := F4.blk h03 (by show ¬ s = s + 1; omega)
          have h54 := F4.blk h53 (by show ¬ s + 2 = s + 1; omega)
          go_wp2_with fail
          go_roundw
          case rel => exact ⟨i + 1, by omega, by go_num, B4, h04, h54, _, hcs'', k4''⟩
          case measure => simp [intOf]; omega
    · obtain rfl : i = 1024 := by omega
      have hlt' : decide (((1024 : Nat) : Int) < 1024) = false := by simp
      have hra : wr.rangeAt (s + 1) 0 cs.toList := fun j v hj => by
        rw [Nat.zero_add, h4.cell]
        simpa using hj
      have hsz := hcs.size
      have ht : wr.there s 0 cs.size := by rw [hsz]; exact z_there h0 0 5 (by simp)
      have hk9 := Blk.puts (g := s) (t := 163) (w := wr) (cs := #[]) cs.toList 0 wr _ h0
      rw [putA_all (by rw [Array.length_toList, hsz]; rfl), Array.toArray_toList] at hk9
      have hF9 := Far.puts (T := fun k => k = s) rfl cs.toList 0 wr wr (Far.refl _ _)
      have hone := Go.all_oneCell_toArray (hcs.one)
      rw [Array.toArray_toList] at hone
      have hinf : (Tryz.prog.info? 163).map (·.size) = some cs.size := by rw [hsz]; exact infoVc
      go_wp2_with (first
        | (refine wpList_load_mid rfl 163 (.tmp 4) rfl (s + 1) 0 rfl cs.toList _ hra Tryz.underlying163 rfl (by rw [Array.length_toList, hsz]; kernel_rfl) ?_; rw [Array.toArray_toList])
        | (refine wpList_store_mid rfl 163 (.tmp 2) (.tmp 48) rfl s 0 cs rfl rfl ht hinf hone ?_))
      generalize World.setCells wr s 0 _ = w9 at *
      have hra9 : w9.rangeAt s 0 cs.toList := fun j v hj => by
        rw [Nat.zero_add, hk9.cell]
        simpa using hj
      have hl9 := run_loadVar_mid (P := Tryz.prog) w9 s 0 163 cs.toList _ hra9 Tryz.underlying163 rfl (by rw [Array.length_toList, hsz]; kernel_rfl)
      rw [Array.toArray_toList] at hl9
      refine bodyPost_ret (v := .tuple #[.agg cs, .int .i64 0]) ?_ rfl ?_
      · exact z_results_cell_tmp Tryz.results85 rfl hl9
      exact ⟨⟨_, hcs, rfl⟩, hB.trans (hF9.below (by have := hB.size; omega) (fun k hk e => by omega))⟩
end Go.Proofs.YtpabnbhbcphfiaaGreat
namespace Go.Pol
open Go Go.RowKit
/-- may a byte be read or written? -/
def whF (V : Vm) (a : Int) : Int := if a < 0 ∨ 65536 ≤ a then 7 else if (V.pg (a / 64).toNat).kind ≠ 2 then 61 else 0
def Pg.byteP (g : Pg) (k : Nat) (v : Int) : Pg := { g with byt := fun j => if j = k then v else g.byt j }
/-- what Write makes of a system -/
def writeF (V : Vm) (a : Int) (v : Int) : Vm := if whF V a = 0 then V.setP (a / 64).toNat ((V.pg (a / 64).toNat).byteP (a % 64).toNat v) else V
theorem SysC.setByte {cs : Array Value} {v : Value} {V : Vm} (h : SysC cs v V) {p k : Nat} (hp : p < 1024) (hk : k < 64) (x : Int) : SysC (cs.setIfInBounds (1 + p * 66 + 2 + k) (.int .u8 x)) v (V.setP p ((V.pg p).byteP k x)) := by
  have hs := h.size
  have hg : ∀ i, (cs.setIfInBounds (1 + p * 66 + 2 + k) (.int .u8 x))[i]? = if 1 + p * 66 + 2 + k = i then some (.int .u8 x) else cs[i]? := fun i => by
    rw [Array.getElem?_setIfInBounds]
    by_cases e : 1 + p * 66 + 2 + k = i
    · rw [if_pos e, if_pos e, if_pos (by omega)]
    · rw [if_neg e, if_neg e]
  refine ⟨by simp [hs], ?_, fun q hq i hi => ?_, fun i hi => ?_⟩
  · rw [hg, if_neg (by omega)]; exact h.made
  · rw [hg]
    by_cases e : q = p
    · subst e
      have hpg : (V.setP q ((V.pg q).byteP k x)).pg q = (V.pg q).byteP k x := by simp [Vm.setP]
      rw [hpg]
      match i with
      | 0 => rw [if_neg (by omega), h.page q hq 0 hi]; rfl
      | 1 => rw [if_neg (by omega), h.page q hq 1 hi]; rfl
      | j + 2 =>
        have hj : j < 64 := by omega
        have e2 : ∀ g : Pg, (pgC g)[j + 2]? = some (.int .u8 (g.byt j)) := fun g => by
          unfold pgC
          simp [hj]
        rw [e2]
        by_cases e1 : j = k
        · subst e1
          rw [if_pos (by omega)]
          simp [Pg.byteP]
        · rw [if_neg (by omega), h.page q hq (j + 2) hi, e2]
          simp [Pg.byteP, e1]
    · rw [if_neg (by omega), h.page q hq i hi]
      simp [Vm.setP, e]
  · rw [hg, if_neg (by omega)]; exact h.rf i hi
theorem SysIs.setByte {w : World} {b : Nat} {V : Vm} (h : SysIs w b V) {p k : Nat} (hp : p < 1024) (hk : k < 64) (x : Int) : SysIs (w.setCell ⟨b, 1 + p * 66 + 2 + k, none⟩ (.int .u8 x)) b (V.setP p ((V.pg p).byteP k x)) ∧ Far (fun k => k = b) w (w.setCell ⟨b, 1 + p * 66 + 2 + k, none⟩ (.int .u8 x)) := by
  obtain ⟨cs, A, n, cap, h1, h2, h3, h4, h5, h6, h7, h8⟩ := h.ex
  have hF : Far (fun k => k = b) w (w.setCell ⟨b, 1 + p * 66 + 2 + k, none⟩ (.int .u8 x)) := Far.setCell (T := fun k => k = b) (p := ⟨b, 1 + p * 66 + 2 + k, none⟩) (Far.refl _ _) (fun _ => rfl) _
  exact ⟨⟨_, A, n, cap, h1.set_ _ _, h2.setByte hp hk x, h3, (h4.keepR hF (fun g' o e h => h6 g' o e h)).more hF.size, h5, h6, h7, fun g o e h => (h8 g o e h).imp fun cr hc => hF.blk hc (h6 g o e h)⟩, hF⟩
/-! the kinds of pages stay kinds -/
theorem KindOk.setP {V : Vm} (h : KindOk V) (p : Nat) {g : Pg} (hg : 0 ≤ g.kind ∧ g.kind ≤ 3) : KindOk (V.setP p g) := fun q hq => by
  show 0 ≤ (if q = p then g else V.pg q).kind ∧ (if q = p then g else V.pg q).kind ≤ 3
  split
  · exact hg
  · exact h q hq
theorem KindOk.eachP {V : Vm} (h : KindOk V) (a n : Nat) {f : Pg → Pg} (hf : ∀ g : Pg, (0 ≤ g.kind ∧ g.kind ≤ 3) → 0 ≤ (f g).kind ∧ (f g).kind ≤ 3) : KindOk (V.eachP a n f) := fun q hq => by
  show 0 ≤ (if a ≤ q ∧ q < a + n then f (V.pg q) else V.pg q).kind ∧ (if a ≤ q ∧ q < a + n then f (V.pg q) else V.pg q).kind ≤ 3
  split
  · exact hf _ (h q hq)
  · exact h q hq
theorem Vm.ref_pg (V : Vm) (call : Nat) : (V.ref call).pg = V.pg := by
  unfold Vm.ref
  repeat (first | rfl | split)
theorem KindOk.ref {V : Vm} (h : KindOk V) (call : Nat) : KindOk (V.ref call) := fun q hq => by rw [Vm.ref_pg]; exact h q hq
theorem KindOk.makeF {V : Vm} (h : KindOk V) (a n : Int) (call : Nat) (pr : Pg → Bool) {f : Pg → Pg} (hf : ∀ g : Pg, (0 ≤ g.kind ∧ g.kind ≤ 3) → 0 ≤ (f g).kind ∧ (f g).kind ≤ 3) : KindOk (makeF V a n call pr f).2 := by
  unfold Go.Pol.makeF
  split
  · exact h
  · split
    · exact h
    · split
      · exact h.ref call
      · exact (h.ref call).eachP _ _ hf
theorem KindOk.bec {V : Vm} (h : KindOk V) (a n : Int) (call : Nat) (fr : Int) {tk : Int} (hk : 0 ≤ tk ∧ tk ≤ 3) : KindOk (bec V a n call fr tk).2 := h.makeF _ _ _ _ (fun _ _ => hk)
theorem KindOk.split {V : Vm} (h : KindOk V) (p : Int) : KindOk (splitF V p).2 := by
  unfold splitF
  split
  · exact h
  · exact h.makeF _ _ _ _ (fun _ hg => hg)
theorem KindOk.plan {V : Vm} (h : KindOk V) (l : List Ru) : KindOk (planF V l) := by
  unfold planF
  split
  · exact h
  · exact h
end Go.Pol
namespace Go.Proofs.YtpabnbhbcphfiaaGreat
open Go Go.Proofs Go.RowKit Go.Pol Go.Shelf
attribute [local go_sem] Oper.semAt_some Go.Pol.wide_fn Go.Pol.wide_depth Go.Pol.wide_fn' Go.Pol.wide_depth'

/-- the place of a byte, or none -/
def whP (b : Nat) (V : Vm) (a : Int) : Option Addr := if whF V a = 0 then some ⟨b, 1 + (a / 64).toNat * 66 + 2 + (a % 64).toNat, none⟩ else none
theorem where_any (b : Nat) (a : Int) (V : Vm) (w : World) (hV : SysIs w b V) :
    Calls Tryz.prog 149 #[.pointer (some ⟨b, 0, none⟩), .int .i64 a] w fun e w' => e = .returned (.tuple #[.pointer (whP b V a), .int .i64 (whF V a)]) ∧ w' = w := by
  have HI := Lib.hid (is_any b V w hV)
  unfold whP
  obtain ⟨R, hR⟩ : ∃ R, whF V a = R := ⟨_, rfl⟩
  rw [hR]
  unfold whF at hR
  by_cases c1 : a < 0
  · have d1 : decide (a < 0) = true := by simpa using c1
    rw [if_pos (.inl c1)] at hR
    subst hR
    rw [if_neg (by omega)]
    go_enter Tryz.func149, Tryz.ntmps149
    go_wp2_with fail
    refine HI.out.mono ?_
    rintro e9 w9 ⟨rfl, hw9⟩
    replace hw9 := hw9.symm
    subst hw9
    go_wp2_with fail
    go_ret2
    exact ⟨rfl, rfl⟩
  have d1 : decide (a < 0) = false := by simpa using c1
  by_cases c2 : 65536 ≤ a
  · have d2 : decide (65536 ≤ a) = true := by simpa using c2
    rw [if_pos (.inr c2)] at hR
    subst hR
    rw [if_neg (by omega)]
    go_enter Tryz.func149, Tryz.ntmps149
    go_wp2_with fail
    refine HI.out.mono ?_
    rintro e9 w9 ⟨rfl, hw9⟩
    replace hw9 := hw9.symm
    subst hw9
    go_wp2_with fail
    go_ret2
    exact ⟨rfl, rfl⟩
  have d2 : decide (65536 ≤ a) = false := by simpa using c2
  rw [if_neg (by omega)] at hR
  obtain ⟨q, k, rfl, hq, hk⟩ : ∃ q k : Nat, a = ((q * 64 + k : Nat) : Int) ∧ q < 1024 ∧ k < 64 := ⟨(a / 64).toNat, (a % 64).toNat, by omega, by omega, by omega⟩
  have e1 : (((q * 64 + k : Nat) : Int) / 64).toNat = q := by omega
  have e2 : (((q * 64 + k : Nat) : Int) % 64).toNat = k := by omega
  rw [e1] at hR ⊢
  rw [e2]
  clear e1 e2
  have h0 : (0 : Int) ≤ ((q * 64 + k : Nat) : Int) := by omega
  have hdv : Int.tdiv ((q * 64 + k : Nat) : Int) 64 = (q : Int) := by rw [Int.tdiv_eq_ediv_of_nonneg h0]; omega
  have hmd : Int.tmod ((q * 64 + k : Nat) : Int) 64 = (k : Int) := by rw [Int.tmod_eq_emod_of_nonneg h0]; omega
  have hwq : wrap64 (q : Int) = (q : Int) := by unfold wrap64; omega
  have hql : (q : Int) < 1024 := by omega
  have hkl : (k : Int) < 64 := by omega
  generalize ((q * 64 + k : Nat) : Int) = a at *
  obtain ⟨cs, A, n, cap, hkb, hc, _⟩ := hV.ex
  have c0 := (hkb.cell (1 + q * 66)).trans (hc.kind hq)
  by_cases hkd : (V.pg q).kind = 2
  · rw [if_neg (by simpa using hkd)] at hR
    subst hR
    rw [if_pos rfl]
    rw [hkd] at c0
    clear hkd hkb hc hV
    go_enter Tryz.func149, Tryz.ntmps149
    go_wp2_with fail
    refine HI.out.mono ?_
    rintro e9 w9 ⟨rfl, hw9⟩
    replace hw9 := hw9.symm
    subst hw9
    go_wp2_with fail
    go_ret2
    exact ⟨rfl, rfl⟩
  · rw [if_pos hkd] at hR
    subst hR
    rw [if_neg (by omega)]
    generalize (V.pg q).kind = kd at *
    have hkd' : (kd != 2) = true := by simpa using hkd
    clear hkb hc hV
    go_enter Tryz.func149, Tryz.ntmps149
    go_wp2_with fail
    refine HI.out.mono ?_
    rintro e9 w9 ⟨rfl, hw9⟩
    replace hw9 := hw9.symm
    subst hw9
    go_wp2_with fail
    go_ret2
    exact ⟨rfl, rfl⟩
theorem write_any (b : Nat) (a v : Int) (V : Vm) (w : World) (hV : SysIs w b V) :
    Calls Tryz.prog 89 #[.pointer (some ⟨b, 0, none⟩), .int .i64 a, .int .u8 v] w fun e w' => e = .returned (.int .i64 (whF V a)) ∧ SysTo b (writeF V a v) w w' := by
  have HW := Lib.hid (where_any b a V w hV)
  have hV' := Lib.hid hV
  unfold SysTo
  obtain ⟨P, hP⟩ : ∃ P, writeF V a v = P := ⟨_, rfl⟩
  rw [hP]
  unfold writeF at hP
  unfold whP at HW
  obtain ⟨R, hR⟩ : ∃ R, whF V a = R := ⟨_, rfl⟩
  rw [hR] at hP HW ⊢
  by_cases c0 : R = 0
  · subst c0
    rw [if_pos rfl] at hP HW
    have ha : ¬ (a < 0 ∨ 65536 ≤ a) := fun hc => by unfold whF at hR; rw [if_pos hc] at hR; omega
    have hq : (a / 64).toNat < 1024 := by omega
    have hk : (a % 64).toNat < 64 := by omega
    generalize (a / 64).toNat = q at *
    generalize (a % 64).toNat = k at *
    have hset := hV.setByte hq hk v
    rw [hP] at hset
    have hset' := Lib.hid hset
    obtain ⟨cs, A, n, cap, hkb, hc, _⟩ := hV.ex
    have e1 := (hkb.cell (1 + q * 66 + (k + 2))).trans (hc.byte hq hk)
    rw [show 1 + q * 66 + (k + 2) = 1 + q * 66 + 2 + k by omega] at e1
    have f1 := hkb.frozen
    clear hkb hc hV hP hset hR ha
    go_enter Tryz.func89, Tryz.ntmps89
    go_wp2_with fail
    refine HW.out.mono ?_
    rintro e9 w9 ⟨rfl, hw9⟩
    replace hw9 := hw9.symm
    subst hw9
    go_wp2_with fail
    go_ret
    exact ⟨rfl, hset'.out.1, hset'.out.2⟩
  · rw [if_neg c0] at hP HW
    subst hP
    have d0 : (R == 0) = false := by simpa using c0
    clear hR hV
    go_enter Tryz.func89, Tryz.ntmps89
    go_wp2_with fail
    refine HW.out.mono ?_
    rintro e9 w9 ⟨rfl, hw9⟩
    replace hw9 := hw9.symm
    subst hw9
    go_wp2_with fail
    go_ret
    exact ⟨rfl, hV'.out, Far.refl _ _⟩
theorem read_any (b : Nat) (a : Int) (V : Vm) (w : World) (hV : SysIs w b V) :
    Calls Tryz.prog 95 #[.pointer (some ⟨b, 0, none⟩), .int .i64 a] w fun e w' => e = .returned (.tuple #[.int .u8 (if whF V a = 0 then (V.pg (a / 64).toNat).byt (a % 64).toNat else 0), .int .i64 (whF V a)]) ∧ w' = w := by
  have HW := Lib.hid (where_any b a V w hV)
  unfold whP at HW
  obtain ⟨R, hR⟩ : ∃ R, whF V a = R := ⟨_, rfl⟩
  rw [hR] at HW ⊢
  by_cases c0 : R = 0
  · subst c0
    rw [if_pos rfl] at HW ⊢
    have ha : ¬ (a < 0 ∨ 65536 ≤ a) := fun hc => by unfold whF at hR; rw [if_pos hc] at hR; omega
    have hq : (a / 64).toNat < 1024 := by omega
    have hk : (a % 64).toNat < 64 := by omega
    generalize (a / 64).toNat = q at *
    generalize (a % 64).toNat = k at *
    obtain ⟨cs, A, n, cap, hkb, hc, _⟩ := hV.ex
    have e1 := (hkb.cell (1 + q * 66 + (k + 2))).trans (hc.byte hq hk)
    rw [show 1 + q * 66 + (k + 2) = 1 + q * 66 + 2 + k by omega] at e1
    generalize (V.pg q).byt k = x at *
    clear hkb hc hV hR ha
    go_enter Tryz.func95, Tryz.ntmps95
    go_wp2_with fail
    refine HW.out.mono ?_
    rintro e9 w9 ⟨rfl, hw9⟩
    replace hw9 := hw9.symm
    subst hw9
    go_wp2_with fail
    go_ret2
    exact ⟨rfl, rfl⟩
  · rw [if_neg c0] at HW ⊢
    have d0 : (R != 0) = true := by simpa using c0
    clear hR hV
    go_enter Tryz.func95, Tryz.ntmps95
    go_wp2_with fail
    refine HW.out.mono ?_
    rintro e9 w9 ⟨rfl, hw9⟩
    replace hw9 := hw9.symm
    subst hw9
    go_wp2_with fail
    go_ret2
    exact ⟨rfl, rfl⟩
end Go.Proofs.YtpabnbhbcphfiaaGreat
namespace Go.Pol
open Go Go.RowKit
theorem z_take {α : Type} (d : α) (l : List α) {k : Nat} (hk : k < l.length) : l.take (k + 1) = l.take k ++ [l.getD k d] := by
  rw [List.take_succ_eq_append_getElem hk, List.getD_eq_getElem?_getD, List.getElem?_eq_getElem hk]
  rfl
end Go.Pol
namespace Go.Proofs.YtpabnbhbcphfiaaGreat
open Go Go.Proofs Go.RowKit Go.Pol Go.ChangeShapes Go.WideShapes Go.Deep

section
variable {H : Type} {enc : TypeId × Value → H} {w : World} {base b0 : Nat} {held : Bool} {r : Reach} {v : Value} {d : DataW H} {p : List MemPlace}
theorem caseCellsK : Tryz.prog.cellsOf 59 = 3 := by kernel_rfl
theorem blsCellsK : Tryz.prog.cellsOf 56 = 1 := by kernel_rfl
theorem mvsCellsK : Tryz.prog.cellsOf 57 = 1 := by kernel_rfl
theorem intCellsK : Tryz.prog.cellsOf 3 = 1 := by kernel_rfl
set_option maxRecDepth 100000 in
theorem openBl1K {fuel : Nat} {x : DataW H × List MemPlace} (h : DataW.trod enc Tryz.prog w base (fun _ => true) held fuel 56 [v] = some x) :
    ∃ (A : Option Addr) (n cap : Nat) (us : List B3), v = .slice A n cap ∧ us.length = n ∧ n ≤ maxLen ∧ (A = none → cap = 0) ∧ RT w w.heap.size A us := by
  obtain ⟨f0, f1, f2, hs, hone, t0, t1, t2⟩ := blStruct
  obtain ⟨A, n, cap, us, rfl, h1, h2, h3⟩ := openT Tryz.underlying56 hs hone (by kernel_rfl) (by rw [t0]; exact Tryz.underlying3) (by rw [t1]; exact Tryz.underlying3) (by rw [t2]; exact Tryz.underlying4) h
  rcases open_slice_fields Tryz.underlying56 hs hone (by kernel_rfl) h with ⟨hcs, _⟩ | ⟨a, len, cap', m, D, Pl, hcs, _, hl, hm, _⟩
  · have e : Value.slice A n cap = .slice none 0 0 := by simpa using hcs
    cases e
    exact ⟨_, _, _, us, rfl, h1, h2, fun _ => rfl, h3⟩
  · have e : Value.slice A n cap = .slice (some a) len cap' := by simpa using hcs
    cases e
    exact ⟨_, _, _, us, rfl, h1, h2, fun e => (by cases e), h3⟩
set_option maxRecDepth 100000 in
/-- a case that came in -/
theorem openCaseK (hv : Value.okWide Tryz.prog w r b0 59 v) (h : DataW.Trod enc Tryz.prog w base (fun _ => true) held 59 v d p) :
    ∃ (pages : Int) (A M : Option Addr) (n cap mn mcap : Nat) (bs : List B3) (ms : List (Int × Int)), v = .agg #[.int .i64 pages, .slice A n cap, .slice M mn mcap] ∧ bs.length = n ∧ n ≤ maxLen ∧ (A = none → cap = 0) ∧ RT w w.heap.size A bs ∧ ms.length = mn ∧ mn ≤ maxLen ∧ RU w w.heap.size M ms := by
  obtain ⟨cs, rfl, hsz⟩ := okWide_struct Tryz.underlying59 hv
  obtain ⟨l⟩ := cs
  obtain ⟨fuel, hf⟩ := h
  obtain ⟨xs, m, _, hx, hl, hlen, hg⟩ := DataW.trod_struct Tryz.underlying59 hf
  rw [caseCellsK] at hsz
  match l, hsz with
  | [c0, c1, c2], _ =>
    have g0 : DataW.trod enc Tryz.prog w base (fun _ => true) held m 3 [c0] = xs[0]? := by have := hg 0 _ rfl; simpa [Value.cells, intCellsK] using this
    have g1 : DataW.trod enc Tryz.prog w base (fun _ => true) held m 56 [c1] = xs[1]? := by have := hg 1 _ rfl; simpa [Value.cells, blsCellsK] using this
    have g2 : DataW.trod enc Tryz.prog w base (fun _ => true) held m 57 [c2] = xs[2]? := by have := hg 2 _ rfl; simpa [Value.cells, mvsCellsK] using this
    match xs, hlen with
    | [y0, y1, y2], _ =>
      obtain ⟨n0, e0, _⟩ := DataW.trod_int Tryz.underlying3 (g0.trans rfl)
      simp only [List.cons.injEq, and_true] at e0
      subst e0
      obtain ⟨A, n, cap, bs, rfl, h1, h2, h3, h4⟩ := openBl1K (g1.trans rfl)
      obtain ⟨f0, f1, hs, hone, t0, t1⟩ := mvStruct
      obtain ⟨M, mn, mcap, ms, rfl, k1, k2, k3⟩ := openU Tryz.underlying57 hs hone (by kernel_rfl) (by rw [t0]; exact Tryz.underlying3) (by rw [t1]; exact Tryz.underlying3) (g2.trans rfl)
      exact ⟨n0, A, M, n, cap, mn, mcap, bs, ms, rfl, h1, h2, h3, h4, k1, k2, k3⟩
end
end Go.Proofs.YtpabnbhbcphfiaaGreat
namespace Go.Pol
open Go Go.RowKit
def revK : Nat → List Sp → List Sp
  | 0, l => l
  | k + 1, l => ((revK k l).set k ((revK k l).getD (l.length - 1 - k) (0, 0))).set (l.length - 1 - k) ((revK k l).getD k (0, 0))
theorem revK_len (l : List Sp) : ∀ k, (revK k l).length = l.length
  | 0 => rfl
  | k + 1 => by rw [revK, List.length_set, List.length_set, revK_len l k]
theorem getD_setS (l : List Sp) (i j : Nat) (x : Sp) (hi : i < l.length) : (l.set i x).getD j (0, 0) = if i = j then x else l.getD j (0, 0) := by
  simp only [List.getD_eq_getElem?_getD, List.getElem?_set]
  by_cases e : i = j
  · subst e
    simp [hi]
  · simp [e]
theorem revK_at (l : List Sp) : ∀ k, 2 * k ≤ l.length → ∀ i, i < l.length → (revK k l).getD i (0, 0) = if i < k ∨ l.length - k ≤ i then l.getD (l.length - 1 - i) (0, 0) else l.getD i (0, 0)
  | 0, _, i, hi => by rw [revK, if_neg (by omega)]
  | k + 1, hk, i, hi => by
    have ih := revK_at l k (by omega)
    have hl := revK_len l k
    rw [revK, getD_setS _ _ _ _ (by rw [List.length_set, hl]; omega), getD_setS _ _ _ _ (by rw [hl]; omega)]
    by_cases e1 : l.length - 1 - k = i
    · rw [if_pos e1, ih k (by omega), if_neg (by omega), if_pos (by omega), show l.length - 1 - i = k by omega]
    · rw [if_neg e1]
      by_cases e2 : k = i
      · rw [if_pos e2, ih (l.length - 1 - k) (by omega), if_neg (by omega), if_pos (by omega), e2]
      · rw [if_neg e2, ih i hi]
        by_cases e3 : i < k ∨ l.length - k ≤ i
        · rw [if_pos e3, if_pos (by omega)]
        · rw [if_neg e3, if_neg (by omega)]
theorem revK_rev (l : List Sp) (k : Nat) (h1 : 2 * k ≤ l.length) (h2 : l.length ≤ 2 * k + 1) : revK k l = l.reverse := by
  apply List.ext_getElem
  · rw [revK_len, List.length_reverse]
  · intro i hi hj
    rw [revK_len] at hi
    have h := revK_at l k h1 i hi
    rw [List.getD_eq_getElem?_getD, List.getElem?_eq_getElem (by rw [revK_len]; exact hi), Option.getD_some] at h
    rw [h, List.getElem_reverse]
    by_cases e : i < k ∨ l.length - k ≤ i
    · rw [if_pos e, List.getD_eq_getElem?_getD, List.getElem?_eq_getElem (by omega)]; rfl
    · rw [if_neg e, List.getD_eq_getElem?_getD, List.getElem?_eq_getElem hi]
      have : i = l.length - 1 - i := by omega
      simp only [Option.getD_some]
      congr 1
theorem spCells_setE (l : List Sp) (p : Nat) (y : Sp) : ((spCells l).set (p * 2) (.int .i64 y.1)).set (p * 2 + 1) (.int .i64 y.2) = spCells (l.set p y) := by
  induction l generalizing p with
  | nil => simp [spCells]
  | cons x r ih =>
    cases p with
    | zero => simp [spCells]
    | succ p =>
      have h := ih p
      simp only [spCells, List.flatMap_cons, List.set_cons_succ, List.cons_append, List.nil_append, show (p + 1) * 2 = p * 2 + 1 + 1 by omega] at h ⊢
      rw [← h]
end Go.Pol
namespace Go.Pol
open Go Go.RowKit
def kindF (V : Vm) (p : Int) : Int := if 0 ≤ p ∧ p < 1024 then (V.pg p.toNat).kind else 0
def hugeF (V : Vm) (p : Int) : Bool := if 0 ≤ p ∧ p < 1024 then (V.pg p.toNat).huge else false
def readF (V : Vm) (a : Int) : Int := if whF V a = 0 then (V.pg (a / 64).toNat).byt (a % 64).toNat else 0
/-- the last span has one page more -/
def bumpS (l : List Sp) : List Sp := match l.reverse with
  | [] => []
  | x :: r => r.reverse ++ [(x.1, x.2 + 1)]
theorem bumpS_snoc (l : List Sp) (x : Sp) : bumpS (l ++ [x]) = l ++ [(x.1, x.2 + 1)] := by simp [bumpS]
/-- the runs of committed pages among so many pages from p on, and whether the last one goes on -/
def runsM (V : Vm) (p : Int) : Nat → List Sp × Bool
  | 0 => ([], false)
  | i + 1 => if kindF V (p + i) ≠ 2 then ((runsM V p i).1, false) else if (runsM V p i).2 = true then (bumpS (runsM V p i).1, true) else ((runsM V p i).1 ++ [((i : Int), 1)], true)
theorem runsM_succ (V : Vm) (p : Int) (i : Nat) : runsM V p (i + 1) = if kindF V (p + i) ≠ 2 then ((runsM V p i).1, false) else if (runsM V p i).2 = true then (bumpS (runsM V p i).1, true) else ((runsM V p i).1 ++ [((i : Int), 1)], true) := rfl
/-- the runs' pages: not empty where the last goes on; within what was looked at -/
theorem runsM_inv (V : Vm) (p : Int) : ∀ i, (runsM V p i).1.length ≤ i ∧ (∀ x ∈ (runsM V p i).1, 0 ≤ x.1 ∧ 1 ≤ x.2 ∧ x.1 + x.2 ≤ (i : Int)) ∧ ((runsM V p i).2 = true → ∃ (l : List Sp) (x : Sp), (runsM V p i).1 = l ++ [x] ∧ x.1 + x.2 = (i : Int))
  | 0 => ⟨Nat.le_refl _, fun x hx => (by cases hx), fun h => (by cases h)⟩
  | i + 1 => by
    obtain ⟨h1, h2, h3⟩ := runsM_inv V p i
    rw [runsM_succ]
    split
    · exact ⟨by simp only; omega, fun x hx => by have := h2 x hx; push_cast; omega, fun h => (by cases h)⟩
    · split
      · rename_i hs
        obtain ⟨l, x, e, hx⟩ := h3 hs
        rw [e, bumpS_snoc]
        rw [e] at h1 h2
        have hxm := h2 x (by simp)
        refine ⟨by simp at h1 ⊢; omega, fun y hy => ?_, fun _ => ⟨l, (x.1, x.2 + 1), rfl, by show x.1 + (x.2 + 1) = ((i + 1 : Nat) : Int); omega⟩⟩
        rw [List.mem_append, List.mem_singleton] at hy
        rcases hy with hy | rfl
        · have := h2 y (by simp [hy]); push_cast; omega
        · show 0 ≤ x.1 ∧ 1 ≤ x.2 + 1 ∧ x.1 + (x.2 + 1) ≤ ((i + 1 : Nat) : Int)
          omega
      · refine ⟨by simp; omega, fun y hy => ?_, fun _ => ⟨_, _, rfl, by show (i : Int) + 1 = ((i + 1 : Nat) : Int); omega⟩⟩
        rw [List.mem_append, List.mem_singleton] at hy
        rcases hy with hy | rfl
        · have := h2 y hy; push_cast; omega
        · show 0 ≤ (i : Int) ∧ 1 ≤ (1 : Int) ∧ (i : Int) + 1 ≤ ((i + 1 : Nat) : Int)
          omega
/-- bytes copied, from one address to another -/
def copyF (V : Vm) (a b : Int) : Nat → Vm
  | 0 => V
  | m + 1 => writeF (copyF V a b m) (b + m) (readF (copyF V a b m) (a + m))
/-- the pages of runs given back one after the other: the errors, the system -/
def errsS (p : Int) (s : List Int × Vm) (x : Sp) : List Int × Vm := (s.1 ++ [(bec s.2 (p + x.1) x.2 3 2 1).1], (bec s.2 (p + x.1) x.2 3 2 1).2)
def errsF (V : Vm) (p : Int) (l : List Sp) : List Int × Vm := l.foldl (errsS p) ([], V)
/-- the first error -/
def firE : List Int → Int
  | [] => 0
  | x :: r => if x ≠ 0 then x else firE r
/-- a place left: the first error, the system -/
def leaveF (V : Vm) (p n : Int) (l : List Sp) : Int × Vm := (firE ((errsF V p l).1 ++ [(bec (errsF V p l).2 p n 1 1 0).1]), (bec (errsF V p l).2 p n 1 1 0).2)
/-- runs committed in a new place: how many were, the error, the system -/
def cmF (q : Int) : List Sp → Vm → Nat × Int × Vm
  | [], V => (0, 0, V)
  | x :: r, V => if (bec V (q + x.1) x.2 2 1 2).1 = 0 then ((cmF q r (bec V (q + x.1) x.2 2 1 2).2).1 + 1, (cmF q r (bec V (q + x.1) x.2 2 1 2).2).2) else (0, bec V (q + x.1) x.2 2 1 2)
theorem cmF_step {q : Int} {gs : List Sp} {V U : Vm} {k : Nat} (hk : k < gs.length) (h : cmF q gs V = (k + (cmF q (gs.drop k) U).1, (cmF q (gs.drop k) U).2)) :
    cmF q gs V = if (bec U (q + (gs.getD k (0, 0)).1) (gs.getD k (0, 0)).2 2 1 2).1 = 0 then (k + 1 + (cmF q (gs.drop (k + 1)) (bec U (q + (gs.getD k (0, 0)).1) (gs.getD k (0, 0)).2 2 1 2).2).1, (cmF q (gs.drop (k + 1)) (bec U (q + (gs.getD k (0, 0)).1) (gs.getD k (0, 0)).2 2 1 2).2).2) else (k, bec U (q + (gs.getD k (0, 0)).1) (gs.getD k (0, 0)).2 2 1 2) := by
  rw [h, drop_cons (0, 0) gs k hk, cmF]
  split
  · congr 1; omega
  · rfl
/-- the bytes of runs copied -/
def copyS (p q : Int) (V : Vm) (x : Sp) : Vm := copyF V ((p + x.1) * 64) ((q + x.1) * 64) (x.2 * 64).toNat
/-- a move: the first error; is the block in the new place; does a span stay; the system -/
def moveF (V : Vm) (p q n : Int) : Int × Bool × Bool × Vm :=
  if (bec V q n 0 0 1).1 ≠ 0 then ((bec V q n 0 0 1).1, false, false, (bec V q n 0 0 1).2) else
  let l := (runsM (bec V q n 0 0 1).2 p n.toNat).1
  let c := cmF q l (bec V q n 0 0 1).2
  if c.2.1 ≠ 0 then
    let v := leaveF c.2.2 q n (l.take c.1).reverse
    (c.2.1, false, v.1 != 0, v.2)
  else
    let v := leaveF (l.foldl (copyS p q) c.2.2) p n l
    (v.1, true, v.1 != 0, v.2)
theorem firE_any : ∀ es : List Int, firE es ≠ 0 ↔ ∃ x ∈ es, x ≠ 0
  | [] => by simp [firE]
  | x :: r => by
    unfold firE
    by_cases h : x = 0
    · subst h
      rw [if_neg (by simp), firE_any r]
      simp
    · rw [if_pos h]
      exact ⟨fun _ => ⟨x, by simp, h⟩, fun _ => h⟩
end Go.Pol
namespace Go.Proofs.YtpabnbhbcphfiaaGreat
open Go Go.Proofs Go.RowKit Go.Pol Go.Shelf
attribute [local go_sem] Oper.semAt_some Go.Pol.wide_fn Go.Pol.wide_depth Go.Pol.wide_fn' Go.Pol.wide_depth'

theorem infoSp : (Tryz.prog.info? 115).map (fun i => (i.zero, i.size, i.bytes)) = some (some (.agg #[.int .i64 0, .int .i64 0]), 2, 16) := by kernel_rfl
theorem infoSp_parts : ∃ i0, Tryz.prog.info? 115 = some i0 ∧ i0.zero = some (.agg #[.int .i64 0, .int .i64 0]) ∧ i0.size = 2 ∧ i0.bytes = 16 := by
  obtain ⟨i0, h⟩ := info_parts infoSp
  exact ⟨i0, h⟩

end Go.Proofs.YtpabnbhbcphfiaaGreat
namespace Go.Pol
open Go Go.RowKit
/-- an array of marks reads as a function -/
structure MarksAre (cs : Array Value) (f : Nat → Bool) : Prop where
  size : cs.size = 1024
  at_ : ∀ k, k < 1024 → cs[k]? = some (.bool (f k))
theorem spCells_set (r : List Sp) (x : Sp) (y : Int) : (spCells (r ++ [x])).set (r.length * 2 + 1) (.int .i64 y) = spCells (r ++ [(x.1, y)]) := by
  rw [spCells_snoc, spCells_snoc]
  have : r.length * 2 + 1 = (spCells r).length + 1 := by rw [spCells_len]
  rw [this, List.set_append_right _ _ (by omega)]
  simp
end Go.Pol
namespace Go.Pol
open Go Go.Proofs Go.RowKit
/-- spans in memory of the call's own -/
def SpansN (l : List Sp) (w : World) (e : Ending) (w' : World) : Prop := ∃ (A : Option Addr) (cap : Nat), e = .returned (.slice A l.length cap) ∧ RU w' w'.heap.size A l ∧ (∀ g o, A = some ⟨g, o, none⟩ → w.heap.size ≤ g) ∧ l.length ≤ cap ∧ cap ≤ maxLen ∧ (A = none → cap = 0) ∧ Below w.heap.size w w'
end Go.Pol
namespace Go.Proofs.YtpabnbhbcphfiaaGreat
open Go Go.Proofs Go.RowKit Go.Pol Go.Shelf
attribute [local go_sem] Oper.semAt_some Go.Pol.wide_fn Go.Pol.wide_depth Go.Pol.wide_fn' Go.Pol.wide_depth'

set_option maxRecDepth 100000 in
set_option maxHeartbeats 1600000 in
theorem runs24_any (g0 b : Nat) (p : Int) (n : Nat) (v1 v2 : Value) (V : Vm) (w : World) (hV : SysIs w b V) (kM : Blk w g0 169 #[.pointer (some ⟨b, 0, none⟩), v1, v2]) (hp : 0 ≤ p ∧ p ≤ 1024) (hn : n ≤ 1024) :
    Calls Tryz.prog 144 #[.pointer (some ⟨g0, 0, none⟩), .int .i64 p, .int .i64 n] w (SpansN (runsM V p n).1 w) := by
  obtain ⟨i0, hi, hz0, hz1, hz2⟩ := infoSp_parts
  obtain ⟨R, hR⟩ : ∃ R, (runsM V p n).1 = R := ⟨_, rfl⟩
  rw [hR]
  have hR' := Lib.hid hR
  have HK := Lib.hid (fun (q : Int) W h => vkind_any b q V W h)
  have hV' := Lib.hid hV
  clear hR hV
  go_enter Tryz.func144, Tryz.ntmps144
  go_wp2_with fail
  go_loopw [7, 8, 14] (fun v s8 i wr => ∃ (k : Nat) (l : List Sp) (ins : Bool), k ≤ n ∧ i = .int .i64 k ∧ s8 = .bool ins ∧ Hid (runsM V p k = (l, ins)) ∧ wr.ownsRow w.heap.size 115 2 v l.length (spCells l) ∧ Below w.heap.size w wr) (fun _ _ i _ => n - (intOf i).toNat)
  case atStart => exact ⟨0, [], false, by omega, rfl, rfl, Lib.hid rfl, World.ownsRow_nil _ _ _ _, Below.refl _ _⟩
  case round =>
    obtain ⟨k, l, ins, hk, rfl, rfl, hl, hrow, hB⟩ := hrel
    have kM1 := kM.call hB
    have cM := kM1.cell
    have V1 := hV'.out.call hB
    by_cases hlt : k < n
    · have hlt' : decide ((k : Int) < (n : Int)) = true := by simpa using hlt
      obtain ⟨kd, hkd⟩ : ∃ kd, kindF V (p + (k : Int)) = kd := ⟨_, rfl⟩
      have hinv := runsM_inv V p k
      rw [hl.out] at hinv
      have hst : Hid (runsM V p (k + 1) = if kd ≠ 2 then (l, false) else if ins = true then (bumpS l, true) else (l ++ [((k : Int), 1)], true)) := Lib.hid (by rw [runsM_succ, hkd, hl.out])
      have HK1 := HK.out (p + (k : Int)) wr V1
      unfold kindF at hkd
      rw [hkd] at HK1
      have HK2 := Lib.hid HK1
      obtain ⟨ll, hll⟩ : ∃ ll, l.length = ll := ⟨_, rfl⟩
      rw [hll] at hrow hinv
      obtain ⟨h1, h2, h3⟩ := hinv
      simp only at h1 h2 h3
      clear hkd HK1 hl
      go_wp2_with fail
      refine HK2.out.mono ?_
      rintro e w1 ⟨rfl, hb1⟩
      have B1 := hB.trans (hb1.mono hB.size)
      have hrow1 := ownsRow_call hrow hb1
      have hs1 := B1.size
      clear HK2 hrow cM kM1 V1 hb1
      by_cases hk2 : kd = 2
      · subst hk2
        have hk2' : ((2 : Int) != 2) = false := by decide
        have hst1 : Hid (runsM V p (k + 1) = if ins = true then (bumpS l, true) else (l ++ [((k : Int), 1)], true)) := Lib.hid (by rw [hst.out, if_neg (by simp)])
        clear hst
        cases ins with
        | true =>
          obtain ⟨pre, x, e1, hx⟩ := h3 rfl
          subst e1
          have hxm := h2 x (by simp)
          obtain ⟨pl, hpl⟩ : ∃ pl, pre.length = pl := ⟨_, rfl⟩
          have hlp : pl + 1 = ll := by rw [← hll, List.length_append, hpl]; rfl
          have hpk : (pl : Int) < 1024 := by omega
          rw [← hlp] at hrow1
          obtain ⟨g, cap, e2⟩ := ownsRow_succ hrow1
          subst e2
          obtain ⟨xa, xb⟩ := x
          simp only at hx hxm
          have hst2 : Hid (runsM V p (k + 1) = (pre ++ [(xa, xb + 1)], true)) := Lib.hid (by rw [hst1.out, if_pos rfl, bumpS_snoc])
          have hcx := hrow1.cellAt (pl * 2 + 1) (by omega)
          rw [spCells_snoc, List.getElem?_append_right (by rw [spCells_len, hpl]; omega), spCells_len, hpl, show pl * 2 + 1 - pl * 2 = 1 by omega] at hcx
          have hcx' : w1.cell? ⟨g, pl * 2 + 1, none⟩ = some (.int .i64 xb) := hcx
          have hfx := hrow1.frozenAt (pl * 2 + 1)
          obtain ⟨hst3, hgr⟩ := hrow1.stored (pl * 2 + 1) (.int .i64 (xb + 1))
          rw [← hpl, spCells_set, hpl] at hst3
          have hgb := hrow1.lt g rfl
          have hpl' := Lib.hid hpl
          clear hcx hst1 h2 h3 hll hlp hpl
          go_wp2_with fail
          go_roundw
          case rel => exact ⟨k + 1, _, true, by omega, by go_num, rfl, hst2, by rw [List.length_append, hpl'.out]; exact hst3, B1.grown hgr hs1 (fun j hj => by cases hj; exact hgb.1)⟩
          case measure => simp [intOf]; omega
        | false =>
          have hst2 : Hid (runsM V p (k + 1) = (l ++ [((k : Int), 1)], true)) := Lib.hid (by rw [hst1.out, if_neg (by decide)])
          have kN := Blk.new w1 115 #[.int .i64 (k : Int), .int .i64 1]
          clear hst1 h2 h3
          go_wp2_with (refine wpList_append_own _ rfl (.tmp 29) (.tmp 32) 22 rfl w.heap.size 115 i0 (.agg #[.int .i64 0, .int .i64 0]) 2 16 Tryz.underlying22 hi hz0 hz1 hz2 rfl (by decide) _ ll (spCells l) rfl (hrow1.alloc _) ⟨w1.heap.size, 0, none⟩ 1 1 [.int .i64 (k : Int), .int .i64 1] rfl rfl (news_two kN) news_one2 (by unfold maxLen; omega) (by omega) (by simp; omega) ?_; intro v' w3 hown' hgrow _)
          go_roundw
          case rel =>
            refine ⟨k + 1, _, true, by omega, by go_num, rfl, hst2, ?_, (B1.alloc hs1 _).grown hgrow (by simp; omega) (fun j hj => (hrow1.lt j hj).1)⟩
            rw [spCells_snoc, List.length_append, List.length_singleton, hll]; exact hown'
          case measure => simp [intOf]; omega
      · have hk2' : (kd != 2) = true := by simpa using hk2
        have hst2 : Hid (runsM V p (k + 1) = (l, false)) := Lib.hid (by rw [hst.out, if_pos hk2])
        clear hst h2 h3 hk2
        go_wp2_with fail
        go_roundw
        case rel => exact ⟨k + 1, l, false, by omega, by go_num, rfl, hst2, by rw [hll]; exact hrow1, B1⟩
        case measure => simp [intOf]; omega
    · obtain rfl : k = n := by omega
      have hlt' : decide ((k : Int) < (k : Int)) = false := by simp
      have hRl : R = l := by rw [← hR'.out, hl.out]
      subst hRl
      obtain ⟨A', cap', rfl, hru, hnc, hcm, hfr, hnz⟩ := own_RU hrow rfl
      have hnz' : A' = none → cap' = 0 := fun hA => own_cap hrow hA
      go_wp2_with fail
      go_ret
      exact ⟨A', cap', rfl, hru, hfr, hnc, hcm, hnz', hB⟩
set_option maxRecDepth 100000 in
set_option maxHeartbeats 1600000 in
theorem copy24_any (g0 b : Nat) (a c n : Nat) (v1 v2 : Value) (V : Vm) (w : World) (hV : SysIs w b V) (kM : Blk w g0 169 #[.pointer (some ⟨b, 0, none⟩), v1, v2]) (hg : g0 ≠ b) (ha : a ≤ 2048) (hc : c ≤ 2048) (hn : n ≤ 1024) :
    Calls Tryz.prog 148 #[.pointer (some ⟨g0, 0, none⟩), .int .i64 a, .int .i64 c, .int .i64 n] w fun e w' => e = .returned (.tuple #[]) ∧ SysTo b (copyF V ((a : Int) * 64) ((c : Int) * 64) (n * 64)) w w' := by
  have HR := Lib.hid (fun (q : Int) U W h => read_any b q U W h)
  have HW := Lib.hid (fun (q v : Int) U W h => write_any b q v U W h)
  have hV' := Lib.hid hV
  obtain ⟨m, hm⟩ : ∃ m, n * 64 = m := ⟨_, rfl⟩
  have hmi : (n : Int) * 64 = (m : Int) := by omega
  have hm' := Lib.hid hm
  rw [hm]
  clear hV hm
  go_enter Tryz.func148, Tryz.ntmps148
  go_wp2_with fail
  go_loopw [13] (fun i wr => ∃ (k : Nat) (U : Vm), k ≤ m ∧ i = .int .i64 k ∧ Hid (copyF V ((a : Int) * 64) ((c : Int) * 64) k = U) ∧ Hid (SysIs wr b U) ∧ Far (fun k => k = b) w wr) (fun i _ => m - (intOf i).toNat)
  case atStart => exact ⟨0, V, by omega, rfl, Lib.hid rfl, hV', Far.refl _ _⟩
  case round =>
    clear hV'
    obtain ⟨k, U, hk, rfl, hcp, hU, hF⟩ := hrel
    have kM1 := hF.blk kM (by show ¬ g0 = b; exact hg)
    have cM := kM1.cell
    have hmb := hm'.out
    by_cases hlt : k < m
    · have hlt' : decide ((k : Int) < (m : Int)) = true := by simpa using hlt
      have hst : Hid (copyF V ((a : Int) * 64) ((c : Int) * 64) (k + 1) = writeF U ((c : Int) * 64 + (k : Int)) (readF U ((a : Int) * 64 + (k : Int)))) := Lib.hid (by rw [copyF, hcp.out])
      have HR1 := HR.out ((a : Int) * 64 + (k : Int)) U wr hU.out
      obtain ⟨x, hx⟩ : ∃ x, readF U ((a : Int) * 64 + (k : Int)) = x := ⟨_, rfl⟩
      rw [hx] at hst
      unfold readF at hx
      rw [hx] at HR1
      have HR2 := Lib.hid HR1
      have HW1 := Lib.hid (HW.out ((c : Int) * 64 + (k : Int)) x U wr hU.out)
      clear HR1 hx hcp
      go_wp2_with fail
      refine HR2.out.mono ?_
      rintro e w1 ⟨rfl, hw1⟩
      replace hw1 := hw1.symm
      subst hw1
      go_wp2_with fail
      refine HW1.out.mono ?_
      rintro e w2 ⟨rfl, V2, F2⟩
      have hF2 := hF.trans F2
      have V2' := Lib.hid V2
      clear HR2 HW1 V2 F2 cM kM1
      go_wp2_with fail
      go_roundw
      case rel => exact ⟨k + 1, _, by omega, by go_num, hst, V2', hF2⟩
      case measure => simp [intOf]; omega
    · obtain rfl : k = m := by omega
      have hlt' : decide ((k : Int) < (k : Int)) = false := by simp
      go_wp2_with fail
      go_end0
      exact ⟨rfl, by rw [hcp.out]; exact hU.out, hF⟩
end Go.Proofs.YtpabnbhbcphfiaaGreat
namespace Go.Pol
open Go Go.RowKit
/-- a walk that cannot panic -/
def noPanic (Q : Exit → Act → World → Prop) (e : Exit) (a : Act) (w : World) : Prop := match e with | .panic _ => False | e => Q e a w
theorem noPanic_normal {Q : Exit → Act → World → Prop} {a : Act} {w : World} (h : Q .normal a w) : noPanic Q .normal a w := h
theorem wp_noPanic {P : Program} {c : Code} {Q : Exit → Act → World → Prop} {a : Act} {w : World} (h : c.wp P (noPanic Q) a w) : c.wp P Q a w :=
  (wpIn_wide (n := 0)).1 (wpIn_mono (wpIn_wide.2 h) fun e a w hq => by
    cases e with
    | panic c => exact hq.elim
    | _ => exact hq)
/-- what the region behind the loop of 'gaps' reads -/
def GapS (s : Nat) (p q nx : Int) (v : Value) (w : Go.World) : Prop :=
  w.cell? ⟨s, 0, none⟩ = some (.int .i64 p) ∧ w.cell? ⟨s, 1, none⟩ = some (.int .i64 q) ∧ w.cell? ⟨s + 2, 0, none⟩ = some (.int .i64 nx) ∧ w.cell? ⟨s + 1, 0, none⟩ = some v
theorem GapS.later {s : Nat} {p q nx : Int} {v : Value} {w w' : Go.World} {B : Nat} (h : GapS s p q nx v w) (hb : Below B w w') (hB : s + 2 < B) : GapS s p q nx v w' :=
  ⟨(hb.cell (p := ⟨s, 0, none⟩) (by show s < B; omega)).trans h.1, (hb.cell (p := ⟨s, 1, none⟩) (by show s < B; omega)).trans h.2.1, (hb.cell (p := ⟨s + 2, 0, none⟩) hB).trans h.2.2.1, (hb.cell (p := ⟨s + 1, 0, none⟩) (by show s + 1 < B; omega)).trans h.2.2.2⟩
end Go.Pol
namespace Go.Pol
def badHit (a m : Int) : Prop := a < 0 ∨ 65536 < a ∨ m < 1 ∨ 65536 - a < m
instance badHitDec (a m : Int) : Decidable (badHit a m) := by unfold badHit; infer_instance
end Go.Pol
namespace Go.Pol
open Go Go.RowKit
theorem RU.on {w w' : World} {A : Option Addr} {us : List Sp} (h : RU w w.heap.size A us) (hb : Below w.heap.size w w') : RU w' w'.heap.size A us := (h.below hb).more hb.size
end Go.Pol
namespace Go.Pol
open Go Go.RowKit
theorem ints_one {a : Int} : ∀ u ∈ [Value.int .i64 a], u.oneCell' = true := by
  intro u hu; simp only [List.mem_cons, List.not_mem_nil, or_false] at hu; subst hu; rfl
theorem news_i {w : World} {g : Nat} {t : TypeId} {a : Int} (h : Blk w g t #[.int .i64 a]) : ∀ (j : Nat) (u : Value), [Value.int .i64 a][j]? = some u → w.cell? ((⟨g, 0, none⟩ : Addr).add j) = some u := by
  intro j u hu
  rw [addr_add0, Nat.zero_add, h.cell]
  simpa using hu
/-- what a call of the own made reads as a list -/
theorem own_RIx {w : World} {base : Nat} {e : TypeId} {v : Value} {n : Nat} {xs : List Int} (h : w.ownsRow base e 1 v n (xs.map (Value.int .i64))) (hn : xs.length = n) : ∃ (A : Option Addr) (cap : Nat), v = .slice A n cap ∧ RI w w.heap.size A xs := by
  have hv := h
  rcases h.2 with ⟨rfl, h0⟩ | ⟨g, cap, cur, rfl, hg, hk, _⟩
  · subst h0
    obtain rfl : xs = [] := List.eq_nil_of_length_eq_zero hn
    exact ⟨none, 0, rfl, RI.nil⟩
  · refine ⟨_, cap, rfl, fun k hk' => ?_⟩
    have hk2 : k < xs.length := by simpa using hk'
    have hc := hv.cellAt k (by omega)
    refine ⟨g, 0, rfl, Blk.lt hk, ?_⟩
    rw [Nat.zero_add, hc]
    exact List.getElem?_eq_getElem hk'
end Go.Pol
namespace Go.Pol
open Go Go.RowKit
theorem MarksAre.set {cs : Array Value} {f g : Nat → Bool} (h : MarksAre cs f) (k : Nat) (hk : k < 1024) (b : Bool) (hb : g k = b) (hg : ∀ j, j ≠ k → g j = f j) : MarksAre (cs.setIfInBounds k (.bool b)) g :=
  ⟨by simp [h.size], fun j hj => by
    by_cases hjk : j = k
    · subst hjk
      rw [Array.getElem?_setIfInBounds_self_of_lt (by rw [h.size]; exact hk), hb]
    · rw [Array.getElem?_setIfInBounds_ne (Ne.symm hjk), hg j hjk]; exact h.at_ j hj⟩
theorem rangeAt_blk {w : World} {g : Nat} {t : TypeId} {cs : Array Value} (h : Blk w g t cs) : w.rangeAt g 0 cs.toList := fun j v hj => by
  rw [Nat.zero_add, h.cell]; simpa using hj
/-- the marks of the first pages of a plan -/
def setM (pg n f b ev : Int) (us : Bool) (j : Nat) (q : Nat) : Bool := decide (pg ≤ (q : Int) ∧ (q : Int) < pg + j) && ((kindG pg n f b ev q == 0) == us)
end Go.Pol
namespace Go.Proofs.YtpabnbhbcphfiaaGreat
open Go Go.Proofs Go.RowKit Go.Pol Go.Shelf


theorem ru_src {w : World} {A : Option Addr} {us : List Sp} (h : RU w w.heap.size A us) : (A = none ∧ us = []) ∨ ∃ ad, A = some ad ∧ ∀ (j : Nat) (u : Value), (spCells us)[j]? = some u → w.cell? (ad.add j) = some u := by
  by_cases h0 : us = []
  · subst h0
    cases A with
    | none => exact .inl ⟨rfl, rfl⟩
    | some ad => exact .inr ⟨ad, rfl, fun j u hu => by simp [spCells] at hu⟩
  · obtain ⟨b, o, rfl, _⟩ := RU.at_' h (k := 0) (List.length_pos_iff.2 h0)
    refine .inr ⟨⟨b, o, none⟩, rfl, fun j u hu => ?_⟩
    have hl := spCells_len us
    have hj : j < us.length * 2 := by
      rw [← hl]; exact (List.getElem?_eq_some_iff.1 hu).1
    obtain ⟨k, hk⟩ : ∃ k, j = k * 2 ∨ j = k * 2 + 1 := ⟨j / 2, by omega⟩
    obtain ⟨b', o', e, _, h1, h2⟩ := RU.at_' h (k := k) (by omega)
    cases e
    have hat := spCells_at us k (by omega)
    rw [Addr.add_lit]
    rcases hk with rfl | rfl
    · rw [hat.1] at hu
      rw [← hu]; exact h1
    · rw [hat.2] at hu
      rw [← hu]; exact h2
theorem spCells_one (us : List Sp) : ∀ u ∈ spCells us, u.oneCell' = true := by
  intro u hu
  simp only [spCells, List.mem_flatMap, List.mem_cons, List.not_mem_nil, or_false] at hu
  obtain ⟨x, _, rfl | rfl⟩ := hu <;> rfl
end Go.Proofs.YtpabnbhbcphfiaaGreat
namespace Go.Pol
open Go Go.RowKit
theorem MarksAre.congr {cs : Array Value} {f g : Nat → Bool} (h : MarksAre cs f) (hg : ∀ k, k < 1024 → f k = g k) : MarksAre cs g :=
  ⟨h.size, fun k hk => by rw [← hg k hk]; exact h.at_ k hk⟩
theorem MarksAre.one {cs : Array Value} {f : Nat → Bool} (h : MarksAre cs f) : cs.all (·.oneCell') = true := by
  rw [Array.all_eq_true]
  intro i hi
  have := h.at_ i (by rw [← h.size]; exact hi)
  rw [Array.getElem?_eq_getElem hi] at this
  cases this' : cs[i] <;> simp_all [Value.oneCell']
end Go.Pol
namespace Go.Proofs.YtpabnbhbcphfiaaGreat
open Go Go.Proofs Go.RowKit Go.Pol Go.Shelf

set_option maxHeartbeats 800000 in
theorem clone_any (A : Option Addr) (n cap : Nat) (us : List Sp) (w : World) (hn : us.length = n) (hm : n ≤ 1000000) (hr : RU w w.heap.size A us) :
    Calls Tryz.prog 145 #[.slice A n cap] w fun e w' => ∃ v, e = .returned v ∧ w'.ownsRow w.heap.size 115 2 v n (spCells us) ∧ Below w.heap.size w w' := by
  obtain ⟨i0, hi, hy0, hy1, hy2⟩ := infoSp_parts
  have h1 := Lib.hid hn
  clear hn
  have q36 : ∀ (w : World) (a : Option Addr) (n c n' c' : Nat), (binOp .eql 22 (.slice a n c) (.slice none n' c')).run Tryz.prog w = .ok (.bool a.isNone) w := fun w a n c n' c' => Lib.run_eql_slice_nil w _ _ a n c n' c' Tryz.underlying22
  have hb0 := (Below.refl w.heap.size w).alloc (Nat.le_refl _) (.cells #[] 115)
  have hsrc := ru_src (hr.on ((Below.refl w.heap.size w).alloc (Nat.le_refl _) (.cells #[] 115)))
  have hown : (w.alloc (.cells #[] 115)).ownsRow w.heap.size 115 2 (.slice (some ⟨w.heap.size, 0, none⟩) 0 0) 0 [] := World.ownsRow_made w #[] 0 (Nat.le_refl _) (Nat.zero_le _) (by simp)
  rcases hsrc with ⟨rfl, rfl⟩ | ⟨ad, rfl, hnews⟩
  · have hn0 : n = 0 := h1.out.symm
    subst hn0
    go_enter Tryz.func145, Tryz.ntmps145
    go_wp2_with fail
    go_ret
    exact ⟨_, rfl, World.ownsRow_nil _ _ _ _, Below.refl _ _⟩
  · go_enter Tryz.func145, Tryz.ntmps145
    go_wp2_with (refine wpList_append_own _ rfl (.tmp 5) (.tmp 6) 22 rfl w.heap.size 115 i0 (.agg #[.int .i64 0, .int .i64 0]) 2 16 Tryz.underlying22 hi hy0 hy1 hy2 rfl (by decide) _ 0 [] rfl hown ad n cap (spCells us) rfl (by rw [spCells_len, h1.out]) hnews (spCells_one us) (by unfold maxLen; omega) (by omega) (by simp) ?_; intro v' w3 hown' hgrow _)
    go_ret
    rw [Nat.zero_add, List.nil_append] at hown'
    exact ⟨_, rfl, hown', hb0.grown hgrow (by simp) (fun j hj => (hown.lt j hj).1)⟩

end Go.Proofs.YtpabnbhbcphfiaaGreat
namespace Go.Pol
open Go Go.RowKit

/-- the contract of a function value that is ranged over, and that makes blocks of its own (X): it goes through just 'xs' -/
def SeqY {α : Type} (P : Program) (g : Nat) (lb : Array Value) (encs : α → Array Value) (T K : Nat → Prop) (xs : List α) (w : World) : Prop :=
  ∀ (n l : Nat) (J Jx : (Nat → Prop) → List α → World → Prop) (W : World), Far (fun k => ¬ K k) w W →
    (∀ X pre A B, J X pre A → Far (fun k => T k ∨ X k) A B → J X pre B) → (∀ X pre A B, Jx X pre A → Far (fun k => T k ∨ X k) A B → Jx X pre B) →
    (∀ X X' pre A, J X pre A → (∀ k, X' k → X k ∨ A.heap.size ≤ k) → J X' pre A) →
    (∀ m X pre x W1, J X pre W1 → (∀ k, X k → k < W1.heap.size) → pre ++ [x] <+: xs → YieldAt Fence.wide m P l (encs x) W1 fun e W' =>
      (e = .returned (.bool true) ∧ J X (pre ++ [x]) W' ∧ Far (fun k => ¬ (K k ∨ X k)) W1 W') ∨ (e = .returned (.bool false) ∧ Jx X (pre ++ [x]) W' ∧ Far (fun k => ¬ (K k ∨ X k)) W1 W')) →
    J (fun _ => False) [] W →
    CallsIn Fence.wide n P g (#[.func (.yield l) #[] #[]] ++ lb) W fun e W' => (∃ v, e = .returned v) ∧ ((∃ X, J X xs W') ∨ ∃ X pre, pre <+: xs ∧ Jx X pre W')

theorem SeqY.later {α : Type} {P : Program} {g : Nat} {lb : Array Value} {encs : α → Array Value} {T K : Nat → Prop} {xs : List α} {w w' : World}
    (h : SeqY P g lb encs T K xs w) (hw : Far (fun k => ¬ K k) w w') : SeqY P g lb encs T K xs w' :=
  fun n l J Jx W hW => h n l J Jx W (hw.trans hW)
end Go.Pol
namespace Go.Proofs.YtpabnbhbcphfiaaGreat
open Go Go.Proofs Go.RowKit Go.Pol Go.Shelf
attribute [local go_sem] Oper.semAt_some Go.Pol.wide_fn Go.Pol.wide_depth Go.Pol.wide_fn' Go.Pol.wide_depth'
theorem getD_memI {bs : List Int} {k : Nat} (h : k < bs.length) : bs.getD k 0 ∈ bs := by
  rw [List.getD_eq_getElem?_getD, List.getElem?_eq_getElem h]; exact List.getElem_mem h

/-- where the first entry is that a test holds of -/
def idxI (p : Int → Bool) : List Int → Nat → Int
  | [], _ => -1
  | x :: r, k => if p x = true then (k : Int) else idxI p r (k + 1)
end Go.Proofs.YtpabnbhbcphfiaaGreat
namespace Go.Pol
open Go Go.RowKit
/-- the cells of the reference's system -/
structure RefC (cs : Array Value) (v : Value) (V : Vm) : Prop where
  size : cs.size = 66639
  kind : ∀ p, p < 1024 → cs[p]? = some (.int .i64 (V.pg p).kind)
  huge : ∀ p, p < 1024 → cs[1024 + p / 16]? = some (.bool (V.pg p).huge)
  byt : ∀ p, p < 1024 → ∀ k, k < 64 → cs[1088 + p * 64 + k]? = some (.int .u8 ((V.pg p).byt k))
  rf : ∀ i, i < 15 → cs[66624 + i]? = (rfC v V.rf.calls V.rf.hits)[i]?
/-- the reference's system in memory; its rules lie below B -/
structure RefIs (w : World) (B b : Nat) (V : Vm) : Prop where
  ex : ∃ (cs : Array Value) (A : Option Addr) (n cap : Nat), Blk w b 142 cs ∧ RefC cs (.slice A n cap) V ∧ (V.rf.rules.length = n ∧ (A = none → cap = 0)) ∧ Rd w B A (fl ruC V.rf.rules) ∧ B ≤ b ∧ RfOk V.rf
theorem RefIs.lt {w : World} {B b : Nat} {V : Vm} (h : RefIs w B b V) : b < w.heap.size := by
  obtain ⟨cs, A, n, cap, hk, _⟩ := h.ex
  exact hk.lt
theorem RefIs.base {w : World} {B b : Nat} {V : Vm} (h : RefIs w B b V) : B ≤ b := by
  obtain ⟨cs, A, n, cap, _, _, _, _, h, _⟩ := h.ex
  exact h
theorem RefIs.ok {w : World} {B b : Nat} {V : Vm} (h : RefIs w B b V) : RfOk V.rf := by
  obtain ⟨cs, A, n, cap, _, _, _, _, _, h⟩ := h.ex
  exact h
/-- rules below a bound are kept by what turns nothing there -/
theorem Rd.keepB {T : Nat → Prop} {w w' : World} {B : Nat} {A : Option Addr} {xs : List Value} (h : Rd w B A xs) (hF : Far T w w') (hT : ∀ k, T k → B ≤ k) : Rd w' B A xs := fun k hk => by
  obtain ⟨b, o, e, hb, hc⟩ := h k hk
  exact ⟨b, o, e, hb, hF.cell hc (fun ht => by have := hT _ ht; simp only at this; omega)⟩
theorem RefIs.far {w w' : World} {B b : Nat} {V : Vm} {T : Nat → Prop} (h : RefIs w B b V) (hF : Far T w w') (hT : ∀ k, T k → B ≤ k ∧ k ≠ b) : RefIs w' B b V := by
  obtain ⟨cs, A, n, cap, h1, h2, h3, h4, h5, h6⟩ := h.ex
  exact ⟨cs, A, n, cap, hF.blk h1 (fun ht => (hT _ ht).2 rfl), h2, h3, h4.keepB hF (fun k hk => (hT k hk).1), h5, h6⟩
theorem RefIs.call {w w' : World} {B b : Nat} {V : Vm} (h : RefIs w B b V) (hb : Below w.heap.size w w') : RefIs w' B b V :=
  h.far (T := fun _ => False) (Far.of_below hb) (fun _ h => h.elim)
/-- a page's kind put anew, and its bytes -/
theorem RefC.put {cs : Array Value} {v : Value} {V : Vm} (h : RefC cs v V) {p : Nat} (hp : p < 1024) (hh : (V.pg p).huge = false) (tk : Int) :
    RefC (putA (cs.setIfInBounds p (.int .i64 tk)) (1088 + p * 64) (List.replicate 64 (.int .u8 0))) v (V.setP p (newPg tk)) := by
  have hs := h.size
  have hl : (List.replicate 64 (Value.int .u8 0)).length = 64 := by simp
  have hg := putA_get (List.replicate 64 (Value.int .u8 0)) (cs.setIfInBounds p (.int .i64 tk)) (1088 + p * 64) (by rw [hl, Array.size_setIfInBounds]; omega)
  have hg2 : ∀ i, (cs.setIfInBounds p (.int .i64 tk))[i]? = if p = i then some (.int .i64 tk) else cs[i]? := fun i => by
    rw [Array.getElem?_setIfInBounds]
    by_cases e : p = i
    · subst e; rw [if_pos rfl, if_pos rfl, if_pos (by omega)]
    · rw [if_neg e, if_neg e]
  have hpg : ∀ q, (V.setP p (newPg tk)).pg q = if q = p then newPg tk else V.pg q := fun q => rfl
  refine ⟨by rw [putA_size, Array.size_setIfInBounds]; exact hs, fun q hq => ?_, fun q hq => ?_, fun q hq k hk => ?_, fun i hi => ?_⟩
  · rw [hg, if_neg (by omega), hg2, hpg]
    by_cases e : q = p
    · subst e; rw [if_pos rfl, if_pos rfl]; rfl
    · rw [if_neg (fun h => e h.symm), if_neg e]; exact h.kind q hq
  · rw [hg, if_neg (by omega), hg2, if_neg (by omega), h.huge q hq, hpg]
    by_cases e : q = p
    · subst e; rw [if_pos rfl, hh]; rfl
    · rw [if_neg e]
  · rw [hg, hl, hpg]
    by_cases e : q = p
    · subst e
      rw [if_pos (by omega), if_pos rfl, List.getElem?_replicate, if_pos (by omega)]; rfl
    · rw [if_neg (by omega), hg2, if_neg (by omega), if_neg e]; exact h.byt q hq k hk
  · rw [hg, if_neg (by rw [hl]; omega), hg2, if_neg (by omega)]; exact h.rf i hi
theorem RefC.putRf {cs : Array Value} {v : Value} {V : Vm} (h : RefC cs v V) (u : Value) (S : Rf) : RefC (putA cs 66624 (rfC u S.calls S.hits)) u { V with rf := S } := by
  have hs := h.size
  have hl : (rfC u S.calls S.hits).length = 15 := rfl
  have hg := putA_get (rfC u S.calls S.hits) cs 66624 (by rw [hl]; omega)
  refine ⟨by rw [putA_size]; exact hs, fun q hq => ?_, fun q hq => ?_, fun q hq k hk => ?_, fun i hi => ?_⟩
  · rw [hg, if_neg (by omega)]; exact h.kind q hq
  · rw [hg, if_neg (by omega)]; exact h.huge q hq
  · rw [hg, if_neg (by omega)]; exact h.byt q hq k hk
  · rw [hg, if_pos (by omega), show 66624 + i - 66624 = i by omega]
theorem RefIs.put {w : World} {B b : Nat} {V : Vm} (h : RefIs w B b V) {p : Nat} (hp : p < 1024) (hh : (V.pg p).huge = false) (tk : Int) :
    RefIs ((w.setCell ⟨b, p, none⟩ (.int .i64 tk)).setCells b (1088 + p * 64) (List.replicate 64 (.int .u8 0))) B b (V.setP p (newPg tk)) ∧ Far (fun k => k = b) w ((w.setCell ⟨b, p, none⟩ (.int .i64 tk)).setCells b (1088 + p * 64) (List.replicate 64 (.int .u8 0))) := by
  obtain ⟨cs, A, n, cap, h1, h2, h3, h4, h5, h6⟩ := h.ex
  have hF1 : Far (fun k => k = b) w (w.setCell ⟨b, p, none⟩ (.int .i64 tk)) := Far.setCell (T := fun k => k = b) (p := ⟨b, p, none⟩) (Far.refl _ _) (fun _ => rfl) _
  have hF := Far.puts (T := fun k => k = b) rfl (List.replicate 64 (Value.int .u8 0)) (1088 + p * 64) w _ hF1
  exact ⟨⟨_, A, n, cap, Blk.puts (w := w) (cs := #[]) (List.replicate 64 (Value.int .u8 0)) (1088 + p * 64) _ _ (h1.set_ _ _), h2.put hp hh tk, h3, h4.keepB hF (fun k e => by omega), h5, h6⟩, hF⟩
theorem RefIs.putRf {w w' : World} {B b : Nat} {V : Vm} (h : RefIs w B b V) (S : Rf) (A : Option Addr) (n cap : Nat) (hB : Below w.heap.size w w') (hn : S.rules.length = n) (hz : A = none → cap = 0) (hr : Rd w' B A (fl ruC S.rules)) (hS : RfOk S) :
    RefIs (w'.setCells b 66624 (rfC (.slice A n cap) S.calls S.hits)) B b { V with rf := S } ∧ Far (fun k => k = b) w (w'.setCells b 66624 (rfC (.slice A n cap) S.calls S.hits)) := by
  have hlt := h.lt
  obtain ⟨cs, A0, n0, cap0, h1, h2, _, _, h5, _⟩ := h.ex
  have k1 := h1.call hB
  have hF := Far.puts (T := fun k => k = b) rfl (rfC (.slice A n cap) S.calls S.hits) 66624 w' w' (Far.refl _ _)
  exact ⟨⟨_, A, n, cap, Blk.puts (w := w) (cs := #[]) (rfC (.slice A n cap) S.calls S.hits) 66624 w' cs k1, h2.putRf _ S, ⟨hn, hz⟩, hr.keepB hF (fun k e => by omega), h5, hS⟩, (Far.of_below hB).trans hF⟩
/-! the zero cells -/
end Go.Pol
namespace Go.Pol
open Go Go.RowKit
/-- a run: its first page, its pages, their kind -/
abbrev Rn := Int × Int × Int
def rn0 : Rn := (0, 0, 0)
def rnC (x : Rn) : List Value := [.int .i64 x.1, .int .i64 x.2.1, .int .i64 x.2.2]
abbrev rnV (x : Rn) : Value := .agg #[.int .i64 x.1, .int .i64 x.2.1, .int .i64 x.2.2]
abbrev rnA (x : Rn) : Array Value := #[rnV x]
def bumpR (l : List Rn) : List Rn := match l.reverse with
  | [] => []
  | x :: r => r.reverse ++ [(x.1, x.2.1 + 1, x.2.2)]
/-- the runs of the first pages -/
def vrunsL (V : Vm) : Nat → List Rn
  | 0 => []
  | k + 1 => if (V.pg k).kind = 0 then vrunsL V k else if 0 < k ∧ (V.pg (k - 1)).kind = (V.pg k).kind then bumpR (vrunsL V k) else vrunsL V k ++ [((k : Int), 1, (V.pg k).kind)]
/-- the first pages of huge groups -/
def hugL (V : Vm) : Nat → List Int
  | 0 => []
  | k + 1 => if k % 16 = 0 ∧ (V.pg k).huge = true then hugL V k ++ [(k : Int)] else hugL V k
/-- does a page have a byte that is not zero? -/
def nzB (g : Pg) : Bool := (List.range 64).any fun k => g.byt k != 0
/-- the pages with bytes -/
def datL (V : Vm) : Nat → List Nat
  | 0 => []
  | k + 1 => if nzB (V.pg k) = true then datL V k ++ [k] else datL V k
def bytL (g : Pg) : List Value := (List.range 64).map fun k => .int .u8 (g.byt k)
def daC (V : Vm) (p : Nat) : List Value := .int .i64 p :: bytL (V.pg p)
end Go.Pol
namespace Go.Pol
open Go Go.RowKit
/-- the cells of a saved state -/
def stC (v1 v2 v3 v4 : Value) (cs hs : Nat → Int) : List Value := v1 :: v2 :: v3 :: rfC v4 cs hs
end Go.Pol
namespace Go.Pol
open Go Go.RowKit
/-- a saved state in memory: runs, huge groups, pages with bytes, refusals -/
structure VsIs (w : World) (S : Value) (V : Vm) : Prop where
  ex : ∃ (A1 A2 A3 A4 : Option Addr) (n1 c1 n2 c2 n3 c3 n4 c4 : Nat), S = .agg (stC (.slice A1 n1 c1) (.slice A2 n2 c2) (.slice A3 n3 c3) (.slice A4 n4 c4) V.rf.calls V.rf.hits).toArray ∧
    (vrunsL V 1024).length = n1 ∧ Rd w w.heap.size A1 (fl rnC (vrunsL V 1024)) ∧ (hugL V 1024).length = n2 ∧ RI w w.heap.size A2 (hugL V 1024) ∧ (datL V 1024).length = n3 ∧ Rd w w.heap.size A3 (fl (daC V) (datL V 1024)) ∧
    V.rf.rules.length = n4 ∧ Rd w w.heap.size A4 (fl ruC V.rf.rules)
theorem VsIs.on {w w' : World} {S : Value} {V : Vm} (h : VsIs w S V) (hb : Below w.heap.size w w') : VsIs w' S V := by
  obtain ⟨A1, A2, A3, A4, n1, c1, n2, c2, n3, c3, n4, c4, h0, h1, h2, h3, h4, h5, h6, h7, h8⟩ := h.ex
  exact ⟨A1, A2, A3, A4, n1, c1, n2, c2, n3, c3, n4, c4, h0, h1, h2.on_ hb, h3, RI.more (RI.below h4 hb) hb.size, h5, h6.on_ hb, h7, h8.on_ hb⟩
end Go.Pol
namespace Go.Pol
open Go Go.RowKit
/-- pages of huge groups are committed; pages that are not have no bytes; kinds are kinds -/
structure GoodV (V : Vm) : Prop where
  kinds : KindOk V
  hug : ∀ p, p < 1024 → (V.pg p).huge = true → (V.pg p).kind = 2
  byt : ∀ p, p < 1024 → (V.pg p).kind ≠ 2 → ∀ k, (V.pg p).byt k = 0
theorem GoodV.of_pg {V U : Vm} (h : GoodV V) (e : U.pg = V.pg) : GoodV U := ⟨fun p hp => by rw [e]; exact h.kinds p hp, fun p hp => by rw [e]; exact h.hug p hp, fun p hp => by rw [e]; exact h.byt p hp⟩
theorem GoodV.eachP {V : Vm} (h : GoodV V) (a n : Nat) (f : Pg → Pg) (hk : ∀ p, p < 1024 → a ≤ p → p < a + n → 0 ≤ (f (V.pg p)).kind ∧ (f (V.pg p)).kind ≤ 3 ∧ ((f (V.pg p)).huge = true → (f (V.pg p)).kind = 2) ∧ ((f (V.pg p)).kind ≠ 2 → ∀ k, (f (V.pg p)).byt k = 0)) : GoodV (V.eachP a n f) := by
  have e : ∀ p, (V.eachP a n f).pg p = if a ≤ p ∧ p < a + n then f (V.pg p) else V.pg p := fun p => rfl
  refine ⟨fun p hp => ?_, fun p hp => ?_, fun p hp => ?_⟩
  · rw [e]
    split
    · rename_i h1; exact ⟨(hk p hp h1.1 h1.2).1, (hk p hp h1.1 h1.2).2.1⟩
    · exact h.kinds p hp
  · rw [e]
    split
    · rename_i h1; exact (hk p hp h1.1 h1.2).2.2.1
    · exact h.hug p hp
  · rw [e]
    split
    · rename_i h1; exact (hk p hp h1.1 h1.2).2.2.2
    · exact h.byt p hp
theorem GoodV.make {V : Vm} (h : GoodV V) (a n : Int) (call : Nat) (pr : Pg → Bool) (f : Pg → Pg) (hf : ∀ p, p < 1024 → pr (V.pg p) = true → 0 ≤ (f (V.pg p)).kind ∧ (f (V.pg p)).kind ≤ 3 ∧ ((f (V.pg p)).huge = true → (f (V.pg p)).kind = 2) ∧ ((f (V.pg p)).kind ≠ 2 → ∀ k, (f (V.pg p)).byt k = 0)) :
    GoodV (makeF V a n call pr f).2 := by
  unfold makeF
  split
  · exact h
  · split
    · exact h
    · rename_i hp
      rw [Bool.not_eq_false] at hp
      split
      · exact h.of_pg rfl
      · exact (h.of_pg (U := V.ref call) rfl).eachP _ _ _ (fun p hp2 h1 h2 => hf p hp2 (allP_iff.1 hp p h1 h2))
theorem GoodV.bec {V : Vm} (h : GoodV V) (a n : Int) (call : Nat) (fr tk : Int) (ht : 0 ≤ tk ∧ tk ≤ 3) : GoodV (bec V a n call fr tk).2 :=
  h.make a n call _ _ (fun p _ _ => ⟨ht.1, ht.2, fun h => (by cases h), fun _ _ => rfl⟩)
theorem GoodV.split {V : Vm} (h : GoodV V) (p : Int) : GoodV (splitF V p).2 := by
  unfold splitF
  split
  · exact h
  · refine h.make _ _ _ _ _ (fun q hq hk => ?_)
    have hb := h.kinds q hq
    exact ⟨hb.1, hb.2, fun h => (by cases h), h.byt q hq⟩
theorem GoodV.new : GoodV newVm := ⟨fun p _ => by show (0 : Int) ≤ 0 ∧ (0 : Int) ≤ 3; omega, fun p _ h => (by cases h), fun p _ _ k => rfl⟩
theorem GoodV.plan {V : Vm} (h : GoodV V) (l : List Ru) : GoodV (planF V l) := by
  unfold planF
  split
  · exact h.of_pg rfl
  · exact h
end Go.Pol
namespace Go.Proofs.YtpabnbhbcphfiaaGreat
open Go Go.Proofs Go.RowKit Go.Pol Go.Shelf
attribute [local go_sem] Oper.semAt_some Go.Pol.wide_fn Go.Pol.wide_depth Go.Pol.wide_fn' Go.Pol.wide_depth'
/-- a cell of an own row put anew -/
theorem own_bump {w : World} {base n sz g i cap : Nat} {e : TypeId} {xs : List Value} {v : Value} (h : w.ownsRow base e sz (.slice (some ⟨g, 0, none⟩) n cap) n xs) (_ : i < n * sz) :
    (w.setCell ⟨g, i, none⟩ v).ownsRow base e sz (.slice (some ⟨g, 0, none⟩) n cap) n (xs.set i v) := by
  refine ⟨by rw [List.length_set]; exact h.1, ?_⟩
  rcases h.2 with ⟨hn, _⟩ | ⟨g', cap', cur, hv, hb, hk, hc, hm, hs, ht⟩
  · cases hn
  · cases hv
    have hk' : Blk w g e cur := hk
    refine .inr ⟨g, cap, cur.setIfInBounds i v, rfl, hb, hk'.set_ i v, hc, hm, by rw [Array.size_setIfInBounds]; exact hs, ?_⟩
    rw [Array.toList_setIfInBounds, List.take_set, ht]
theorem rows_apart {w : World} {base1 base2 n1 n2 sz1 sz2 g : Nat} {e1 e2 : TypeId} {v1 v2 : Value} {xs1 xs2 : List Value} (h1 : w.ownsRow base1 e1 sz1 v1 n1 xs1) (h2 : w.ownsRow base2 e2 sz2 v2 n2 xs2) (hne : e1 ≠ e2)
    (hg1 : v1.ownBlock = some g) (hg2 : v2.ownBlock = some g) : False := by
  rcases h2.2 with ⟨hx, _⟩ | ⟨g', cap', cur, hx, _, hkx, _⟩
  · rw [hx] at hg2; cases hg2
  · rw [hx] at hg2
    have e' : g' = g := by injection hg2
    subst e'
    exact own_other h1 hg1 (show Blk w g' e2 cur from hkx) hne
def RunS (b s k : Nat) (v : Value) (K : Int) (w : World) : Prop := w.cell? ⟨s, 0, none⟩ = some v ∧ w.cell? ⟨b, k, none⟩ = some (.int .i64 K)
theorem RunS.later {b s k : Nat} {v : Value} {K : Int} {w w' : World} (h : RunS b s k v K w) (hF : Below w.heap.size w w') (hb : b < w.heap.size) (hs : s < w.heap.size) : RunS b s k v K w' :=
  ⟨(hF.cell (p := ⟨s, 0, none⟩) hs).trans h.1, (hF.cell (p := ⟨b, k, none⟩) hb).trans h.2⟩
def DatS (b s k : Nat) (v : Value) (cs : List Value) (w : World) : Prop := w.cell? ⟨s, 2, none⟩ = some v ∧ w.rangeAt b (1088 + k * 64) cs
theorem DatS.later {b s k : Nat} {v : Value} {cs : List Value} {w w' : World} (h : DatS b s k v cs w) (hF : Below w.heap.size w w') (hb : b < w.heap.size) (hs : s < w.heap.size) : DatS b s k v cs w' :=
  ⟨(hF.cell (p := ⟨s, 2, none⟩) hs).trans h.1, fun j u hj => (hF.cell (p := ⟨b, _, none⟩) hb).trans (h.2 j u hj)⟩
end Go.Proofs.YtpabnbhbcphfiaaGreat
namespace Go.Pol
open Go Go.Proofs Go.RowKit
def stayF (st : List Sp) (e : Int) (x : Sp) : List Sp := if e ≠ 0 then st ++ [x] else st
/-- what the statement of leave whose order is open reads -/
def LvS (g0 b gx : Nat) (xa xb : Int) (w : World) : Prop := w.cell? ⟨g0, 0, none⟩ = some (.pointer (some ⟨b, 0, none⟩)) ∧ w.cell? ⟨gx, 0, none⟩ = some (.int .i64 xa) ∧ w.cell? ⟨gx, 1, none⟩ = some (.int .i64 xb)
theorem LvS.far {g0 b gx : Nat} {xa xb : Int} {T : Nat → Prop} {w w' : World} (h : LvS g0 b gx xa xb w) (F : Far T w w') (h0 : ¬ T g0) (hx : ¬ T gx) : LvS g0 b gx xa xb w' := ⟨F.cell h.1 h0, F.cell h.2.1 hx, F.cell h.2.2 hx⟩
end Go.Pol
namespace Go.Proofs.YtpabnbhbcphfiaaGreat
open Go Go.Proofs Go.RowKit Go.Pol Go.Shelf
attribute [local go_sem] Oper.semAt_some Go.Pol.wide_fn Go.Pol.wide_depth Go.Pol.wide_fn' Go.Pol.wide_depth'

theorem idx_firE : ∀ (es : List Int) (k : Nat), (idxI (fun x => x != 0) es k = -1 ∧ firE es = 0) ∨ (∃ j : Nat, j < es.length ∧ idxI (fun x => x != 0) es k = ((k + j : Nat) : Int) ∧ es.getD j 0 = firE es ∧ firE es ≠ 0)
  | [], k => .inl ⟨rfl, rfl⟩
  | x :: r, k => by
    by_cases h : x = 0
    · subst h
      have e1 : idxI (fun x => x != 0) ((0 : Int) :: r) k = idxI (fun x => x != 0) r (k + 1) := by rw [idxI, if_neg (by simp)]
      have e2 : firE ((0 : Int) :: r) = firE r := by rw [firE, if_neg (by simp)]
      rw [e1, e2]
      rcases idx_firE r (k + 1) with ⟨h1, h2⟩ | ⟨j, h1, h2, h3, h4⟩
      · exact .inl ⟨h1, h2⟩
      · exact .inr ⟨j + 1, by simp; omega, by rw [h2]; congr 1; omega, by simpa using h3, h4⟩
    · refine .inr ⟨0, by simp, by rw [idxI, if_pos (by simpa using h)]; simp, ?_, ?_⟩
      · rw [firE, if_pos h]; rfl
      · rw [firE, if_pos h]; exact h
theorem leave1_any (x : Int) (W : World) : Calls Tryz.prog 205 #[.int .i64 x] W fun e W' => e = .returned (.bool (x != 0)) ∧ Below W.heap.size W W' := by
  go_enter Tryz.func205, Tryz.ntmps205
  go_wp2_with fail
  go_ret
  exact ⟨rfl, Below.refl _ _⟩
theorem leave1_enters : ∀ args w, (callFunc 205 args).run Tryz.prog w = .ok (.enter 205 args) w := enters_of Tryz.func205 (by kernel_rfl) rfl
set_option maxRecDepth 100000 in
theorem indexE_any (p : Int → Bool) (g : Nat) (lb : Array Value) (A : Option Addr) (n cap : Nat) (bs : List Int) (w : World) (hn : bs.length = n) (hm : n ≤ maxLen) (hr : RI w w.heap.size A bs)
    (eg : ∀ args w, (callFunc g args).run Tryz.prog w = .ok (.enter g args) w)
    (hp : ∀ x ∈ bs, ∀ W, Below w.heap.size w W → Calls Tryz.prog g (#[.int .i64 x] ++ lb) W fun e W' => e = .returned (.bool (p x)) ∧ Below W.heap.size W W') :
    Calls Tryz.prog 204 #[.slice A n cap, .func (.func g) #[] lb] w fun e w' => e = .returned (.int .i64 (idxI p bs 0)) ∧ Below w.heap.size w w' := by
  unfold maxLen at hm
  obtain ⟨R, hR⟩ : ∃ R, idxI p bs 0 = R := ⟨_, rfl⟩
  rw [hR]
  have hR' := Lib.hid hR
  have hn' := Lib.hid hn
  have hp' := Lib.hid hp
  clear hR hn hp
  go_enter Tryz.func204, Tryz.ntmps204
  go_wp2_with fail
  go_loopw [8] (fun i wr => ∃ k : Nat, k ≤ n ∧ i = .int .i64 k ∧ Below w.heap.size w wr ∧ Hid (idxI p (bs.drop k) k = R)) (fun i _ => n - (intOf i).toNat)
  case atStart => exact ⟨0, by omega, rfl, Below.refl _ _, by simpa using hR'⟩
  case round =>
    obtain ⟨k, hk, rfl, hB, hH⟩ := hrel
    by_cases hlt : k < n
    · have hlt' : decide ((k : Int) < (n : Int)) = true := by simpa using hlt
      obtain ⟨b, o, rfl, _, c1⟩ := ((hr.below hB).more hB.size).at_ (k := k) (by have := hn'.out; omega)
      have HP := Lib.hid (hp'.out (bs.getD k 0) (getD_memI (by have := hn'.out; omega)) wr hB)
      have hst := hH.out
      rw [Go.Pol.drop_cons 0 bs k (by have := hn'.out; omega), idxI] at hst
      generalize bs.getD k 0 = x at *
      cases hpx : p x with
      | true =>
        rw [hpx] at HP
        rw [if_pos hpx] at hst
        have hst' := Lib.hid hst
        clear hst hH hpx
        go_wp2_with fail
        refine HP.out.mono ?_
        rintro e w1 ⟨rfl, hb1⟩
        go_wp2_with fail
        go_ret
        exact ⟨ret_int hst'.out, hB.trans (hb1.mono hB.size)⟩
      | false =>
        rw [hpx] at HP
        rw [if_neg (by simp [hpx])] at hst
        have hst' := Lib.hid hst
        clear hst hH hpx
        go_wp2_with fail
        refine HP.out.mono ?_
        rintro e w1 ⟨rfl, hb1⟩
        go_wp2_with fail
        go_roundw
        case rel => exact ⟨k + 1, by omega, by go_num, hB.trans (hb1.mono hB.size), hst'⟩
        case measure => simp [intOf]; omega
    · obtain rfl : k = n := by omega
      have hlt' : decide ((k : Int) < (k : Int)) = false := by simp
      have hst := hH.out
      rw [List.drop_of_length_le (by have := hn'.out; omega)] at hst
      have hst' := Lib.hid (show -1 = R from hst)
      clear hst hH
      go_wp2_with fail
      go_ret
      exact ⟨ret_int hst'.out, hB⟩
theorem own_slice {w : World} {base sz n : Nat} {e : TypeId} {v : Value} {xs : List Value} (h : w.ownsRow base e sz v n xs) : ∃ (A : Option Addr) (cap : Nat), v = .slice A n cap := by
  obtain ⟨A, cap, h, _⟩ := own_Rd h
  exact ⟨A, cap, h⟩
theorem infoEr : (Tryz.prog.info? 35).map (fun i => (i.zero, i.size, i.bytes)) = some (some (.int .i64 0), 1, 8) := by kernel_rfl
set_option maxRecDepth 100000 in
set_option maxHeartbeats 3200000 in
theorem leave24_any (g0 b NB : Nat) (p : Int) (n : Nat) (A : Option Addr) (ln cl : Nat) (l st : List Sp) (v1 v2 : Value) (V : Vm) (w : World) (hV : SysIs w b V) (kM : Blk w g0 169 #[.pointer (some ⟨b, 0, none⟩), v1, v2]) (hg : g0 ≠ b)
    (ro : w.ownsRow NB 115 2 v2 st.length (spCells st)) (hNB : NB ≤ w.heap.size) (hbN : b < NB) (hst : st.length ≤ 1000) (hl : l.length = ln) (hr : RU w w.heap.size A l) (hAb : ∀ g o, A = some ⟨g, o, none⟩ → 0 < ln → g ≠ b)
    (hx : ∀ x ∈ l, (0 ≤ x.1 ∧ x.1 ≤ 1024) ∧ 0 ≤ x.2 ∧ x.2 ≤ 1024) (hln : ln ≤ 1024) (hp : 0 ≤ p ∧ p ≤ 1024) (_ : n ≤ 1024) :
    Calls Tryz.prog 147 #[.pointer (some ⟨g0, 0, none⟩), .int .i64 p, .int .i64 n, .slice A ln cl] w fun e w' => e = .returned (.int .i64 (leaveF V p n l).1) ∧
      ∃ v2', Blk w' g0 169 #[.pointer (some ⟨b, 0, none⟩), v1, v2'] ∧ w'.ownsRow NB 115 2 v2' (stayF st (leaveF V p n l).1 (p, n)).length (spCells (stayF st (leaveF V p n l).1 (p, n))) ∧ SysIs w' b (leaveF V p n l).2 ∧ Far (fun k => k = b ∨ k = g0 ∨ v2.ownBlock = some k) w w' := by
  obtain ⟨i0, hi, hz0, hz1, hz2⟩ := info_parts infoEr
  obtain ⟨j0, hj, hy0, hy1, hy2⟩ := infoSp_parts
  have HD := Lib.hid (fun (q m : Int) U W h => decommit_any b q m U W h)
  have HRl := Lib.hid (fun U W h => release_any b p n U W h)
  have hL : Hid (leaveF V p n l = (firE ((errsF V p l).1 ++ [(bec (errsF V p l).2 p n 1 1 0).1]), (bec (errsF V p l).2 p n 1 1 0).2)) := Lib.hid rfl
  obtain ⟨R, hR⟩ : ∃ R, leaveF V p n l = R := ⟨_, rfl⟩
  rw [hR] at hL ⊢
  have hV' := Lib.hid hV
  have hx' := Lib.hid hx
  have hl' := Lib.hid hl
  have hr' := Lib.hid hr
  have hbs := hV.lt
  have hgs := kM.lt
  clear hR hV hx hl hr
  go_enter Tryz.func147, Tryz.ntmps147
  go_wp2_with fail
  go_loopw [9, 15] (fun v i wr => ∃ (k : Nat) (es : List Int) (U : Vm), k ≤ ln ∧ i = .int .i64 k ∧ Hid ((l.take k).foldl (errsS p) ([], V) = (es, U)) ∧ Hid (es.length = k) ∧ wr.ownsRow w.heap.size 35 1 v k (es.map (Value.int .i64)) ∧ Hid (SysIs wr b U) ∧ Far (fun k => k = b) w wr) (fun _ i _ => ln - (intOf i).toNat)
  case atStart => exact ⟨0, [], V, by omega, rfl, Lib.hid (by simp), Lib.hid rfl, World.ownsRow_nil _ _ _ _, hV', Far.refl _ _⟩
  case round =>
    clear hV'
    obtain ⟨k, es, U, hk, rfl, hfl, hel, hrow, hU, hF⟩ := hrel
    have kMr := hF.blk kM (by show ¬ g0 = b; exact hg)
    have hs4 := hF.size
    by_cases hlt : k < ln
    · have hlt' : decide ((k : Int) < (ln : Int)) = true := by simpa using hlt
      have hln2 := hl'.out
      have hsn : (l.take (k + 1)).foldl (errsS p) ([], V) = errsS p (es, U) (l.getD k (0, 0)) := by rw [z_take (0, 0) l (by omega), List.foldl_append, hfl.out]; rfl
      obtain ⟨rb, ro', rfl, hrb, c5, c6⟩ := hr'.out.at_' (k := k) (by omega)
      have hne := hAb _ _ rfl (by omega)
      have d5 := hF.cell c5 (by show ¬ rb = b; omega)
      have d6 := hF.cell c6 (by show ¬ rb = b; omega)
      have hxb := hx'.out (l.getD k (0, 0)) (by rw [List.getD_eq_getElem?_getD, List.getElem?_eq_getElem (by omega)]; exact List.getElem_mem _)
      generalize l.getD k (0, 0) = x at *
      obtain ⟨xa, xb⟩ := x
      simp only at d5 d6 hsn hxb
      have hsn' : Hid ((l.take (k + 1)).foldl (errsS p) ([], V) = (es ++ [(bec U (p + xa) xb 3 2 1).1], (bec U (p + xa) xb 3 2 1).2)) := Lib.hid hsn
      have kx := Blk.new wr 115 #[.int .i64 xa, .int .i64 xb]
      have hbx : Below wr.heap.size wr (wr.alloc (.cells #[.int .i64 xa, .int .i64 xb] 115)) := (Below.refl _ _).alloc (Nat.le_refl _) _
      obtain ⟨gx, hgx⟩ : ∃ gx, wr.heap.size = gx := ⟨_, rfl⟩
      rw [hgx] at kx
      have hbz := hU.out.lt
      have hgz := kMr.lt
      clear hsn c5 c6 hfl hln2
      go_upto_region 5 with fail
      have Tx := Lib.hid (hU.out.call hbx)
      have rowx := ownsRow_call hrow hbx
      have hFx : Far (fun k => k = b) w _ := hF.trans (.of_below hbx)
      have kMx := kMr.call hbx
      generalize wr.alloc _ = w5 at *
      try simp only [hgx]
      have hS0 : LvS g0 b gx xa xb w5 := ⟨kMx.cell 0, kx.cell 0, kx.cell 1⟩
      have hb5 : Below w5.heap.size w5 w5.drew := (Below.refl _ w5).drew
      have HD5 := Lib.hid (HD.out (p + xa) xb U w5.drew (Tx.out.call hb5))
      clear hbx hU hrow hF d5 d6 kMr
      refine wp_noPanic ?_
      refine wp_region_T (LvS g0 b gx xa xb) [14] (by kernel_rfl) ?_
      have hS : LvS g0 b gx xa xb w5.drew := hS0
      refine' wpAnyT_take (i := 0) (v := _) ?hiT0 (by kernel_rfl) ?hQT0 (Or.inl ⟨?hwT0, ?hyT0⟩) hS ?reT0
      case hiT0 => (simp only [List.getElem?_toArray, List.getElem?_cons_zero]; rfl)
      case hQT0 => exact fun _ _ _ h => h
      case hwT0 => rfl
      case hyT0 => (intro wS hSw; obtain ⟨_, _⟩ := hSw; go_simp; (try with_reducible rfl))
      try simp only [Act.put, List.setIfInBounds_toArray, List.set_cons_zero, List.set_cons_succ]
      refine' wpAnyT_take (i := 1) (v := _) ?hiT1 (by kernel_rfl) ?hQT1 (Or.inl ⟨?hwT1, ?hyT1⟩) hS ?reT1
      case hiT1 => (simp only [List.getElem?_toArray, List.getElem?_cons_succ, List.getElem?_cons_zero]; rfl)
      case hQT1 => exact fun _ _ _ h => h
      case hwT1 => rfl
      case hyT1 => (intro wS hSw; obtain ⟨_, _⟩ := hSw; go_simp; (try with_reducible rfl))
      try simp only [Act.put, List.setIfInBounds_toArray, List.set_cons_zero, List.set_cons_succ]
      refine' wpAnyT_take (i := 2) (v := _) ?hiT2 (by kernel_rfl) ?hQT2 (Or.inl ⟨?hwT2, ?hyT2⟩) hS ?reT2
      case hiT2 => (simp only [List.getElem?_toArray, List.getElem?_cons_succ, List.getElem?_cons_zero]; rfl)
      case hQT2 => exact fun _ _ _ h => h
      case hwT2 => rfl
      case hyT2 => (intro wS hSw; obtain ⟨_, _⟩ := hSw; go_simp; (try with_reducible rfl))
      try simp only [Act.put, List.setIfInBounds_toArray, List.set_cons_zero, List.set_cons_succ]
      refine' wpAnyT_take (i := 3) (v := _) ?hiT3 (by kernel_rfl) ?hQT3 (Or.inl ⟨?hwT3, ?hyT3⟩) hS ?reT3
      case hiT3 => (simp only [List.getElem?_toArray, List.getElem?_cons_succ, List.getElem?_cons_zero]; rfl)
      case hQT3 => exact fun _ _ _ h => h
      case hwT3 => rfl
      case hyT3 => (intro wS hSw; obtain ⟨_, _⟩ := hSw; go_simp; (try with_reducible rfl))
      try simp only [Act.put, List.setIfInBounds_toArray, List.set_cons_zero, List.set_cons_succ]
      refine' wpAnyT_take (i := 4) (v := _) ?hiT4 (by kernel_rfl) ?hQT4 (Or.inl ⟨?hwT4, ?hyT4⟩) hS ?reT4
      case hiT4 => (simp only [List.getElem?_toArray, List.getElem?_cons_succ, List.getElem?_cons_zero]; rfl)
      case hQT4 => exact fun _ _ _ h => h
      case hwT4 => rfl
      case hyT4 => (intro wS hSw; obtain ⟨_, _⟩ := hSw; go_simp; (try with_reducible rfl))
      try simp only [Act.put, List.setIfInBounds_toArray, List.set_cons_zero, List.set_cons_succ]
      refine' wpAnyT_take (i := 5) (v := _) ?hiT5 (by kernel_rfl) ?hQT5 (Or.inl ⟨?hwT5, ?hyT5⟩) hS ?reT5
      case hiT5 => (simp only [List.getElem?_toArray, List.getElem?_cons_succ, List.getElem?_cons_zero]; rfl)
      case hQT5 => exact fun _ _ _ h => h
      case hwT5 => rfl
      case hyT5 => (intro wS hSw; obtain ⟨_, _⟩ := hSw; go_simp; (try with_reducible rfl))
      try simp only [Act.put, List.setIfInBounds_toArray, List.set_cons_zero, List.set_cons_succ]
      refine' wpAnyT_take (i := 6) (v := _) ?hiT6 (by kernel_rfl) ?hQT6 (Or.inl ⟨?hwT6, ?hyT6⟩) hS ?reT6
      case hiT6 => (simp only [List.getElem?_toArray, List.getElem?_cons_succ, List.getElem?_cons_zero]; rfl)
      case hQT6 => exact fun _ _ _ h => h
      case hwT6 => rfl
      case hyT6 => (intro wS hSw; obtain ⟨_, _⟩ := hSw; go_simp; (try with_reducible rfl))
      try simp only [Act.put, List.setIfInBounds_toArray, List.set_cons_zero, List.set_cons_succ]
      refine' wpAnyT_take (i := 7) (v := _) ?hiT7 (by kernel_rfl) ?hQT7 (Or.inl ⟨?hwT7, ?hyT7⟩) hS ?reT7
      case hiT7 => (simp only [List.getElem?_toArray, List.getElem?_cons_succ, List.getElem?_cons_zero]; rfl)
      case hQT7 => exact fun _ _ _ h => h
      case hwT7 => rfl
      case hyT7 => (intro wS hSw; obtain ⟨_, _⟩ := hSw; go_simp; (try with_reducible rfl))
      try simp only [Act.put, List.setIfInBounds_toArray, List.set_cons_zero, List.set_cons_succ]
      refine' wpAnyT_take (i := 8) (v := _) ?hiT8 (by kernel_rfl) ?hQT8 (Or.inl ⟨?hwT8, ?hyT8⟩) hS ?reT8
      case hiT8 => (simp only [List.getElem?_toArray, List.getElem?_cons_succ, List.getElem?_cons_zero]; rfl)
      case hQT8 => exact fun _ _ _ h => h
      case hwT8 => rfl
      case hyT8 => (intro wS hSw; obtain ⟨_, _⟩ := hSw; go_simp; (try with_reducible rfl))
      try simp only [Act.put, List.setIfInBounds_toArray, List.set_cons_zero, List.set_cons_succ]
      try rw [IntWalk.i64_in (p + xa) (by omega)]
      refine' wpAnyT_take (i := 9) (v := _) ?hiT9 (by kernel_rfl) ?hQT9 (Or.inl ⟨?hwT9, ?hyT9⟩) hS ?reT9
      case hiT9 => (simp only [List.getElem?_toArray, List.getElem?_cons_succ, List.getElem?_cons_zero]; rfl)
      case hQT9 => exact fun _ _ _ h => h
      case hwT9 => rfl
      case hyT9 => (intro wS hSw; obtain ⟨_, _⟩ := hSw; go_simp; (try with_reducible rfl))
      try simp only [Act.put, List.setIfInBounds_toArray, List.set_cons_zero, List.set_cons_succ]
      refine' wpAnyT_take (i := 10) (v := _) ?hiT10 (by kernel_rfl) ?hQT10 (Or.inl ⟨?hwT10, ?hyT10⟩) hS ?reT10
      case hiT10 => (simp only [List.getElem?_toArray, List.getElem?_cons_succ, List.getElem?_cons_zero]; rfl)
      case hQT10 => exact fun _ _ _ h => h
      case hwT10 => rfl
      case hyT10 => (intro wS hSw; obtain ⟨_, _⟩ := hSw; go_simp; (try with_reducible rfl))
      try simp only [Act.put, List.setIfInBounds_toArray, List.set_cons_zero, List.set_cons_succ]
      refine wpAnyT_ready (rs := [11]) (by kernel_rfl) (by simp) ?_
      refine' AllReadyT.cons ?hi11 (fun K hK => ?st11) AllReadyT.nil
      case hi11 => (simp only [List.getElem?_toArray, List.getElem?_cons_succ, List.getElem?_cons_zero]; rfl)
      go_simp
      refine HD5.out.mono ?_
      rintro e w6 ⟨rfl, V6, F6⟩
      have hF6 : Far (fun k => k = b) w w6 := (hFx.trans (.of_below hb5)).trans F6
      have hgxb : ¬ gx = b := by omega
      have hS6 : LvS g0 b gx xa xb w6 := hS.far F6 (by show ¬ g0 = b; exact hg) (by show ¬ gx = b; exact hgxb)
      have kM6 := F6.blk (kMx.call hb5) (by show ¬ g0 = b; exact hg)
      have kx6 := F6.blk (kx.call hb5) (by show ¬ gx = b; exact hgxb)
      have row5 := ownsRow_call rowx hb5
      have row6 := ownsRow_far row5 F6 (fun g hg h => by have := (row5.lt g hg).1; omega)
      have V6' := Lib.hid V6
      generalize bec U (p + xa) xb 3 2 1 = J at *
      obtain ⟨je, jV⟩ := J
      simp only at hsn' V6'
      refine hK.out _ _ (fun _ => hS6) (fun hS => ?_)
      clear hK K HD5 Tx V6 rowx row5 hFx F6
      replace hS := hS rfl
      refine wpAnyT_ready (rs := [12]) (by kernel_rfl) (by simp) ?_
      refine' AllReadyT.cons ?hi12 (fun K hK => ?st12) AllReadyT.nil
      case hi12 => (simp only [List.getElem?_toArray, List.getElem?_cons_succ, List.getElem?_cons_zero]; rfl)
      go_simp
      have kN := Blk.new w6 35 #[.int .i64 je]
      have hbN : Below w6.heap.size w6 (w6.alloc (.cells #[.int .i64 je] 35)) := (Below.refl _ _).alloc (Nat.le_refl _) _
      refine hK.out _ _ (fun _ => hS6.far (T := fun _ => False) (.of_below hbN) id id) (fun hS => ?_)
      clear hK K
      replace hS := hS rfl
      try simp only [Act.put, List.setIfInBounds_toArray, List.set_cons_zero, List.set_cons_succ]
      have hs6 := hF6.size
      refine wpAnyT_ready (rs := [13]) (by kernel_rfl) (by simp) ?_
      refine' AllReadyT.cons ?hi13 (fun K hK => ?st13) AllReadyT.nil
      case hi13 => (simp only [List.getElem?_toArray, List.getElem?_cons_succ, List.getElem?_cons_zero]; rfl)
      rw [if_pos (by simp [Region.wanted])]
      refine wp_append_own _ (.tmp 19) (.tmp 31) 285 rfl w.heap.size 35 i0 (.int .i64 0) 1 8 Tryz.underlying285 hi hz0 hz1 hz2 rfl (by decide) _ k (es.map (Value.int .i64)) rfl (row6.alloc _) ⟨w6.heap.size, 0, none⟩ 1 1 [.int .i64 je] rfl rfl (news_i kN) ints_one (by unfold maxLen; omega) (by omega) (by simp; omega) ?_
      intro v' w7 hown' hgrow _
      rw [show es.map (Value.int .i64) ++ [Value.int .i64 je] = (es ++ [je]).map (Value.int .i64) by simp] at hown'
      have F8 := (Far.of_below hbN).grown hgrow (T := fun k => Value.ownBlock _ = some k) (fun g hg _ => hg)
      have hS7 := hS6.far F8 (fun h => own_other row6 h kM6 (by decide)) (fun h => own_other row6 h kx6 (by decide))
      refine hK.out _ _ (fun _ => hS7) (fun hS => ?_)
      clear hK K
      replace hS := hS rfl
      try simp only [Act.put, List.setIfInBounds_toArray, List.set_cons_zero, List.set_cons_succ]
      refine wpAnyT_ready (rs := [14]) (by kernel_rfl) (by simp) ?_
      refine' AllReadyT.cons ?hi14 (fun K hK => ?st14) AllReadyT.nil
      case hi14 => (simp only [List.getElem?_toArray, List.getElem?_cons_succ, List.getElem?_cons_zero]; rfl)
      go_simp
      refine hK.out _ _ (fun h => absurd h (by decide)) (fun _ => ?_)
      clear hK K
      refine wpAnyT_done (by kernel_rfl) ?_ _
      refine noPanic_normal ?_
      go_wp2_with fail
      go_roundw
      case rel =>
        exact ⟨k + 1, es ++ [je], jV, by omega, by go_num, hsn', Lib.hid (by rw [List.length_append, hel.out]; rfl), hown', Lib.hid (V6'.out.far F8 (fun h => by have := (row6.lt b h).1; omega) (fun _ _ _ _ _ _ g _ _ _ hc hg => hc.elim fun cr hcr => own_other row6 hg hcr (by decide))), hF6.trans' F8 (fun i hi h => by have := (row6.lt i h).1; omega)⟩
      case measure => simp [intOf]; omega
    · obtain rfl : k = ln := by omega
      have hlt' : decide ((k : Int) < (k : Int)) = false := by simp
      have hln2 := hl'.out
      have hEr : Hid (errsF V p l = (es, U)) := Lib.hid (by have := hfl.out; rwa [List.take_of_length_le (by omega)] at this)
      obtain ⟨wA, rfl⟩ : ∃ wA, wA = wr := ⟨_, rfl⟩
      have HR1 := Lib.hid (HRl.out U wA hU.out)
      have cM := kMr.cell
      clear hfl hr' hx' hln2
      go_wp2_with fail
      refine HR1.out.mono ?_
      rintro e w6 ⟨rfl, V6, F6⟩
      have hF6 : Far (fun k => k = b) w w6 := hF.trans F6
      have kM6 := F6.blk kMr (by show ¬ g0 = b; exact hg)
      have row6 := ownsRow_far hrow F6 (fun g hg h => by have := (hrow.lt g hg).1; omega)
      have V6' := Lib.hid V6
      have hL2 : Hid (R = (firE (es ++ [(bec U p n 1 1 0).1]), (bec U p n 1 1 0).2)) := Lib.hid (by rw [hL.out, hEr.out])
      generalize bec U p n 1 1 0 = J at *
      obtain ⟨je, jV⟩ := J
      simp only at hL2 V6'
      have kN := Blk.new w6 35 #[.int .i64 je]
      have hbN : Below w6.heap.size w6 (w6.alloc (.cells #[.int .i64 je] 35)) := (Below.refl _ _).alloc (Nat.le_refl _) _
      have hs6 := hF6.size
      clear HR1 HRl V6 F6 hrow hF hU cM kMr hL hEr
      go_upto_region 8 with (refine wpList_append_own _ rfl (.tmp 34) (.tmp 42) 285 rfl w.heap.size 35 i0 (.int .i64 0) 1 8 Tryz.underlying285 hi hz0 hz1 hz2 rfl (by decide) _ k (es.map (Value.int .i64)) rfl (row6.alloc _) ⟨w6.heap.size, 0, none⟩ 1 1 [.int .i64 je] rfl rfl (news_i kN) ints_one (by unfold maxLen; omega) (by omega) (by simp; omega) ?_; intro v' w7 hown' hgrow _; rw [show es.map (Value.int .i64) ++ [Value.int .i64 je] = (es ++ [je]).map (Value.int .i64) by simp] at hown'; have F8 := (Far.of_below hbN).grown hgrow (T := fun k => Value.ownBlock _ = some k) (fun g hg _ => hg); obtain ⟨A9, c9, rfl, hru9, _, _, hfr9, _⟩ := own_Rd hown')
      have V7 := Lib.hid (V6'.out.far F8 (fun h => by have := (row6.lt b h).1; omega) (fun _ _ _ _ _ _ g _ _ _ hc hg => hc.elim fun cr hcr => own_other row6 hg hcr (by decide)))
      have hF7 : Far (fun k => k = b) w w7 := hF6.trans' F8 (fun i hi h => by have := (row6.lt i h).1; omega)
      have kM7 := F8.blk kM6 (fun h => own_other row6 h kM6 (by decide))
      have hel' : (es ++ [je]).length = k + 1 := by rw [List.length_append, hel.out]; rfl
      generalize es ++ [je] = fs at *
      have HI := indexE_any (fun x => x != 0) 205 #[] A9 (k + 1) c9 fs w7 hel' (by unfold maxLen; omega) hru9 leave1_enters (fun x _ W _ => leave1_any x W)
      have hfi := idx_firE fs 0
      have ro7 := ownsRow_far ro hF7 (fun g hg h => by have := (ro.lt g hg).1; omega)
      have hgv : ∀ g, v2.ownBlock = some g → NB ≤ g ∧ g < w.heap.size := fun g hg => ro.lt g hg
      generalize idxI (fun x => x != 0) fs 0 = ix at *
      have HI' := Lib.hid HI
      clear HI row6 hown' hgrow F8 hbN kN kM6 V6' hF6 hs6
      rcases hfi with ⟨rfl, hf0⟩ | ⟨j, hj1, hj2, hj3, hj4⟩
      · rw [hf0] at hL2
        go_wp2_with fail
        refine HI'.out.mono ?_
        rintro e w8 ⟨rfl, hb8⟩
        go_wp2_with fail
        go_ret
        rw [hL2.out]
        exact ⟨rfl, v2, kM7.call hb8, by simp only [stayF]; exact ownsRow_call ro7 hb8, V7.out.call hb8, (hF7.trans (.of_below hb8)).mono (fun k _ h => .inl h)⟩
      · rw [Nat.zero_add] at hj2
        subst hj2
        have hj0 : decide ((j : Int) < 0) = false := by rw [decide_eq_false_iff_not]; omega
        have hjk : (j : Int) < ((k + 1 : Nat) : Int) := by omega
        obtain ⟨rb, ro', rfl, hrb, c9'⟩ := RI.at_ (xs := fs) hru9 (k := j) (by omega)
        have hrbw := hfr9 rb ro' rfl
        rw [hj3] at c9'
        obtain ⟨er, her⟩ : ∃ er, firE fs = er := ⟨_, rfl⟩
        rw [her] at c9' hL2 hj4
        obtain ⟨A2, cap2, rfl, _⟩ := own_RU ro7 rfl
        clear her hj3 hru9
        go_wp2_with fail
        refine HI'.out.mono ?_
        rintro e w8 ⟨rfl, hb8⟩
        have kM8 := kM7.call hb8
        have cM8 := kM8.cell
        have V8 := Lib.hid (V7.out.call hb8)
        have ro8 := ownsRow_call ro7 hb8
        have c98 := (hb8.cell (p := ⟨rb, ro' + j, none⟩) hrb).trans c9'
        have hs7 := hF7.size
        have hs8 := hb8.size
        have kN := Blk.new w8 115 #[.int .i64 p, .int .i64 (n : Int)]
        have hbN : Below w8.heap.size w8 (w8.alloc (.cells #[.int .i64 p, .int .i64 (n : Int)] 115)) := (Below.refl _ _).alloc (Nat.le_refl _) _
        obtain ⟨sl, hsl⟩ : ∃ sl, st.length = sl := ⟨_, rfl⟩
        have F78 : Far (fun k => k = b) w w8 := hF7.trans (.of_below hb8)
        rw [hsl] at ro8 hgv hst kM8 cM8
        have T6 : ¬ (Value.slice A2 sl cap2).ownBlock = some rb := (fun h => by have := hgv _ h; omega)
        clear HI' kM7 c9' V7 ro7 hF7 ro
        go_wp2_with (refine wpList_append_own _ rfl (.tmp 52) (.tmp 56) 22 rfl NB 115 j0 (.agg #[.int .i64 0, .int .i64 0]) 2 16 Tryz.underlying22 hj hy0 hy1 hy2 rfl (by decide) _ sl (spCells st) rfl (ro8.alloc _) ⟨w8.heap.size, 0, none⟩ 1 1 [.int .i64 p, .int .i64 (n : Int)] rfl rfl (news_two kN) news_one2 (by unfold maxLen; omega) (by omega) (by simp; omega) ?_; intro v' w9 hown' hgrow _; have F9 : Far (fun g => (Value.slice A2 sl cap2).ownBlock = some g) w8 w9 := (Far.of_below hbN).grown hgrow (fun g hg _ => hg); have kM9 := F9.blk kM8 (fun h => own_other ro8 h kM8 (by decide)); have fM9 := kM9.frozen; have cM9 := kM9.cell; have c99 := F9.cell c98 T6; obtain ⟨A2n, cap2n, rfl⟩ := own_slice hown'; clear cM8)
        go_ret
        have FS : Far (fun i => i = g0) w9 (w9.setCell ⟨g0, 2, none⟩ (.slice A2n (sl + 1) cap2n)) := Far.setCell (T := fun i => i = g0) (p := ⟨g0, 2, none⟩) (Far.refl _ w9) (fun _ => rfl) _
        have V9 := V8.out.far F9 (fun h => by have := (ro8.lt b h).1; omega) (fun _ _ _ _ _ _ g _ _ _ hc hg => hc.elim fun cr hcr => own_other ro8 hg hcr (by decide))
        rw [hL2.out]
        refine ⟨rfl, _, kM9.set_ 2 (.slice A2n (sl + 1) cap2n), ?_, V9.far FS (fun h => hg h.symm) (fun _ _ _ _ _ _ g _ _ _ hc hg => hc.elim fun cr hcr => Blk.ne_ hcr kM9 (by decide) hg), ?_⟩
        · rw [show stayF st er (p, (n : Int)) = st ++ [(p, (n : Int))] by rw [stayF, if_pos hj4], List.length_append, List.length_singleton, hsl, spCells_snoc]
          exact ownsRow_far hown' FS (fun g hg h => own_other hown' (hg.trans (congrArg some h)) kM9 (by decide))
        · rw [hsl]
          exact ((F78.mono (T' := fun k => k = b ∨ k = g0 ∨ (Value.slice A2 sl cap2).ownBlock = some k) (fun k _ h => .inl h)).trans' F9 (fun i _ h => .inr (.inr h))).trans' FS (fun i _ h => .inr (.inl h))
end Go.Proofs.YtpabnbhbcphfiaaGreat
namespace Go.Pol
open Go Go.Proofs Go.RowKit
section
variable {P : Program} {ops : Array Oper} {Q : Exit → Act → World → Prop} {md : Region.Mode} {S : World → Prop} {tl : List Nat}
/-- operations that need nothing may be taken ahead: the condition on the world is asked from here on -/
theorem wpAnyT_weakS : ∀ (fuel : Nat) (listed : Array Bool) (a : Act) (w : World), wpAnyT P md ops Q S tl fuel listed a w → wpAnyT P md ops Q (fun _ => True) [] fuel listed a w
  | 0, _, _, _, h => h
  | fuel + 1, _, _, _, h => ⟨h.1, fun i hi => wpOp_mono (fun a' w' h' => ⟨fun _ => trivial, wpAnyT_weakS fuel _ a' w' h'.2⟩) (h.2 i hi)⟩
end
/-- the cells of two spans of a row -/
def SwT (g p q : Nat) (x y : Sp) (W : World) : Prop := (W.cell? ⟨g, p * 2, none⟩ = some (.int .i64 x.1) ∧ W.cell? ⟨g, p * 2 + 1, none⟩ = some (.int .i64 x.2)) ∧ W.cell? ⟨g, q * 2, none⟩ = some (.int .i64 y.1) ∧ W.cell? ⟨g, q * 2 + 1, none⟩ = some (.int .i64 y.2)
end Go.Pol
namespace Go.Proofs.YtpabnbhbcphfiaaGreat
open Go Go.Proofs Go.RowKit Go.Pol Go.Shelf
attribute [local go_sem] Oper.semAt_some Go.Pol.wide_fn Go.Pol.wide_depth Go.Pol.wide_fn' Go.Pol.wide_depth'

theorem own_frozen {w : World} {base g n sz cap : Nat} {e : TypeId} {xs : List Value} (h : w.ownsRow base e sz (.slice (some ⟨g, 0, none⟩) n cap) n xs) : ∃ cur, Blk w g e cur := by
  rcases h.2 with ⟨hn, _⟩ | ⟨g', cap', cur, hv, _, hk, _⟩
  · cases hn
  · cases hv; exact ⟨cur, hk⟩
theorem own_span {w : World} {base g n cap p : Nat} {e : TypeId} {l : List Sp} (h : w.ownsRow base e 2 (.slice (some ⟨g, 0, none⟩) n cap) n (spCells l)) (hl : l.length = n) (hp : p < n) :
    w.cell? ⟨g, p * 2, none⟩ = some (.int .i64 (l.getD p (0, 0)).1) ∧ w.cell? ⟨g, p * 2 + 1, none⟩ = some (.int .i64 (l.getD p (0, 0)).2) := by
  have h2 := spCells_at l p (by omega)
  rw [h.cellAt _ (by omega), h.cellAt _ (by omega)]
  exact h2
theorem own_setSpan {w : World} {base g n cap p : Nat} {e : TypeId} {l : List Sp} (h : w.ownsRow base e 2 (.slice (some ⟨g, 0, none⟩) n cap) n (spCells l)) (hp : p < n) (y : Sp) :
    ((w.setCell ⟨g, p * 2, none⟩ (.int .i64 y.1)).setCell ⟨g, p * 2 + 1, none⟩ (.int .i64 y.2)).ownsRow base e 2 (.slice (some ⟨g, 0, none⟩) n cap) n (spCells (l.set p y)) := by
  rw [← spCells_setE]
  exact own_bump (own_bump h (by omega)) (by omega)
set_option maxRecDepth 100000 in
set_option maxHeartbeats 1600000 in
theorem rev_any (g n cap base : Nat) (l : List Sp) (w : World) (hl : l.length = n) (hn : n ≤ 1024) (ro : w.ownsRow base 115 2 (.slice (some ⟨g, 0, none⟩) n cap) n (spCells l)) :
    Calls Tryz.prog 146 #[.slice (some ⟨g, 0, none⟩) n cap] w fun e w' => e = .returned (.tuple #[]) ∧ w'.ownsRow base 115 2 (.slice (some ⟨g, 0, none⟩) n cap) n (spCells l.reverse) ∧ Far (fun k => k = g) w w' := by
  have hl' := Lib.hid hl
  clear hl
  go_enter Tryz.func146, Tryz.ntmps146
  go_wp2_with fail
  go_loopw [2, 3] (fun i j wr => ∃ (k : Nat) (jv : Int), 2 * k ≤ n ∧ i = .int .i64 k ∧ j = .int .i64 jv ∧ jv = (n : Int) - 1 - k ∧ wr.ownsRow base 115 2 (.slice (some ⟨g, 0, none⟩) n cap) n (spCells (revK k l)) ∧ Far (fun k => k = g) w wr) (fun i _ _ => n - (intOf i).toNat)
  case atStart => exact ⟨0, _, by omega, rfl, rfl, by omega, ro, Far.refl _ _⟩
  case round =>
    clear ro
    obtain ⟨k, jv, hk, rfl, rfl, hjv, ro, hF⟩ := hrel
    by_cases hlt : (k : Int) < jv
    · have hlt' : decide ((k : Int) < jv) = true := by simpa using hlt
      obtain ⟨q, rfl⟩ := Int.eq_ofNat_of_zero_le (show 0 ≤ jv by omega)
      have hq : q = l.length - 1 - k := by have := hl'.out; omega
      have hlk := revK_len l k
      rw [hl'.out] at hlk
      have hnext : Hid (revK (k + 1) l = ((revK k l).set k ((revK k l).getD q (0, 0))).set q ((revK k l).getD k (0, 0))) := Lib.hid (by rw [revK, hq])
      have hS0 : SwT g k q ((revK k l).getD k (0, 0)) ((revK k l).getD q (0, 0)) wr := ⟨own_span ro hlk (by omega), own_span ro hlk (by omega)⟩
      generalize revK k l = lk at *
      have hset := own_setSpan (w := wr.drew) (p := k) (show wr.drew.ownsRow base _ 2 _ n (spCells lk) from ownsRow_call ro ((Below.refl _ wr).drew)) (by omega) (lk.getD q (0, 0))
      have hset2 := own_setSpan (p := q) hset (by omega) (lk.getD k (0, 0))
      rw [← hnext.out] at hset2
      generalize lk.getD k (0, 0) = x at *
      generalize hY : lk.getD q (0, 0) = y at *
      obtain ⟨cur, hcur⟩ := own_frozen ro
      have hkn : (k : Int) < (n : Int) := by omega
      have hkq : k < q := by omega
      have hqn : (q : Int) < (n : Int) := by omega
      have hjv' := Lib.hid hjv
      have hk' := Lib.hid hk
      clear hjv hlt
      go_upto_region 3 with fail
      refine wp_noPanic ?_
      refine wp_region_T (fun _ => True) [] (by kernel_rfl) ?_
      have hS : SwT g k q x y wr.drew := hS0
      have kd := hcur.drew
      have hFd := hF.drew
      generalize wr.drew = w1 at *
      obtain ⟨xa, xb⟩ := x
      obtain ⟨ya, yb⟩ := y
      clear hS0 hcur hF ro hnext hq
      refine' wpAnyT_take (i := 0) (v := _) ?hiT0 (by kernel_rfl) ?hQT0 (Or.inl ⟨?hwT0, ?hyT0⟩) trivial ?reT0
      case hiT0 => (simp only [List.getElem?_toArray, List.getElem?_cons_zero]; rfl)
      case hQT0 => exact fun _ _ _ h => h
      case hwT0 => rfl
      case hyT0 => (intro wS hSw; go_simp; (try with_reducible rfl))
      try simp only [Act.put, List.setIfInBounds_toArray, List.set_cons_zero, List.set_cons_succ]
      refine' wpAnyT_take (i := 1) (v := _) ?hiT1 (by kernel_rfl) ?hQT1 (Or.inl ⟨?hwT1, ?hyT1⟩) trivial ?reT1
      case hiT1 => (simp only [List.getElem?_toArray, List.getElem?_cons_succ, List.getElem?_cons_zero]; rfl)
      case hQT1 => exact fun _ _ _ h => h
      case hwT1 => rfl
      case hyT1 => (intro wS hSw; go_simp; (try with_reducible rfl))
      try simp only [Act.put, List.setIfInBounds_toArray, List.set_cons_zero, List.set_cons_succ]
      refine' wpAnyT_take (i := 2) (v := _) ?hiT2 (by kernel_rfl) ?hQT2 (Or.inl ⟨?hwT2, ?hyT2⟩) trivial ?reT2
      case hiT2 => (simp only [List.getElem?_toArray, List.getElem?_cons_succ, List.getElem?_cons_zero]; rfl)
      case hQT2 => exact fun _ _ _ h => h
      case hwT2 => rfl
      case hyT2 => (intro wS hSw; go_simp; (try with_reducible rfl))
      try simp only [Act.put, List.setIfInBounds_toArray, List.set_cons_zero, List.set_cons_succ]
      refine' wpAnyT_take (i := 3) (v := _) ?hiT3 (by kernel_rfl) ?hQT3 (Or.inl ⟨?hwT3, ?hyT3⟩) trivial ?reT3
      case hiT3 => (simp only [List.getElem?_toArray, List.getElem?_cons_succ, List.getElem?_cons_zero]; rfl)
      case hQT3 => exact fun _ _ _ h => h
      case hwT3 => rfl
      case hyT3 => (intro wS hSw; go_simp; (try with_reducible rfl))
      try simp only [Act.put, List.setIfInBounds_toArray, List.set_cons_zero, List.set_cons_succ]
      refine wpAnyT_weakS (S := SwT g k q (xa, xb) (ya, yb)) (tl := [13, 14, 15]) _ _ _ _ ?_
      refine' wpAnyT_take (i := 4) (v := _) ?hiT4 (by kernel_rfl) ?hQT4 (Or.inl ⟨?hwT4, ?hyT4⟩) hS ?reT4
      case hiT4 => (simp only [List.getElem?_toArray, List.getElem?_cons_succ, List.getElem?_cons_zero]; rfl)
      case hQT4 => exact fun _ _ _ h => h
      case hwT4 => rfl
      case hyT4 => (intro wS hSw; obtain ⟨_, _⟩ := hSw; go_simp; (try with_reducible rfl))
      try simp only [Act.put, List.setIfInBounds_toArray, List.set_cons_zero, List.set_cons_succ]
      refine' wpAnyT_take (i := 5) (v := _) ?hiT5 (by kernel_rfl) ?hQT5 (Or.inl ⟨?hwT5, ?hyT5⟩) hS ?reT5
      case hiT5 => (simp only [List.getElem?_toArray, List.getElem?_cons_succ, List.getElem?_cons_zero]; rfl)
      case hQT5 => exact fun _ _ _ h => h
      case hwT5 => rfl
      case hyT5 => (intro wS hSw; obtain ⟨_, _⟩ := hSw; go_simp; (try with_reducible rfl))
      try simp only [Act.put, List.setIfInBounds_toArray, List.set_cons_zero, List.set_cons_succ]
      refine' wpAnyT_take (i := 6) (v := _) ?hiT6 (by kernel_rfl) ?hQT6 (Or.inl ⟨?hwT6, ?hyT6⟩) hS ?reT6
      case hiT6 => (simp only [List.getElem?_toArray, List.getElem?_cons_succ, List.getElem?_cons_zero]; rfl)
      case hQT6 => exact fun _ _ _ h => h
      case hwT6 => rfl
      case hyT6 => (intro wS hSw; obtain ⟨_, _⟩ := hSw; go_simp; (try with_reducible rfl))
      try simp only [Act.put, List.setIfInBounds_toArray, List.set_cons_zero, List.set_cons_succ]
      refine' wpAnyT_take (i := 7) (v := _) ?hiT7 (by kernel_rfl) ?hQT7 (Or.inl ⟨?hwT7, ?hyT7⟩) hS ?reT7
      case hiT7 => (simp only [List.getElem?_toArray, List.getElem?_cons_succ, List.getElem?_cons_zero]; rfl)
      case hQT7 => exact fun _ _ _ h => h
      case hwT7 => rfl
      case hyT7 => (intro wS hSw; obtain ⟨_, _⟩ := hSw; go_simp; (try with_reducible rfl))
      try simp only [Act.put, List.setIfInBounds_toArray, List.set_cons_zero, List.set_cons_succ]
      refine' wpAnyT_take (i := 8) (v := _) ?hiT8 (by kernel_rfl) ?hQT8 (Or.inl ⟨?hwT8, ?hyT8⟩) hS ?reT8
      case hiT8 => (simp only [List.getElem?_toArray, List.getElem?_cons_succ, List.getElem?_cons_zero]; rfl)
      case hQT8 => exact fun _ _ _ h => h
      case hwT8 => rfl
      case hyT8 => (intro wS hSw; obtain ⟨_, _⟩ := hSw; go_simp; (try with_reducible rfl))
      try simp only [Act.put, List.setIfInBounds_toArray, List.set_cons_zero, List.set_cons_succ]
      refine' wpAnyT_take (i := 9) (v := _) ?hiT9 (by kernel_rfl) ?hQT9 (Or.inl ⟨?hwT9, ?hyT9⟩) hS ?reT9
      case hiT9 => (simp only [List.getElem?_toArray, List.getElem?_cons_succ, List.getElem?_cons_zero]; rfl)
      case hQT9 => exact fun _ _ _ h => h
      case hwT9 => rfl
      case hyT9 => (intro wS hSw; obtain ⟨_, _⟩ := hSw; go_simp; (try with_reducible rfl))
      try simp only [Act.put, List.setIfInBounds_toArray, List.set_cons_zero, List.set_cons_succ]
      refine' wpAnyT_take (i := 10) (v := _) ?hiT10 (by kernel_rfl) ?hQT10 (Or.inl ⟨?hwT10, ?hyT10⟩) hS ?reT10
      case hiT10 => (simp only [List.getElem?_toArray, List.getElem?_cons_succ, List.getElem?_cons_zero]; rfl)
      case hQT10 => exact fun _ _ _ h => h
      case hwT10 => rfl
      case hyT10 => (intro wS hSw; obtain ⟨_, _⟩ := hSw; go_simp; (try with_reducible rfl))
      try simp only [Act.put, List.setIfInBounds_toArray, List.set_cons_zero, List.set_cons_succ]
      refine' wpAnyT_take (i := 11) (v := _) ?hiT11 (by kernel_rfl) ?hQT11 (Or.inl ⟨?hwT11, ?hyT11⟩) hS ?reT11
      case hiT11 => (simp only [List.getElem?_toArray, List.getElem?_cons_succ, List.getElem?_cons_zero]; rfl)
      case hQT11 => exact fun _ _ _ h => h
      case hwT11 => rfl
      case hyT11 => (intro wS hSw; obtain ⟨_, _⟩ := hSw; go_simp; (try with_reducible rfl))
      try simp only [Act.put, List.setIfInBounds_toArray, List.set_cons_zero, List.set_cons_succ]
      refine' wpAnyT_take (i := 12) (v := _) ?hiT12 (by kernel_rfl) ?hQT12 (Or.inl ⟨?hwT12, ?hyT12⟩) hS ?reT12
      case hiT12 => (simp only [List.getElem?_toArray, List.getElem?_cons_succ, List.getElem?_cons_zero]; rfl)
      case hQT12 => exact fun _ _ _ h => h
      case hwT12 => rfl
      case hyT12 => (intro wS hSw; obtain ⟨_, _⟩ := hSw; go_simp; (try with_reducible rfl))
      try simp only [Act.put, List.setIfInBounds_toArray, List.set_cons_zero, List.set_cons_succ]
      have fzd := kd.frozen
      refine wpAnyT_ready (rs := [13]) (by kernel_rfl) (by simp) ?_
      refine' AllReadyT.cons ?hi13 (fun K hK => ?st13) AllReadyT.nil
      case hi13 => (simp only [List.getElem?_toArray, List.getElem?_cons_succ, List.getElem?_cons_zero]; rfl)
      obtain ⟨⟨a0, a1⟩, b0, b1⟩ := hS
      go_simp
      refine hK.out _ _ (fun h => by cases h) (fun _ => ?_)
      clear hK K a0 a1 b0 b1 fzd
      have F2 : Far (fun k => k = g) w1 ((w1.setCell ⟨g, k * 2, none⟩ (.int .i64 ya)).setCell ⟨g, k * 2 + 1, none⟩ (.int .i64 yb)) := Far.setCell (T := fun k => k = g) (p := ⟨g, k * 2 + 1, none⟩) (Far.setCell (T := fun k => k = g) (p := ⟨g, k * 2, none⟩) (Far.refl _ _) (fun _ => rfl) _) (fun _ => rfl) _
      have k2 := (kd.set_ (k * 2) (.int .i64 ya)).set_ (k * 2 + 1) (.int .i64 yb)
      simp only at hset hset2
      generalize (w1.setCell ⟨g, k * 2, none⟩ (.int .i64 ya)).setCell ⟨g, k * 2 + 1, none⟩ (.int .i64 yb) = w2 at *
      try simp only [Act.put, List.setIfInBounds_toArray, List.set_cons_zero, List.set_cons_succ]
      refine wpAnyT_ready (rs := [14]) (by kernel_rfl) (by simp) ?_
      refine' AllReadyT.cons ?hi14 (fun K hK => ?st14) AllReadyT.nil
      case hi14 => (simp only [List.getElem?_toArray, List.getElem?_cons_succ, List.getElem?_cons_zero]; rfl)
      go_simp
      refine hK.out _ _ (fun h => by cases h) (fun _ => ?_)
      clear hK K
      try simp only [Act.put, List.setIfInBounds_toArray, List.set_cons_zero, List.set_cons_succ]
      have fz2 := k2.frozen
      obtain ⟨c0, c1⟩ := own_span hset (p := q) (by rw [List.length_set]; exact hlk) (by omega)
      refine wpAnyT_ready (rs := [15]) (by kernel_rfl) (by simp) ?_
      refine' AllReadyT.cons ?hi15 (fun K hK => ?st15) AllReadyT.nil
      case hi15 => (simp only [List.getElem?_toArray, List.getElem?_cons_succ, List.getElem?_cons_zero]; rfl)
      go_simp
      refine hK.out _ _ (fun h => by cases h) (fun _ => ?_)
      clear hK K c0 c1 fz2
      have F3 : Far (fun k => k = g) w2 ((w2.setCell ⟨g, q * 2, none⟩ (.int .i64 xa)).setCell ⟨g, q * 2 + 1, none⟩ (.int .i64 xb)) := Far.setCell (T := fun k => k = g) (p := ⟨g, q * 2 + 1, none⟩) (Far.setCell (T := fun k => k = g) (p := ⟨g, q * 2, none⟩) (Far.refl _ _) (fun _ => rfl) _) (fun _ => rfl) _
      generalize (w2.setCell ⟨g, q * 2, none⟩ (.int .i64 xa)).setCell ⟨g, q * 2 + 1, none⟩ (.int .i64 xb) = w3 at *
      refine wpAnyT_done (by kernel_rfl) ?_ _
      have F13 := hFd.trans (F2.trans F3)
      clear F2 F3 hFd k2 kd hset
      refine noPanic_normal ?_
      go_wp2_with fail
      go_roundw
      case rel => exact ⟨k + 1, _, by have := hjv'.out; omega, by go_num, rfl, by have := hjv'.out; omega, hset2, F13⟩
      case measure => simp [intOf]; omega
    · have hlt' : decide ((k : Int) < jv) = false := by simpa using hlt
      have hrv := revK_rev l k (by have := hl'.out; omega) (by have := hl'.out; omega)
      rw [hrv] at ro
      go_wp2_with fail
      go_end0
      exact ⟨rfl, ro, hF⟩
theorem revNil_any (A : Option Addr) (cap : Nat) (w : World) : Calls Tryz.prog 146 #[.slice A 0 cap] w fun e w' => e = .returned (.tuple #[]) ∧ w' = w := by
  go_enter Tryz.func146, Tryz.ntmps146
  go_wp2_with fail
  go_loopw [2, 3] (fun i j wr => i = .int .i64 0 ∧ j = .int .i64 (-1) ∧ wr = w) (fun _ _ _ => 0)
  case atStart => exact ⟨rfl, rfl, rfl⟩
  case round =>
    obtain ⟨rfl, rfl, hw⟩ := hrel
    have hw' := hw.symm
    clear hw
    subst hw'
    go_wp2_with fail
    go_end0
    exact ⟨rfl, rfl⟩
theorem revAny_any (v : Value) (n base : Nat) (l : List Sp) (w : World) (hl : l.length = n) (hn : n ≤ 1024) (ro : w.ownsRow base 115 2 v n (spCells l)) :
    Calls Tryz.prog 146 #[v] w fun e w' => e = .returned (.tuple #[]) ∧ w'.ownsRow base 115 2 v n (spCells l.reverse) ∧ Far (fun k => v.ownBlock = some k) w w' := by
  cases n with
  | zero =>
    obtain ⟨A, cap, rfl⟩ := own_slice ro
    obtain rfl : l = [] := List.eq_nil_of_length_eq_zero hl
    refine (revNil_any A cap w).mono ?_
    rintro e w' ⟨rfl, rfl⟩
    exact ⟨rfl, ro, Far.refl _ _⟩
  | succ m =>
    obtain ⟨g, cap, rfl⟩ := ownsRow_succ ro
    refine (rev_any g (m + 1) cap base l w hl hn ro).mono ?_
    rintro e w' ⟨rfl, h1, h2⟩
    exact ⟨rfl, h1, h2.mono (fun k _ h => by rw [h]; rfl)⟩
theorem RU.takenS {w : World} {B : Nat} {A : Option Addr} {us : List Sp} (h : RU w B A us) (m : Nat) : RU w B A (us.take m) := fun k hk => by
  have hk2 : k < m ∧ k < us.length := by rw [List.length_take] at hk; omega
  have e : (us.take m).getD k (0, 0) = us.getD k (0, 0) := by simp [List.getD_eq_getElem?_getD, hk2.1]
  rw [e]
  exact h k hk2.2
end Go.Proofs.YtpabnbhbcphfiaaGreat
namespace Go.Pol
open Go Go.RowKit
/-- the blocks after a move, and the spans that stay -/
def movBs (bs : List B3) (k : Nat) (q : Int) (r : Int × Bool × Bool × Vm) : List B3 := if r.2.1 = true then bs.set k (q, (bs.getD k b0).2) else bs
def movSt (st : List Sp) (p q n : Int) (r : Int × Bool × Bool × Vm) : List Sp := if r.2.2.1 = true then st ++ [(if r.2.1 = true then p else q, n)] else st
/-- a page that a block that is moved may not have -/
def badB (V : Vm) (p : Int) : Bool := (kindF V p == 0 || kindF V p == 3) || hugeF V p
def badM (V : Vm) (bs : List B3) (m : Int × Int) : Bool := (List.range (pw (bs.getD m.1.toNat b0).2.1).toNat).any fun i => badB V ((bs.getD m.1.toNat b0).1 + (i : Int))
def downB (V : Vm) (bs : List B3) (ms : List (Int × Int)) : Bool := ms.any (badM V bs)
/-- moves made one after the other: the blocks, what stays, the first error, the system -/
def moveM (V : Vm) (bs : List B3) (m : Int × Int) : Int × Bool × Bool × Vm := moveF V (bs.getD m.1.toNat b0).1 m.2 (pw (bs.getD m.1.toNat b0).2.1)
def doL : Vm → List B3 → List Sp → List (Int × Int) → List B3 × List Sp × Int × Vm
  | V, bs, st, [] => (bs, st, 0, V)
  | V, bs, st, m :: r => if (moveM V bs m).1 ≠ 0 then (movBs bs m.1.toNat m.2 (moveM V bs m), movSt st (bs.getD m.1.toNat b0).1 m.2 (pw (bs.getD m.1.toNat b0).2.1) (moveM V bs m), (moveM V bs m).1, (moveM V bs m).2.2.2)
    else doL (moveM V bs m).2.2.2 (movBs bs m.1.toNat m.2 (moveM V bs m)) (movSt st (bs.getD m.1.toNat b0).1 m.2 (pw (bs.getD m.1.toNat b0).2.1) (moveM V bs m)) r
def doF (V : Vm) (pages : Int) (bs : List B3) (ms : List (Int × Int)) : List B3 × List Sp × Int × Vm :=
  if (afterB pages bs ms).2 ≠ 0 then ([], [], (afterB pages bs ms).2, V) else if downB V bs ms = true then ([], [], 9, V) else doL V bs [] ms
/-- a move that meets no error has moved its block -/
theorem moveF_ok {V : Vm} {p q n : Int} (h : (moveF V p q n).1 = 0) : (moveF V p q n).2.1 = true := by
  unfold moveF at h ⊢
  split at h
  · rename_i h1; exact absurd h h1
  · rename_i h1
    rw [if_neg h1]
    simp only at h ⊢
    split at h
    · rename_i h2; exact absurd h h2
    · rename_i h2
      rw [if_neg h2]
theorem moveM_ok {V : Vm} {bs : List B3} {m : Int × Int} (h : (moveM V bs m).1 = 0) : movBs bs m.1.toNat m.2 (moveM V bs m) = movB bs m := by
  unfold movBs movB
  rw [if_pos (show (moveM V bs m).2.1 = true from moveF_ok h)]
theorem chk_ins {pages : Int} {bs : List B3} (h : chkB pages bs = 0) : pages ≤ 1024 ∧ bs.length ≤ 64 ∧ ∀ b ∈ bs, insB pages b.1 b.2.1 = true := by
  unfold chkB at h
  split at h
  · cases h
  · rename_i h1
    split at h
    · cases h
    · split at h
      · cases h
      · rename_i h2 h3
        rw [Bool.not_eq_false] at h1
        obtain ⟨o, ho, hp⟩ := spaceB_iff.1 h1
        refine ⟨by rw [hp]; exact pw_le (by omega), by omega, fun b hb => ?_⟩
        rw [Bool.not_eq_true, List.any_eq_false] at h3
        have := h3 b hb
        simpa using this
theorem ins_bounds {pages page o : Int} (hp : pages ≤ 1024) (h : insB pages page o = true) : (0 ≤ o ∧ o ≤ 10) ∧ 0 ≤ page ∧ page ≤ 1024 := by
  obtain ⟨h1, h2, _, h4⟩ := insB_iff.1 h
  have := pw_pos o
  exact ⟨h1, h2, by omega⟩
theorem poss_ins {pages : Int} {bs : List B3} {m : Int × Int} (h : possB pages bs m = 0) : (0 ≤ m.1 ∧ m.1 < bs.length) ∧ insB pages m.2 (bs.getD m.1.toNat b0).2.1 = true := by
  unfold possB at h
  split at h
  · cases h
  · rename_i h1
    split at h
    · cases h
    · split at h
      · cases h
      · rename_i h3
        rw [Bool.not_eq_false] at h3
        exact ⟨by omega, h3⟩
theorem after_cons {pages : Int} {bs : List B3} {m : Int × Int} {r : List (Int × Int)} (h : (afterL pages bs (m :: r)).2 = 0) : possB pages bs m = 0 ∧ (afterL pages (movB bs m) r).2 = 0 := by
  rw [afterL] at h
  split at h
  · rename_i h1; exact ⟨h1, h⟩
  · rename_i h1; exact absurd h h1
theorem after_all {pages : Int} : ∀ (ms : List (Int × Int)) (bs : List B3), (afterL pages bs ms).2 = 0 → ∀ m ∈ ms, 0 ≤ m.1 ∧ m.1 < bs.length
  | [], _, _, m, hm => by cases hm
  | x :: r, bs, h, m, hm => by
    obtain ⟨h1, h2⟩ := after_cons h
    rw [List.mem_cons] at hm
    rcases hm with rfl | hm
    · exact (poss_ins h1).1
    · have := after_all r _ h2 m hm
      unfold movB at this
      rwa [List.length_set] at this
theorem ins_mov {pages : Int} {bs : List B3} {m : Int × Int} (h : possB pages bs m = 0) (hall : ∀ b ∈ bs, insB pages b.1 b.2.1 = true) : ∀ b ∈ movB bs m, insB pages b.1 b.2.1 = true := by
  intro b hb
  unfold movB at hb
  rcases List.mem_or_eq_of_mem_set hb with hb | rfl
  · exact hall b hb
  · exact (poss_ins h).2
theorem after_of {pages : Int} {bs : List B3} {ms : List (Int × Int)} (h : (afterB pages bs ms).2 = 0) : chkB pages bs = 0 ∧ ms.length ≤ 256 ∧ (afterL pages bs ms).2 = 0 := by
  unfold afterB at h
  split at h
  · rename_i h1
    split at h
    · cases h
    · exact ⟨h1, by omega, h⟩
  · rename_i h1; exact absurd h h1
theorem downB_cons (V : Vm) (bs : List B3) (m : Int × Int) (r : List (Int × Int)) : downB V bs (m :: r) = (badM V bs m || downB V bs r) := by
  unfold downB
  rw [List.any_cons]
theorem doL_cons (V : Vm) (bs : List B3) (st : List Sp) (m : Int × Int) (r : List (Int × Int)) : doL V bs st (m :: r) = if (moveM V bs m).1 ≠ 0 then (movBs bs m.1.toNat m.2 (moveM V bs m), movSt st (bs.getD m.1.toNat b0).1 m.2 (pw (bs.getD m.1.toNat b0).2.1) (moveM V bs m), (moveM V bs m).1, (moveM V bs m).2.2.2)
    else doL (moveM V bs m).2.2.2 (movBs bs m.1.toNat m.2 (moveM V bs m)) (movSt st (bs.getD m.1.toNat b0).1 m.2 (pw (bs.getD m.1.toNat b0).2.1) (moveM V bs m)) r := rfl
end Go.Pol
