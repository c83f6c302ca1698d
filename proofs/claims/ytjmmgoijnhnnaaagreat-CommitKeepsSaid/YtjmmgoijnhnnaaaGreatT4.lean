/- Walks of layer 6: make, and the calls that make a change of pages of one kind. -/
import Derived.Sort.CutIn
import Derived.DeepKeys
import Derived.Great.BuildSlice
import Derived.Shelf.SlSortCmp.WholeK
import Derived.Ground.SlsfProg
import Derived.Shelf.Spec.SlicesGrow
import Derived.Ground.Names8Prog
import Derived.Test.YtjmmgoijnhnnaaaGreatProg
import Derived.Sort.OwnSortedInts
import Derived.Laws.AppendOwnNone
import Derived.Deep.MidRow
import Derived.Deep.CutRange
import Derived.OwnWalk
import Derived.Laws.CopyRow
import Derived.Lib.AppendZerosOnto
import Derived.Deep.DeepAppendWide
import Derived.Lib.Overlaps
import Derived.Shelf.RegionOpenPlain
import Derived.Laws.Externs
import Derived.Test.YtjmmgoijnhnnaaaGreatT3
namespace Go.Pol
open Go Go.RowKit
def makeF (V : Vm) (a n : Int) (call : Nat) (pr : Pg → Bool) (fd : Pg → Pg) : Int × Vm :=
 if n < 1 ∨ a < 0 ∨ 1024 ≤ a ∨ 1024 - a < n then (7, V) else if allP V a.toNat n.toNat pr = false then (9, V) else if refB V.rf call = true then (60, V.ref call) else (0, (V.ref call).eachP a.toNat n.toNat fd)
def SysTo (b : Nat) (V : Vm) (w w' : World) : Prop := SysIs w' b V ∧ Far (fun k => k = b) w w'
def bec (V : Vm) (a n : Int) (call : Nat) (fr tk : Int) : Int × Vm := makeF V a n call (fun g => g.kind == fr && !g.huge) (fun _ => newPg tk)
end Go.Pol
namespace Go.Proofs.YtjmmgoijnhnnaaaGreat
open Go Go.Proofs Go.RowKit Go.Pol Go.Shelf
attribute [local go_sem] Oper.semAt_some Go.Pol.wide_fn Go.Pol.wide_depth Go.Pol.wide_fn' Go.Pol.wide_depth'
set_option maxRecDepth 100000 in
set_option maxHeartbeats 1600000 in
theorem make_any (b call : Nat) (a n : Int) (pr : Pg → Bool) (fd : Pg → Pg) (g1 g2 : Nat) (lb1 lb2 : Array Value) (V : Vm) (w : World) (hV : SysIs w b V) (hc : call < 7)
  (e1 : ∀ args w, (callFunc g1 args).run Tryz.prog w = .ok (.enter g1 args) w) (e2 : ∀ args w, (callFunc g2 args).run Tryz.prog w = .ok (.enter g2 args) w)
  (hp1 : ∀ p, p < 1024 → ∀ V' W, SysIs W b V' → Far (fun k => k = b) w W → Calls Tryz.prog g1 (#[.pointer (some ⟨b, 1 + p * 66, none⟩)] ++ lb1) W fun e W' => e = .returned (.bool (pr (V'.pg p))) ∧ Below W.heap.size W W')
  (hp2 : ∀ p, p < 1024 → ∀ V' W, SysIs W b V' → Far (fun k => k = b) w W → Calls Tryz.prog g2 (#[.pointer (some ⟨b, 1 + p * 66, none⟩)] ++ lb2) W fun e W' => e = .returned (.tuple #[]) ∧ SysIs W' b (V'.setP p (fd (V'.pg p))) ∧ Far (fun k => k = b) W W') :
  Calls Tryz.prog 126 #[.pointer (some ⟨b, 0, none⟩), .int .i64 a, .int .i64 n, .agg #[.int .i64 call, .func (.func g1) #[] lb1, .func (.func g2) #[] lb2]] w fun e w' => e = .returned (.int .i64 (makeF V a n call pr fd).1) ∧ SysTo b (makeF V a n call pr fd).2 w w' := by
 have hb0 := (Below.refl w.heap.size w).alloc (Nat.le_refl _) (.cells #[.int .i64 call, .func (.func g1) #[] lb1, .func (.func g2) #[] lb2] 215)
 have k0 := Blk.new w 215 #[.int .i64 call, .func (.func g1) #[] lb1, .func (.func g2) #[] lb2]
 have V0 := hV.call hb0
 have F0 : Far (fun k => k = b) w (w.alloc (.cells #[.int .i64 call, .func (.func g1) #[] lb1, .func (.func g2) #[] lb2] 215)) := .of_below hb0
 have hbs := hV.lt
 have HI := Lib.hid (fun W h => is_any b V W h)
 have HA := Lib.hid (fun (aa nn : Nat) (h : aa + nn ≤ 1024) W (hW : SysIs W b V) (hF : Far (fun k => k = b) w W) => all_any b aa nn pr g1 lb1 V W h e1 (fun p hp W' hb => hp1 p hp V W' (hW.call hb) (hF.trans (.of_below hb))))
 have HR := Lib.hid (fun W h => sysRefused_any b call V W h hc)
 have HE := Lib.hid (fun (aa nn : Nat) (h : aa + nn ≤ 1024) V' W (hW : SysIs W b V') (hF : Far (fun k => k = b) w W) => each_any b aa nn fd g2 lb2 V' W hW h e2 (fun p hp V2 W' h2 hF2 => hp2 p hp V2 W' h2 (hF.trans hF2)))
 obtain ⟨R, hR⟩ : ∃ R, makeF V a n call pr fd = R := ⟨_, rfl⟩
 rw [hR]
 unfold makeF at hR
 obtain ⟨re, rV⟩ := R
 obtain ⟨s, hs⟩ : ∃ s, w.heap.size = s := ⟨_, rfl⟩
 rw [hs] at k0 hbs
 have hs' := Lib.hid hs
 simp only
 unfold SysTo
 clear hp1 hp2 hb0 hV e1 e2
 by_cases c1 : n < 1
 ·have d1 : decide (n < 1) = true := by simpa using c1
  rw [if_pos (by omega)] at hR
  simp only [Prod.mk.injEq] at hR
  obtain ⟨rfl, rfl⟩ := hR
  have c0 := k0.cell
  clear hs
  go_enter Tryz.func126, Tryz.ntmps126
  go_upto_region 1 with fail
  generalize w.alloc _ = w0 at *
  simp only [hs'.out]
  go_wp2_with fail
  refine (HI.out _ V0).mono ?_
  rintro e9 w9 ⟨rfl, hw9⟩
  replace hw9 := hw9.symm
  subst hw9
  go_wp2_with fail
  go_ret
  exact ⟨rfl, V0, F0⟩
 have d1 : decide (n < 1) = false := by simpa using c1
 by_cases c2 : a < 0
 ·have d2 : decide (a < 0) = true := by simpa using c2
  rw [if_pos (by omega)] at hR
  simp only [Prod.mk.injEq] at hR
  obtain ⟨rfl, rfl⟩ := hR
  have c0 := k0.cell
  clear hs
  go_enter Tryz.func126, Tryz.ntmps126
  go_upto_region 1 with fail
  generalize w.alloc _ = w0 at *
  simp only [hs'.out]
  go_wp2_with fail
  refine (HI.out _ V0).mono ?_
  rintro e9 w9 ⟨rfl, hw9⟩
  replace hw9 := hw9.symm
  subst hw9
  go_wp2_with fail
  go_ret
  exact ⟨rfl, V0, F0⟩
 have d2 : decide (a < 0) = false := by simpa using c2
 by_cases c3 : 1024 ≤ a
 ·have d3 : decide (1024 ≤ a) = true := by simpa using c3
  rw [if_pos (by omega)] at hR
  simp only [Prod.mk.injEq] at hR
  obtain ⟨rfl, rfl⟩ := hR
  have c0 := k0.cell
  clear hs
  go_enter Tryz.func126, Tryz.ntmps126
  go_upto_region 1 with fail
  generalize w.alloc _ = w0 at *
  simp only [hs'.out]
  go_wp2_with fail
  refine (HI.out _ V0).mono ?_
  rintro e9 w9 ⟨rfl, hw9⟩
  replace hw9 := hw9.symm
  subst hw9
  go_wp2_with fail
  go_ret
  exact ⟨rfl, V0, F0⟩
 have d3 : decide (1024 ≤ a) = false := by simpa using c3
 have hw : IntKind.i64.wrap (1024 - a) = 1024 - a := by rw [IntKind.wrap_i64]; omega
 by_cases c4 : 1024 - a < n
 ·have d4 : decide (1024 - a < n) = true := by simpa using c4
  rw [if_pos (by omega)] at hR
  simp only [Prod.mk.injEq] at hR
  obtain ⟨rfl, rfl⟩ := hR
  have c0 := k0.cell
  clear hs
  go_enter Tryz.func126, Tryz.ntmps126
  go_upto_region 1 with fail
  generalize w.alloc _ = w0 at *
  simp only [hs'.out]
  go_wp2_with fail
  refine (HI.out _ V0).mono ?_
  rintro e9 w9 ⟨rfl, hw9⟩
  replace hw9 := hw9.symm
  subst hw9
  go_wp2_with fail
  go_ret
  exact ⟨rfl, V0, F0⟩
 have d4 : decide (1024 - a < n) = false := by simpa using c4
 rw [if_neg (by omega)] at hR
 obtain ⟨aa, rfl⟩ : ∃ aa : Nat, a = (aa : Int) := ⟨a.toNat, by omega⟩
 obtain ⟨nn, rfl⟩ : ∃ nn : Nat, n = (nn : Int) := ⟨n.toNat, by omega⟩
 simp only [Int.toNat_natCast] at hR
 have hsum : aa + nn ≤ 1024 := by omega
 have HA' := Lib.hid (HA.out aa nn hsum)
 have HE' := Lib.hid (HE.out aa nn hsum)
 generalize allP V aa nn pr = al at *
 cases al with
 | false =>
  rw [if_pos rfl] at hR
  simp only [Prod.mk.injEq] at hR
  obtain ⟨rfl, rfl⟩ := hR
  have c0 := k0.cell
  clear hs
  go_enter Tryz.func126, Tryz.ntmps126
  go_upto_region 1 with fail
  generalize w.alloc _ = w0 at *
  simp only [hs'.out]
  go_wp2_with fail
  refine (HI.out _ V0).mono ?_
  rintro e9 w9 ⟨rfl, hw9⟩
  replace hw9 := hw9.symm
  subst hw9
  go_wp2_with fail
  refine (HA'.out _ V0 F0).mono ?_
  rintro e w1 ⟨rfl, hb1⟩
  have V1 := V0.call hb1
  have F1 : Far (fun k => k = b) w w1 := F0.trans (.of_below hb1)
  go_wp2_with fail
  go_ret
  exact ⟨rfl, V1, F1⟩
 | true =>
  rw [if_neg (by simp)] at hR
  generalize refB V.rf call = rb at *
  cases rb with
  | true =>
   rw [if_pos rfl] at hR
   simp only [Prod.mk.injEq] at hR
   obtain ⟨rfl, rfl⟩ := hR
   generalize V.ref call = V2 at *
   have c0 := k0.cell
   clear hs
   go_enter Tryz.func126, Tryz.ntmps126
   go_upto_region 1 with fail
   generalize w.alloc _ = w0 at *
   simp only [hs'.out]
   go_wp2_with fail
   refine (HI.out _ V0).mono ?_
   rintro e9 w9 ⟨rfl, hw9⟩
   replace hw9 := hw9.symm
   subst hw9
   go_wp2_with fail
   refine (HA'.out _ V0 F0).mono ?_
   rintro e w1 ⟨rfl, hb1⟩
   have k1 := k0.call hb1
   have c1 := k1.cell
   have V1 := V0.call hb1
   have F1 : Far (fun k => k = b) w w1 := F0.trans (.of_below hb1)
   clear c0
   go_wp2_with fail
   refine (HR.out _ V1).mono ?_
   rintro e w2 ⟨rfl, V2', F2⟩
   go_wp2_with fail
   go_ret
   exact ⟨rfl, V2', F1.trans F2⟩
  | false =>
   rw [if_neg (by simp)] at hR
   simp only [Prod.mk.injEq] at hR
   obtain ⟨rfl, rfl⟩ := hR
   generalize V.ref call = V2 at *
   have c0 := k0.cell
   clear hs
   go_enter Tryz.func126, Tryz.ntmps126
   go_upto_region 1 with fail
   generalize w.alloc _ = w0 at *
   simp only [hs'.out]
   go_wp2_with fail
   refine (HI.out _ V0).mono ?_
   rintro e9 w9 ⟨rfl, hw9⟩
   replace hw9 := hw9.symm
   subst hw9
   go_wp2_with fail
   refine (HA'.out _ V0 F0).mono ?_
   rintro e w1 ⟨rfl, hb1⟩
   have k1 := k0.call hb1
   have c1 := k1.cell
   have V1 := V0.call hb1
   have F1 : Far (fun k => k = b) w w1 := F0.trans (.of_below hb1)
   clear c0
   go_wp2_with fail
   refine (HR.out _ V1).mono ?_
   rintro e w2 ⟨rfl, V2', F2⟩
   have k2 := F2.blk k1 (by omega)
   have c2 := k2.cell
   clear c1
   go_wp2_with fail
   refine (HE'.out _ _ V2' (F1.trans F2)).mono ?_
   rintro e w3 ⟨rfl, V3, F3⟩
   go_wp2_with fail
   go_ret
   exact ⟨rfl, V3, (F1.trans F2).trans F3⟩
theorem makeBec_any (b call : Nat) (a n fr tk : Int) (s : Nat) (V : Vm) (w : World) (hV : SysIs w b V) (hc : call < 7) (h1 : Blk w s 3 #[.int .i64 fr]) (h2 : Blk w (s + 1) 3 #[.int .i64 tk]) (hb : s ≠ b ∧ s + 1 ≠ b) :
  Calls Tryz.prog 126 #[.pointer (some ⟨b, 0, none⟩), .int .i64 a, .int .i64 n, .agg #[.int .i64 call, .func (.func 182) #[] #[.pointer (some ⟨s, 0, none⟩)], .func (.func 183) #[] #[.pointer (some ⟨s + 1, 0, none⟩)]]] w fun e w' =>
   e = .returned (.int .i64 (bec V a n call fr tk).1) ∧ SysTo b (bec V a n call fr tk).2 w w' :=
 make_any b call a n (fun g => g.kind == fr && !g.huge) (fun _ => newPg tk) _ _ _ _ V w hV hc may_enters do_enters
  (fun p hp V' W hW hF => may_any fr b p s V' W hW hp (hF.blk h1 hb.1))
  (fun p hp V' W hW hF => do_any tk b p (s + 1) V' W hW hp (hF.blk h2 hb.2))
theorem reserve_any (b : Nat) (a n : Int) (V : Vm) (w : World) (hV : SysIs w b V) :
  Calls Tryz.prog 73 #[.pointer (some ⟨b, 0, none⟩), .int .i64 a, .int .i64 n] w fun e w' => e = .returned (.int .i64 (bec V a n 0 0 1).1) ∧ SysTo b (bec V a n 0 0 1).2 w w' := by
 have HB := Lib.hid (becomes_any 0 0 1 w)
 have HM := Lib.hid (fun W s hW h1 h2 hb => makeBec_any b 0 a n 0 1 s V W hW (by omega) h1 h2 hb)
 have hbs := hV.lt
 have hV' := Lib.hid hV
 obtain ⟨re, hre⟩ : ∃ re, (bec V a n 0 0 1).1 = re := ⟨_, rfl⟩
 obtain ⟨rV, hrV⟩ : ∃ rV, (bec V a n 0 0 1).2 = rV := ⟨_, rfl⟩
 simp only [hre, hrV] at HM ⊢
 unfold SysTo at HM ⊢
 clear hre hrV hV
 go_enter Tryz.func73, Tryz.ntmps73
 go_wp2_with fail
 refine HB.out.mono ?_
 rintro e9 w1 ⟨rfl, k1, k2, hb1⟩
 have V1 := hV'.out.call hb1
 have HM1 := Lib.hid (HM.out w1 _ V1 k1 k2 (by omega))
 clear HM HB k1 k2
 go_wp2_with fail
 refine HM1.out.mono ?_
 rintro e8 w2 ⟨rfl, V2, F2⟩
 go_wp2_with fail
 go_ret
 exact ⟨rfl, V2, (Far.of_below hb1).trans F2⟩
theorem commit_any (b : Nat) (a n : Int) (V : Vm) (w : World) (hV : SysIs w b V) :
  Calls Tryz.prog 59 #[.pointer (some ⟨b, 0, none⟩), .int .i64 a, .int .i64 n] w fun e w' => e = .returned (.int .i64 (bec V a n 2 1 2).1) ∧ SysTo b (bec V a n 2 1 2).2 w w' := by
 have HB := Lib.hid (becomes_any 2 1 2 w)
 have HM := Lib.hid (fun W s hW h1 h2 hb => makeBec_any b 2 a n 1 2 s V W hW (by omega) h1 h2 hb)
 have hbs := hV.lt
 have hV' := Lib.hid hV
 obtain ⟨re, hre⟩ : ∃ re, (bec V a n 2 1 2).1 = re := ⟨_, rfl⟩
 obtain ⟨rV, hrV⟩ : ∃ rV, (bec V a n 2 1 2).2 = rV := ⟨_, rfl⟩
 simp only [hre, hrV] at HM ⊢
 unfold SysTo at HM ⊢
 clear hre hrV hV
 go_enter Tryz.func59, Tryz.ntmps59
 go_wp2_with fail
 refine HB.out.mono ?_
 rintro e9 w1 ⟨rfl, k1, k2, hb1⟩
 have V1 := hV'.out.call hb1
 have HM1 := Lib.hid (HM.out w1 _ V1 k1 k2 (by omega))
 clear HM HB k1 k2
 go_wp2_with fail
 refine HM1.out.mono ?_
 rintro e8 w2 ⟨rfl, V2, F2⟩
 go_wp2_with fail
 go_ret
 exact ⟨rfl, V2, (Far.of_below hb1).trans F2⟩
theorem guard_any (b : Nat) (a n : Int) (V : Vm) (w : World) (hV : SysIs w b V) :
  Calls Tryz.prog 68 #[.pointer (some ⟨b, 0, none⟩), .int .i64 a, .int .i64 n, .bool true] w fun e w' => e = .returned (.int .i64 (bec V a n 4 1 3).1) ∧ SysTo b (bec V a n 4 1 3).2 w w' := by
 have HB := Lib.hid (becomes_any 4 1 3 w)
 have HM := Lib.hid (fun W s hW h1 h2 hb => makeBec_any b 4 a n 1 3 s V W hW (by omega) h1 h2 hb)
 have hbs := hV.lt
 have hV' := Lib.hid hV
 obtain ⟨re, hre⟩ : ∃ re, (bec V a n 4 1 3).1 = re := ⟨_, rfl⟩
 obtain ⟨rV, hrV⟩ : ∃ rV, (bec V a n 4 1 3).2 = rV := ⟨_, rfl⟩
 simp only [hre, hrV] at HM ⊢
 unfold SysTo at HM ⊢
 clear hre hrV hV
 go_enter Tryz.func68, Tryz.ntmps68
 go_wp2_with fail
 refine HB.out.mono ?_
 rintro e9 w1 ⟨rfl, k1, k2, hb1⟩
 have V1 := hV'.out.call hb1
 have HM1 := Lib.hid (HM.out w1 _ V1 k1 k2 (by omega))
 clear HM HB k1 k2
 go_wp2_with fail
 refine HM1.out.mono ?_
 rintro e8 w2 ⟨rfl, V2, F2⟩
 go_wp2_with fail
 go_ret
 exact ⟨rfl, V2, (Far.of_below hb1).trans F2⟩
theorem unguard_any (b : Nat) (a n : Int) (V : Vm) (w : World) (hV : SysIs w b V) :
  Calls Tryz.prog 68 #[.pointer (some ⟨b, 0, none⟩), .int .i64 a, .int .i64 n, .bool false] w fun e w' => e = .returned (.int .i64 (bec V a n 4 3 1).1) ∧ SysTo b (bec V a n 4 3 1).2 w w' := by
 have HB := Lib.hid (becomes_any 4 3 1 w)
 have HM := Lib.hid (fun W s hW h1 h2 hb => makeBec_any b 4 a n 3 1 s V W hW (by omega) h1 h2 hb)
 have hbs := hV.lt
 have hV' := Lib.hid hV
 obtain ⟨re, hre⟩ : ∃ re, (bec V a n 4 3 1).1 = re := ⟨_, rfl⟩
 obtain ⟨rV, hrV⟩ : ∃ rV, (bec V a n 4 3 1).2 = rV := ⟨_, rfl⟩
 simp only [hre, hrV] at HM ⊢
 unfold SysTo at HM ⊢
 clear hre hrV hV
 go_enter Tryz.func68, Tryz.ntmps68
 go_wp2_with fail
 refine HB.out.mono ?_
 rintro e9 w1 ⟨rfl, k1, k2, hb1⟩
 have V1 := hV'.out.call hb1
 have HM1 := Lib.hid (HM.out w1 _ V1 k1 k2 (by omega))
 clear HM HB k1 k2
 go_wp2_with fail
 refine HM1.out.mono ?_
 rintro e8 w2 ⟨rfl, V2, F2⟩
 go_wp2_with fail
 go_ret
 exact ⟨rfl, V2, (Far.of_below hb1).trans F2⟩
theorem vkind_any (b : Nat) (p : Int) (V : Vm) (w : World) (hV : SysIs w b V) :
  Calls Tryz.prog 72 #[.pointer (some ⟨b, 0, none⟩), .int .i64 p] w fun e w' =>
   e = .returned (.tuple #[.int .i64 (if 0 ≤ p ∧ p < 1024 then (V.pg p.toNat).kind else 0), .bool (if 0 ≤ p ∧ p < 1024 then (V.pg p.toNat).huge else false), .int .i64 (if 0 ≤ p ∧ p < 1024 then 0 else 7)]) ∧ Below w.heap.size w w' := by
 have HI := Lib.hid (is_any b V w hV)
 by_cases c1 : p < 0
 ·have d1 : decide (p < 0) = true := by simpa using c1
  have hn : ¬ (0 ≤ p ∧ p < 1024) := by omega
  rw [if_neg hn, if_neg hn, if_neg hn]
  clear hn
  go_enter Tryz.func72, Tryz.ntmps72
  go_wp2_with fail
  refine HI.out.mono ?_
  rintro e9 w9 ⟨rfl, hw9⟩
  replace hw9 := hw9.symm
  subst hw9
  go_wp2_with fail
  (try simp only [Exit.inBlock, Exit.then]); refine bodyPost_ret (results_tmp3 rfl _ _ _) rfl ?_
  exact ⟨rfl, Below.refl _ _⟩
 have d1 : decide (p < 0) = false := by simpa using c1
 by_cases c2 : 1024 ≤ p
 ·have d2 : decide (1024 ≤ p) = true := by simpa using c2
  have hn : ¬ (0 ≤ p ∧ p < 1024) := by omega
  rw [if_neg hn, if_neg hn, if_neg hn]
  clear hn
  go_enter Tryz.func72, Tryz.ntmps72
  go_wp2_with fail
  refine HI.out.mono ?_
  rintro e9 w9 ⟨rfl, hw9⟩
  replace hw9 := hw9.symm
  subst hw9
  go_wp2_with fail
  (try simp only [Exit.inBlock, Exit.then]); refine bodyPost_ret (results_tmp3 rfl _ _ _) rfl ?_
  exact ⟨rfl, Below.refl _ _⟩
 have d2 : decide (1024 ≤ p) = false := by simpa using c2
 have hn : 0 ≤ p ∧ p < 1024 := by omega
 rw [if_pos hn, if_pos hn, if_pos hn]
 clear hn
 obtain ⟨q, rfl⟩ : ∃ q : Nat, p = (q : Int) := ⟨p.toNat, by omega⟩
 simp only [Int.toNat_natCast]
 have hq : q < 1024 := by omega
 have hq2 : (q : Int) < 1024 := by omega
 obtain ⟨cs, A, n, cap, hk, hc, _⟩ := hV.ex
 have c0 := (hk.cell (1 + q * 66)).trans (hc.kind hq)
 have c1 := (hk.cell (1 + q * 66 + 1)).trans (hc.hug hq)
 generalize (V.pg q).kind = kd at *
 generalize (V.pg q).huge = hg at *
 have z0 := fun z : Ext w => z.cell c0
 have z1 := fun z : Ext w => z.cell c1
 clear c0 c1 hk hc
 go_enter Tryz.func72, Tryz.ntmps72
 go_wp2_with fail
 refine HI.out.mono ?_
 rintro e9 w9 ⟨rfl, hw9⟩
 replace hw9 := hw9.symm
 subst hw9
 go_upto_region 5 with fail
 refine region_ext (by kernel_rfl) (by kernel_rfl) ?_
 repeat (go_big_quiet_step (fail))
 refine wpQuiet_nil ?_
 rintro w1 ⟨⟨_, hw1⟩, rfl⟩
 go_wp2_with fail
 (try simp only [Exit.inBlock, Exit.then]); refine bodyPost_ret (results_tmp3 rfl _ _ _) rfl ?_
 exact ⟨rfl, hw1⟩
end Go.Proofs.YtjmmgoijnhnnaaaGreat
namespace Go.Pol
open Go Go.RowKit
def st0 : Nat → List Value → Option (List Value)
 | 0, l => some l
 | n + 1, .int .u8 z :: r => if z = 0 then st0 n r else none
 | _ + 1, _ => none
def st1 : List Value → Option (List Value)
 | .int .i64 k :: .bool false :: r => if k = 0 then st0 64 r else none
 | _ => none
def stP : Nat → List Value → Option (List Value)
 | 0, l => st1 l
 | d + 1, l => match stP d l with
  | some r => stP d r
  | none => none
theorem st0_spec : ∀ (n : Nat) (l r : List Value), st0 n l = some r → l = List.replicate n (.int .u8 0) ++ r
 | 0, l, r, h => by cases h; rfl
 | n + 1, l, r, h => by
  unfold st0 at h
  split at h
  ·omega
  ·rename_i m z r' e
   obtain rfl : m = n := by omega
   by_cases hz : z = 0
   ·rw [if_pos hz] at h
    rw [hz, st0_spec m r' r h, List.replicate_succ]; rfl
   ·rw [if_neg hz] at h; cases h
  ·cases h
theorem st1_spec {l r : List Value} (h : st1 l = some r) : l = pgC (newPg 0) ++ r := by
 unfold st1 at h
 split at h
 ·rename_i k r'
  by_cases hk : k = 0
  ·rw [if_pos hk] at h
   rw [hk, st0_spec 64 r' r h]
   rfl
  ·rw [if_neg hk] at h; cases h
 ·cases h
theorem stP_spec : ∀ (d : Nat) (l r : List Value), stP d l = some r → l = fl pgC (List.replicate (2 ^ d) (newPg 0)) ++ r
 | 0, l, r, h => by
  rw [stP] at h
  rw [st1_spec h]
  simp [fl]
 | d + 1, l, r, h => by
  rw [stP] at h
  split at h
  ·rename_i r' h'
   have h1 := stP_spec d l r' h'
   have h2 := stP_spec d r' r h
   rw [h1, h2, ← List.append_assoc, ← fl_append, List.replicate_append_replicate, show 2 ^ d + 2 ^ d = 2 ^ (d + 1) by rw [Nat.pow_succ]; omega]
  ·cases h
def stS : List Value → Option (List Value)
 | .bool false :: r => stP 10 r
 | _ => none
def newVm : Vm := ⟨fun _ => newPg 0, ⟨[], fun _ => 0, fun _ => 0⟩⟩
theorem newSys {zc : Array Value} (h : stS zc.toList = some (rfC (.slice none 0 0) (fun _ => 0) (fun _ => 0))) (v : Value) : SysC (putA (putA zc 0 [.bool true]) 67585 (rfC v (fun _ => 0) (fun _ => 0))) v newVm := by
 unfold stS at h
 split at h
 ·rename_i r hr
  have h1 := stP_spec 10 r _ h
  have hl := fl_len pgC_len (List.replicate (2 ^ 10) (newPg 0))
  rw [List.length_replicate] at hl
  have hlen : zc.size = 67600 := by
   rw [← Array.length_toList, hr, h1, List.length_cons, List.length_append, hl]; rfl
  have hpg : ∀ p, p < 1024 → ∀ i, i < 66 → zc[1 + p * 66 + i]? = (pgC (newPg 0))[i]? := fun p hp i hi => by
   rw [← Array.getElem?_toList, hr, h1, show 1 + p * 66 + i = (p * 66 + i) + 1 by omega, List.getElem?_cons_succ, List.getElem?_append_left (by rw [hl]; omega), fl_at pgC_len (newPg 0) _ p (by rw [List.length_replicate]; omega) i hi]
   congr 2
   rw [List.getD_eq_getElem?_getD, List.getElem?_replicate, if_pos (by omega)]; rfl
  generalize hL : rfC v (fun _ => 0) (fun _ => 0) = L at *
  have hLl : L.length = 15 := by rw [← hL]; rfl
  have hs1 : (putA zc 0 [.bool true]).size = 67600 := by rw [putA_size]; exact hlen
  have hg := putA_get L (putA zc 0 [.bool true]) 67585 (by rw [hLl]; omega)
  have hg0 := putA_get [.bool true] zc 0 (by simp; omega)
  refine ⟨by rw [putA_size]; exact hs1, ?_, fun p hp i hi => ?_, fun i hi => ?_⟩
  ·rw [hg, if_neg (by omega), hg0, if_pos (by simp)]; rfl
  ·rw [hg, if_neg (by omega), hg0, if_neg (by simp only [List.length_cons, List.length_nil]; omega)]
   exact hpg p hp i hi
  ·rw [hg, if_pos (by omega), show 67585 + i - 67585 = i by omega, ← hL]; rfl
 ·cases h
end Go.Pol
namespace Go.Proofs.YtjmmgoijnhnnaaaGreat
open Go Go.Proofs Go.RowKit Go.Pol
set_option maxRecDepth 100000 in
theorem zeroSys : stS Tryz.zeroCells71.toList = some (rfC (.slice none 0 0) (fun _ => 0) (fun _ => 0)) := by kernel_rfl
end Go.Proofs.YtjmmgoijnhnnaaaGreat
namespace Go.Pol
open Go Go.RowKit
def NewO (w : World) (e : Ending) (w' : World) : Prop := ∃ b, e = .returned (.tuple #[.pointer (some ⟨b, 0, none⟩), .int .i64 0]) ∧ SysIs w' b newVm ∧ w.heap.size ≤ b ∧ Below w.heap.size w w'
end Go.Pol
namespace Go.Proofs.YtjmmgoijnhnnaaaGreat
open Go Go.Proofs Go.RowKit Go.Pol Go.Shelf
attribute [local go_sem] Oper.semAt_some Go.Pol.wide_fn Go.Pol.wide_depth Go.Pol.wide_fn' Go.Pol.wide_depth'
set_option maxRecDepth 100000 in
set_option maxHeartbeats 1600000 in
theorem new_any (w : World) :
  Calls Tryz.prog 17 #[.agg #[.slice none 0 0]] w (NewO w) := by
 have hb0 := (Below.refl w.heap.size w).alloc (Nat.le_refl _) (.cells #[.slice none 0 0] 28)
 have k0 := Blk.new w 28 #[.slice none 0 0]
 have c0 := k0.cell
 have HS := Lib.hid (fun W => start_any none 0 0 [] W rfl (by omega) (fun _ => rfl) (fun k hk => absurd hk (by simp [fl])))
 go_enter Tryz.func17, Tryz.ntmps17
 go_wp2_with fail
 refine (HS.out _).mono ?_
 rintro e w1 hS
 rcases hS with ⟨h0, _⟩ | ⟨_, v, rfl, hv⟩
 ·exact absurd (by decide) h0
 obtain ⟨A, cap, rfl, v1, v2, v3, v4, v5, hb1⟩ := hv
 simp only [List.length_nil]
 have B1 := hb0.trans (hb1.mono hb0.size)
 have hB2 := B1.alloc B1.size (.cells (rfC (.slice A 0 cap) (fun _ => 0) (fun _ => 0)).toArray 69)
 have hzs := Tryz.zeroCells71_size
 have hzz := zeroSys
 obtain ⟨zc, hzc⟩ : ∃ zc, Tryz.zeroCells71 = zc := ⟨_, rfl⟩
 rw [hzc] at hzs hzz
 have hne : ¬ zc = #[] := fun e => by rw [e] at hzs; simp at hzs
 have hC := Lib.hid (newSys hzz (.slice A 0 cap))
 have kz := Blk.new w1 69 (rfC (.slice A 0 cap) (fun _ => 0) (fun _ => 0)).toArray
 clear hzz c0 k0 v1 HS
 unfold rfC at hB2 kz
 unfold rfV rfC
 go_upto_region 4 with fail
 generalize w1.alloc _ = w2 at *
 have cz := kz.cell
 have hB3 := hB2.alloc hB2.size (.cells (putA (putA zc 0 [.bool true]) 67585 (rfC (.slice A 0 cap) (fun _ => 0) (fun _ => 0))) 71)
 have kS := Blk.new w2 71 (putA (putA zc 0 [.bool true]) 67585 (rfC (.slice A 0 cap) (fun _ => 0) (fun _ => 0)))
 have hbs := hB2.size
 go_wp2_with fail
 go_ret2
 refine ⟨w2.heap.size, rfl, ?_, hbs, hB3⟩
 refine ⟨_, A, 0, cap, kS, hC.out, rfl, fun k hk => absurd hk (by simp [fl, newVm]), v5.1, fun g o e h => absurd rfl h, ⟨by decide, fun k _ => ⟨Int.le_refl _, (by show (0 : Int) ≤ 1000000; decide)⟩, fun k _ => rfl⟩, fun g o e h => absurd rfl h⟩
end Go.Proofs.YtjmmgoijnhnnaaaGreat
namespace Go.Pol
open Go Go.RowKit
def newRf (l : List Ru) : Rf := ⟨l, fun _ => 0, fun _ => 0⟩
def planF (V : Vm) (l : List Ru) : Vm := if (chkR l).2 = 0 then { V with rf := newRf l } else V
def KindOk (V : Vm) : Prop := ∀ p, p < 1024 → 0 ≤ (V.pg p).kind ∧ (V.pg p).kind ≤ 3
def fstB (p : Int) : Bool := decide (0 ≤ p) && decide (p < 1024) && decide (p % 16 = 0)
end Go.Pol
namespace Go.Proofs.YtjmmgoijnhnnaaaGreat
open Go Go.Proofs Go.RowKit Go.Pol Go.Shelf
attribute [local go_sem] Oper.semAt_some Go.Pol.wide_fn Go.Pol.wide_depth Go.Pol.wide_fn' Go.Pol.wide_depth'
theorem release_any (b : Nat) (a n : Int) (V : Vm) (w : World) (hV : SysIs w b V) :
  Calls Tryz.prog 69 #[.pointer (some ⟨b, 0, none⟩), .int .i64 a, .int .i64 n] w fun e w' => e = .returned (.int .i64 (bec V a n 1 1 0).1) ∧ SysTo b (bec V a n 1 1 0).2 w w' := by
 have HB := Lib.hid (becomes_any 1 1 0 w)
 have HM := Lib.hid (fun W s hW h1 h2 hb => makeBec_any b 1 a n 1 0 s V W hW (by omega) h1 h2 hb)
 have hbs := hV.lt
 have hV' := Lib.hid hV
 obtain ⟨re, hre⟩ : ∃ re, (bec V a n 1 1 0).1 = re := ⟨_, rfl⟩
 obtain ⟨rV, hrV⟩ : ∃ rV, (bec V a n 1 1 0).2 = rV := ⟨_, rfl⟩
 simp only [hre, hrV] at HM ⊢
 unfold SysTo at HM ⊢
 clear hre hrV hV
 go_enter Tryz.func69, Tryz.ntmps69
 go_wp2_with fail
 refine HB.out.mono ?_
 rintro e9 w1 ⟨rfl, k1, k2, hb1⟩
 have V1 := hV'.out.call hb1
 have HM1 := Lib.hid (HM.out w1 _ V1 k1 k2 (by omega))
 clear HM HB k1 k2
 go_wp2_with fail
 refine HM1.out.mono ?_
 rintro e8 w2 ⟨rfl, V2, F2⟩
 go_wp2_with fail
 go_ret
 exact ⟨rfl, V2, (Far.of_below hb1).trans F2⟩
theorem decommit_any (b : Nat) (a n : Int) (V : Vm) (w : World) (hV : SysIs w b V) :
  Calls Tryz.prog 61 #[.pointer (some ⟨b, 0, none⟩), .int .i64 a, .int .i64 n] w fun e w' => e = .returned (.int .i64 (bec V a n 3 2 1).1) ∧ SysTo b (bec V a n 3 2 1).2 w w' := by
 have HB := Lib.hid (becomes_any 3 2 1 w)
 have HM := Lib.hid (fun W s hW h1 h2 hb => makeBec_any b 3 a n 2 1 s V W hW (by omega) h1 h2 hb)
 have hbs := hV.lt
 have hV' := Lib.hid hV
 obtain ⟨re, hre⟩ : ∃ re, (bec V a n 3 2 1).1 = re := ⟨_, rfl⟩
 obtain ⟨rV, hrV⟩ : ∃ rV, (bec V a n 3 2 1).2 = rV := ⟨_, rfl⟩
 simp only [hre, hrV] at HM ⊢
 unfold SysTo at HM ⊢
 clear hre hrV hV
 go_enter Tryz.func61, Tryz.ntmps61
 go_wp2_with fail
 refine HB.out.mono ?_
 rintro e9 w1 ⟨rfl, k1, k2, hb1⟩
 have V1 := hV'.out.call hb1
 have HM1 := Lib.hid (HM.out w1 _ V1 k1 k2 (by omega))
 clear HM HB k1 k2
 go_wp2_with fail
 refine HM1.out.mono ?_
 rintro e8 w2 ⟨rfl, V2, F2⟩
 go_wp2_with fail
 go_ret
 exact ⟨rfl, V2, (Far.of_below hb1).trans F2⟩
theorem vfirst_any (p : Int) (w : World) : Calls Tryz.prog 80 #[.int .i64 p] w fun e w' => e = .returned (.bool (fstB p)) ∧ w' = w := by
 unfold fstB
 by_cases c1 : 0 ≤ p
 ·have d1 : decide (0 ≤ p) = true := by simpa using c1
  by_cases c2 : p < 1024
  ·have d2 : decide (p < 1024) = true := by simpa using c2
   have hr : Int.tmod p 16 = p % 16 := Int.tmod_eq_emod_of_nonneg c1
   by_cases c3 : p % 16 = 0
   ·have d3 : decide (p % 16 = 0) = true := by simpa using c3
    have d4 : (p % 16 == 0) = true := by simpa using c3
    rw [d1, d2, d3]
    clear d3 c3
    go_enter Tryz.func80, Tryz.ntmps80
    go_wp2_with fail
    go_ret
    exact ⟨rfl, rfl⟩
   ·have d3 : decide (p % 16 = 0) = false := by simpa using c3
    have d4 : (p % 16 == 0) = false := by simpa using c3
    rw [d1, d2, d3]
    clear d3 c3
    go_enter Tryz.func80, Tryz.ntmps80
    go_wp2_with fail
    go_ret
    exact ⟨rfl, rfl⟩
  ·have d2 : decide (p < 1024) = false := by simpa using c2
   rw [d1, d2]
   go_enter Tryz.func80, Tryz.ntmps80
   go_wp2_with fail
   go_ret
   exact ⟨rfl, rfl⟩
 ·have d1 : decide (0 ≤ p) = false := by simpa using c1
  rw [d1]
  go_enter Tryz.func80, Tryz.ntmps80
  go_wp2_with fail
  go_ret
  exact ⟨rfl, rfl⟩
end Go.Proofs.YtjmmgoijnhnnaaaGreat
namespace Go.Pol
open Go Go.RowKit
structure IntsC (cs : Array Value) (n : Nat) : Prop where
 size : cs.size = n
 at_ : ∀ j, j < n → ∃ z : Int, cs[j]? = some (.int .i64 z)
theorem IntsC.set {cs : Array Value} {n : Nat} (h : IntsC cs n) (i : Nat) (z : Int) : IntsC (cs.setIfInBounds i (.int .i64 z)) n := by
 refine ⟨by simp [h.size], fun j hj => ?_⟩
 rw [Array.getElem?_setIfInBounds]
 by_cases e : i = j
 ·rw [if_pos e, if_pos (by rw [h.size]; omega)]
  exact ⟨z, rfl⟩
 ·rw [if_neg e]
  exact h.at_ j hj
theorem IntsC.one {cs : Array Value} {n : Nat} (h : IntsC cs n) : ∀ x ∈ cs.toList, x.oneCell' = true := by
 intro x hx
 obtain ⟨i, hi, rfl⟩ := List.mem_iff_getElem.1 hx
 obtain ⟨z, hz⟩ := h.at_ i (by rw [← h.size]; simpa using hi)
 rw [Array.getElem?_eq_getElem (by simpa using hi)] at hz
 simp only [Option.some.injEq] at hz
 rw [Array.getElem_toList, hz]
 rfl
end Go.Pol
namespace Go.Proofs.YtjmmgoijnhnnaaaGreat
open Go Go.Proofs Go.RowKit Go.Pol Go.Shelf
attribute [local go_sem] Oper.semAt_some Go.Pol.wide_fn Go.Pol.wide_depth Go.Pol.wide_fn' Go.Pol.wide_depth'
theorem infoVc : (Tryz.prog.info? 106).map (·.size) = some 5 := by kernel_rfl
set_option maxRecDepth 100000 in
set_option maxHeartbeats 1600000 in
theorem counts_any (b : Nat) (V : Vm) (w : World) (hV : SysIs w b V) (hk : KindOk V) :
  Calls Tryz.prog 41 #[.pointer (some ⟨b, 0, none⟩)] w fun e w' => (∃ cs, IntsC cs 5 ∧ e = .returned (.tuple #[.agg cs, .int .i64 0])) ∧ Below w.heap.size w w' := by
 have hb0 := (Below.refl w.heap.size w).alloc (Nat.le_refl _) (.cells #[.int .i64 0, .int .i64 0, .int .i64 0, .int .i64 0, .int .i64 0] 106)
 have k0 := Blk.new w 106 #[.int .i64 0, .int .i64 0, .int .i64 0, .int .i64 0, .int .i64 0]
 have HI := Lib.hid (fun W h => is_any b V W h)
 have HF := Lib.hid (fun (p : Int) W => vfirst_any p W)
 have V0 := hV.call hb0
 have hbs := hV.lt
 have hk' := Lib.hid hk
 have hV' := Lib.hid hV
 obtain ⟨s, hs⟩ : ∃ s, w.heap.size = s := ⟨_, rfl⟩
 have hsz0 : (w.alloc (.cells #[.int .i64 0, .int .i64 0, .int .i64 0, .int .i64 0, .int .i64 0] 106)).heap.size = s + 1 := by rw [World.size_alloc, hs]
 rw [hs] at k0 hbs
 clear hk hV
 go_enter Tryz.func41, Tryz.ntmps41
 go_upto_region 1 with fail
 generalize w.alloc _ = w0 at *
 go_wp2_with fail
 refine (HI.out _ V0).mono ?_
 rintro e9 w9 ⟨rfl, hw9⟩
 replace hw9 := hw9.symm
 subst hw9
 go_upto_region 4 with fail
 have hb1 := hb0.alloc (by omega) (.cells #[.int .i64 0, .int .i64 0, .int .i64 0, .int .i64 0, .int .i64 0] 106)
 have k01 := k0.alloc (.cells #[.int .i64 0, .int .i64 0, .int .i64 0, .int .i64 0, .int .i64 0] 106)
 have k4 := Blk.new w0 106 #[.int .i64 0, .int .i64 0, .int .i64 0, .int .i64 0, .int .i64 0]
 have hsz1 : (w0.alloc (.cells #[.int .i64 0, .int .i64 0, .int .i64 0, .int .i64 0, .int .i64 0] 106)).heap.size = s + 2 := by rw [World.size_alloc, hsz0]
 rw [hsz0] at k4
 clear V0 hb0 k0
 generalize w0.alloc _ = w1 at *
 have k5 := Blk.new w1 192 #[Value.pointer (some ⟨s + 1, 0, none⟩), Value.pointer (some ⟨s + 1, 1, none⟩), Value.pointer (some ⟨s + 1, 2, none⟩), Value.pointer (some ⟨s + 1, 3, none⟩)]
 rw [hsz1] at k5
 have k24 := k4.alloc (.cells #[Value.pointer (some ⟨s + 1, 0, none⟩), Value.pointer (some ⟨s + 1, 1, none⟩), Value.pointer (some ⟨s + 1, 2, none⟩), Value.pointer (some ⟨s + 1, 3, none⟩)] 192)
 have k20 := k01.alloc (.cells #[Value.pointer (some ⟨s + 1, 0, none⟩), Value.pointer (some ⟨s + 1, 1, none⟩), Value.pointer (some ⟨s + 1, 2, none⟩), Value.pointer (some ⟨s + 1, 3, none⟩)] 192)
 have B2 := hb1.alloc (by omega) (.cells #[Value.pointer (some ⟨s + 1, 0, none⟩), Value.pointer (some ⟨s + 1, 1, none⟩), Value.pointer (some ⟨s + 1, 2, none⟩), Value.pointer (some ⟨s + 1, 3, none⟩)] 192)
 go_wp2_with fail
 generalize w1.alloc _ = w2 at *
 have hint : IntsC #[.int .i64 0, .int .i64 0, .int .i64 0, .int .i64 0, .int .i64 0] 5 := ⟨rfl, fun j hj => by
  rcases (show j = 0 ∨ j = 1 ∨ j = 2 ∨ j = 3 ∨ j = 4 by omega) with rfl | rfl | rfl | rfl | rfl <;> exact ⟨0, rfl⟩⟩
 clear k4 k01 hb1 hsz0 hsz1
 go_loopw [16] (fun u wr => ∃ i : Nat, i ≤ 1024 ∧ u = .int .i64 i ∧ Below w.heap.size w wr ∧ Blk wr s 106 #[.int .i64 0, .int .i64 0, .int .i64 0, .int .i64 0, .int .i64 0] ∧ Blk wr (s + 2) 192 ([Value.pointer (some ⟨s + 1, 0, none⟩), Value.pointer (some ⟨s + 1, 1, none⟩), Value.pointer (some ⟨s + 1, 2, none⟩), Value.pointer (some ⟨s + 1, 3, none⟩)]).toArray ∧ ∃ cs, IntsC cs 5 ∧ Blk wr (s + 1) 106 cs) (fun u _ => 1024 - (intOf u).toNat)
 case atStart => exact ⟨0, by omega, rfl, B2, k20, k5, _, hint, k24⟩
 case round =>
  clear k24 k20 B2 k5 hint
  obtain ⟨i, hi, rfl, hB, h0, h5, cs, hcs, h4⟩ := hrel
  by_cases hlt : i < 1024
  ·have hil : (i : Int) < 1024 := by omega
   have hlt' : decide ((i : Int) < 1024) = true := by simpa using hil
   obtain ⟨cv, A, n, cap, hkv, hcv, _⟩ := (hV'.out.call hB).ex
   obtain ⟨hk0, hk3⟩ := hk'.out i hlt
   have e0 := (hkv.cell (1 + i * 66)).trans (hcv.kind hlt)
   generalize (V.pg i).kind = kd at *
   obtain ⟨d, rfl⟩ : ∃ d : Nat, kd = (d : Int) := ⟨kd.toNat, by omega⟩
   have hd4 : (d : Int) < 4 := by omega
   have e1 : wr.cell? ⟨s + 2, d, none⟩ = some (.pointer (some ⟨s + 1, d, none⟩)) := by
    rw [h5.cell]
    rcases (show d = 0 ∨ d = 1 ∨ d = 2 ∨ d = 3 by omega) with rfl | rfl | rfl | rfl <;> rfl
   obtain ⟨z, hz⟩ := hcs.at_ d (by omega)
   have e2 := (h4.cell d).trans hz
   have f2 := h4.frozen d
   have k4' := h4.set_ d (.int .i64 (wrap64 (z + 1)))
   have hcs' := hcs.set d (wrap64 (z + 1))
   have F4 := Far.setCell (T := fun k => k = s + 1) (p := ⟨s + 1, d, none⟩) (Far.refl _ wr) (fun _ => rfl) (.int .i64 (wrap64 (z + 1)))
   go_upto_region 9 with fail
   generalize wr.setCell ⟨s + 1, d, none⟩ _ = w3 at *
   clear e0 e1 e2 f2 hkv hcv hcs h4 hz
   have B3 := hB.trans (F4.below (by have := hB.size; omega) (fun k hk e => by omega))
   have h03 := F4.blk h0 (by show ¬ s = s + 1; omega)
   have h53 := F4.blk h5 (by show ¬ s + 2 = s + 1; omega)
   clear h0 h5 F4 hB
   generalize cs.setIfInBounds d _ = cs at *
   obtain ⟨cv, A, n, cap, hkv, hcv, _⟩ := (hV'.out.call B3).ex
   have e0 := (hkv.cell (1 + i * 66 + 1)).trans (hcv.hug hlt)
   obtain ⟨z4, hz4⟩ := hcs'.at_ 4 (by omega)
   have e2 := (k4'.cell 4).trans hz4
   have f2 := k4'.frozen 4
   have k4'' := k4'.set_ 4 (.int .i64 (wrap64 (z4 + 1)))
   have hcs'' := hcs'.set 4 (wrap64 (z4 + 1))
   have F4 := Far.setCell (T := fun k => k = s + 1) (p := ⟨s + 1, 4, none⟩) (Far.refl _ w3) (fun _ => rfl) (.int .i64 (wrap64 (z4 + 1)))
   clear hkv hcv
   cases hh : (V.pg i).huge with
   | false =>
    rw [hh] at e0
    clear hh
    go_wp2_with fail
    go_roundw
    case rel => exact ⟨i + 1, by omega, by go_num, B3, h03, h53, _, hcs', k4'⟩
    case measure => simp [intOf]; omega
   | true =>
    rw [hh] at e0
    clear hh
    have HF' := Lib.hid (HF.out (i : Int) w3)
    cases hf : fstB (i : Int) with
    | false =>
     rw [hf] at HF'
     clear hf
     go_wp2_with fail
     refine HF'.out.mono ?_
     rintro e9 w9 ⟨rfl, hw9⟩
     replace hw9 := hw9.symm
     subst hw9
     go_wp2_with fail
     go_roundw
     case rel => exact ⟨i + 1, by omega, by go_num, B3, h03, h53, _, hcs', k4'⟩
     case measure => simp [intOf]; omega
    | true =>
     rw [hf] at HF'
     clear hf
     go_wp2_with fail
     refine HF'.out.mono ?_
     rintro e9 w9 ⟨rfl, hw9⟩
     replace hw9 := hw9.symm
     subst hw9
     have B4 := B3.trans (F4.below (by have := B3.size; omega) (fun k hk e => by omega))
     have h04 := F4.blk h03 (by show ¬ s = s + 1; omega)
     have h54 := F4.blk h53 (by show ¬ s + 2 = s + 1; omega)
     go_wp2_with fail
     go_roundw
     case rel => exact ⟨i + 1, by omega, by go_num, B4, h04, h54, _, hcs'', k4''⟩
     case measure => simp [intOf]; omega
  ·obtain rfl : i = 1024 := by omega
   have hlt' : decide (((1024 : Nat) : Int) < 1024) = false := by simp
   have hra : wr.rangeAt (s + 1) 0 cs.toList := fun j v hj => by
    rw [Nat.zero_add, h4.cell]
    simpa using hj
   have hsz := hcs.size
   have ht : wr.there s 0 cs.size := by rw [hsz]; exact z_there h0 0 5 (by simp)
   have hk9 := Blk.puts (g := s) (t := 106) (w := wr) (cs := #[]) cs.toList 0 wr _ h0
   rw [putA_all (by rw [Array.length_toList, hsz]; rfl), Array.toArray_toList] at hk9
   have hF9 := Far.puts (T := fun k => k = s) rfl cs.toList 0 wr wr (Far.refl _ _)
   have hone := Go.all_oneCell_toArray (hcs.one)
   rw [Array.toArray_toList] at hone
   have hinf : (Tryz.prog.info? 106).map (·.size) = some cs.size := by rw [hsz]; exact infoVc
   go_wp2_with (first
    | (refine wpList_load_mid rfl 106 (.tmp 4) rfl (s + 1) 0 rfl cs.toList _ hra Tryz.underlying106 rfl (by rw [Array.length_toList, hsz]; kernel_rfl) ?_; rw [Array.toArray_toList])
    | (refine wpList_store_mid rfl 106 (.tmp 2) (.tmp 48) rfl s 0 cs rfl rfl ht hinf hone ?_))
   generalize World.setCells wr s 0 _ = w9 at *
   have hra9 : w9.rangeAt s 0 cs.toList := fun j v hj => by
    rw [Nat.zero_add, hk9.cell]
    simpa using hj
   have hl9 := run_loadVar_mid (P := Tryz.prog) w9 s 0 106 cs.toList _ hra9 Tryz.underlying106 rfl (by rw [Array.length_toList, hsz]; kernel_rfl)
   rw [Array.toArray_toList] at hl9
   refine bodyPost_ret (v := .tuple #[.agg cs, .int .i64 0]) ?_ rfl ?_
   ·exact z_results_cell_tmp Tryz.results41 rfl hl9
   exact ⟨⟨_, hcs, rfl⟩, hB.trans (hF9.below (by have := hB.size; omega) (fun k hk e => by omega))⟩
end Go.Proofs.YtjmmgoijnhnnaaaGreat
namespace Go.Pol
open Go Go.RowKit
theorem KindOk.eachP {V : Vm} (h : KindOk V) (a n : Nat) {f : Pg → Pg} (hf : ∀ g : Pg, (0 ≤ g.kind ∧ g.kind ≤ 3) → 0 ≤ (f g).kind ∧ (f g).kind ≤ 3) : KindOk (V.eachP a n f) := fun q hq => by
 show 0 ≤ (if a ≤ q ∧ q < a + n then f (V.pg q) else V.pg q).kind ∧ (if a ≤ q ∧ q < a + n then f (V.pg q) else V.pg q).kind ≤ 3
 split
 ·exact hf _ (h q hq)
 ·exact h q hq
theorem Vm.ref_pg (V : Vm) (call : Nat) : (V.ref call).pg = V.pg := by
 unfold Vm.ref
 repeat (first | rfl | split)
theorem KindOk.ref {V : Vm} (h : KindOk V) (call : Nat) : KindOk (V.ref call) := fun q hq => by rw [Vm.ref_pg]; exact h q hq
theorem KindOk.makeF {V : Vm} (h : KindOk V) (a n : Int) (call : Nat) (pr : Pg → Bool) {f : Pg → Pg} (hf : ∀ g : Pg, (0 ≤ g.kind ∧ g.kind ≤ 3) → 0 ≤ (f g).kind ∧ (f g).kind ≤ 3) : KindOk (makeF V a n call pr f).2 := by
 unfold Go.Pol.makeF
 split
 ·exact h
 ·split
  ·exact h
  ·split
   ·exact h.ref call
   ·exact (h.ref call).eachP _ _ hf
theorem KindOk.bec {V : Vm} (h : KindOk V) (a n : Int) (call : Nat) (fr : Int) {tk : Int} (hk : 0 ≤ tk ∧ tk ≤ 3) : KindOk (bec V a n call fr tk).2 := h.makeF _ _ _ _ (fun _ _ => hk)
theorem z_take {α : Type} (d : α) (l : List α) {k : Nat} (hk : k < l.length) : l.take (k + 1) = l.take k ++ [l.getD k d] := by
 rw [List.take_succ_eq_append_getElem hk, List.getD_eq_getElem?_getD, List.getElem?_eq_getElem hk]
 rfl
abbrev Rn := Int × Int × Int
def rnC (x : Rn) : List Value := [.int .i64 x.1, .int .i64 x.2.1, .int .i64 x.2.2]
def bumpR (l : List Rn) : List Rn := match l.reverse with
 | [] => []
 | x :: r => r.reverse ++ [(x.1, x.2.1 + 1, x.2.2)]
def vrunsL (V : Vm) : Nat → List Rn
 | 0 => []
 | k + 1 => if (V.pg k).kind = 0 then vrunsL V k else if 0 < k ∧ (V.pg (k - 1)).kind = (V.pg k).kind then bumpR (vrunsL V k) else vrunsL V k ++ [((k : Int), 1, (V.pg k).kind)]
def hugL (V : Vm) : Nat → List Int
 | 0 => []
 | k + 1 => if k % 16 = 0 ∧ (V.pg k).huge = true then hugL V k ++ [(k : Int)] else hugL V k
def nzB (g : Pg) : Bool := (List.range 64).any fun k => g.byt k != 0
def datL (V : Vm) : Nat → List Nat
 | 0 => []
 | k + 1 => if nzB (V.pg k) = true then datL V k ++ [k] else datL V k
def bytL (g : Pg) : List Value := (List.range 64).map fun k => .int .u8 (g.byt k)
def daC (V : Vm) (p : Nat) : List Value := .int .i64 p :: bytL (V.pg p)
def stC (v1 v2 v3 v4 : Value) (cs hs : Nat → Int) : List Value := v1 :: v2 :: v3 :: rfC v4 cs hs
structure VsIs (w : World) (S : Value) (V : Vm) : Prop where
 ex : ∃ (A1 A2 A3 A4 : Option Addr) (n1 c1 n2 c2 n3 c3 n4 c4 : Nat), S = .agg (stC (.slice A1 n1 c1) (.slice A2 n2 c2) (.slice A3 n3 c3) (.slice A4 n4 c4) V.rf.calls V.rf.hits).toArray ∧
  (vrunsL V 1024).length = n1 ∧ Rd w w.heap.size A1 (fl rnC (vrunsL V 1024)) ∧ (hugL V 1024).length = n2 ∧ RI w w.heap.size A2 (hugL V 1024) ∧ (datL V 1024).length = n3 ∧ Rd w w.heap.size A3 (fl (daC V) (datL V 1024)) ∧
  V.rf.rules.length = n4 ∧ Rd w w.heap.size A4 (fl ruC V.rf.rules)
end Go.Pol
namespace Go.Proofs.YtjmmgoijnhnnaaaGreat
open Go Go.Proofs Go.RowKit Go.Pol Go.Shelf
attribute [local go_sem] Oper.semAt_some Go.Pol.wide_fn Go.Pol.wide_depth Go.Pol.wide_fn' Go.Pol.wide_depth'
theorem wpList_buildU {P : Program} {ops : Array Oper} {rest : List Oper} {op : Oper} {a : Act} {w : World} {Q : Exit → Act → World → Prop} (hgd : op.guard = none) (d : Nat) (hd : op.dst = some d) (t : TypeId) (parts : List (Nat × Operand)) (ho : op.op = .build t parts.toArray)
  (vals : List (Nat × Value)) (hv : parts.map (fun x => (x.1, a.eval x.2)) = vals) (cells : Array Value) (hb : P.built t vals = some cells) (h : wpList P ops Q rest (a.put (some d) (.agg cells)) w) : wpList P ops Q (op :: rest) a w :=
 wpList_plain hgd fun K hK => by
  have hb' : P.built t (parts.toArray.map fun (i, x) => (i, a.eval x)).toList = some cells := by
   rw [← hb, ← hv]; simp
  unfold Oper.wp execOp
  simp only [ho, Sem.run_bind, run_build w t _ cells hb', Result.andThen_ok]
  show K (a.put op.dst _) w
  rw [hd]
  exact hK _ _ h
end Go.Proofs.YtjmmgoijnhnnaaaGreat
namespace Go.Pol
open Go
def ofE (us : List Sp) : Int := if 2000 < us.length then 3 else if us.all vld = true then 0 else 7
def setOf (us : List Sp) : List Sp := setA fun k => mem (k : Int) us
theorem setOf_can (us : List Sp) : Can (setOf us) := setA_can _
theorem vld_mem {us : List Sp} (hv : ∀ x ∈ us, vld x = true) {q : Int} (h : mem q us = true) : 0 ≤ q ∧ q < 1024 := by
 obtain ⟨x, hx, hh⟩ := List.any_eq_true.1 h
 have := vld_iff.1 (hv x hx)
 simp at hh
 omega
theorem mem_setOf {us : List Sp} (hv : ∀ x ∈ us, vld x = true) (q : Int) : mem q (setOf us) = true ↔ mem q us = true := by
 unfold setOf
 rw [mem_setA]
 constructor
 ·rintro ⟨h1, h2⟩
  rwa [show ((q.toNat : Nat) : Int) = q by omega] at h2
 ·intro h
  have := vld_mem hv h
  exact ⟨this, by rwa [show ((q.toNat : Nat) : Int) = q by omega]⟩
theorem ofE_zero {us : List Sp} (h : ofE us = 0) : us.length ≤ 2000 ∧ ∀ x ∈ us, vld x = true := by
 unfold ofE at h
 split at h
 ·cases h
 ·split at h
  ·rename_i h1 h2
   exact ⟨by omega, List.all_eq_true.1 h2⟩
  ·cases h
end Go.Pol
namespace Go.Proofs.YtjmmgoijnhnnaaaGreat
open Go Go.Proofs Go.RowKit Go.Pol
theorem ofF_setOf {us us' : List Sp} (hv : ∀ y ∈ us, vld y = true) (h : us'.Perm us) (hs : us'.Pairwise (fun a b => a.1 ≤ b.1)) : ofF us' = setOf us :=
 ofF_set hv h hs (setOf_can us) (fun q => mem_setOf hv q)
end Go.Proofs.YtjmmgoijnhnnaaaGreat
namespace Go.Pol
open Go
theorem pages_sorted : ∀ (L : List Sp) (e : Int), (∀ x ∈ L, 1 ≤ x.2) → formOk e L = true → (pagesOf L).Pairwise (· < ·) ∧ ∀ p ∈ pagesOf L, e < p ∧ mem p L = true
 | [], _, _, _ => ⟨by simp [pagesOf], fun p hp => by simp [pagesOf] at hp⟩
 | x :: r, e, h, hf => by
  have hf' := formOk_cons.1 hf
  have hx := h x (by simp)
  obtain ⟨h1, h2⟩ := pages_sorted r (x.1 + x.2) (fun y hy => h y (by simp [hy])) hf'.2
  have hX : ∀ p ∈ pagesX x x.2.toNat, x.1 ≤ p ∧ p < x.1 + x.2 := by
   intro p hp
   simp only [pagesX, List.mem_map, List.mem_range] at hp
   obtain ⟨k, hk, rfl⟩ := hp
   omega
  rw [pagesOf_cons]
  constructor
  ·rw [List.pairwise_append]
   refine ⟨?_, h1, fun a ha b hb => by have := hX a ha; have := (h2 b hb).1; omega⟩
   unfold pagesX
   rw [List.pairwise_map]
   exact List.pairwise_lt_range.imp (fun {a b} h => by omega)
  ·intro p hp
   rcases List.mem_append.1 hp with h3 | h3
   ·have := hX p h3
    exact ⟨by omega, mem_cons'.2 (.inl this)⟩
   ·exact ⟨by have := (h2 p h3).1; omega, mem_cons'.2 (.inr (h2 p h3).2)⟩
theorem idxL_get : ∀ (P : List Int) (k : Int) (i : Nat), P.Pairwise (· < ·) → i < P.length → idxL (P.getD i 0) k P = (k + i, 0)
 | [], _, _, _, h => by simp at h
 | y :: r, k, 0, _, _ => by simp [idxL]
 | y :: r, k, i + 1, hp, h => by
  have hp' := List.pairwise_cons.1 hp
  have hi : i < r.length := by simpa using h
  have e : (y :: r).getD (i + 1) 0 = r.getD i 0 := by simp [List.getD_eq_getElem?_getD]
  have hm : r.getD i 0 ∈ r := by rw [List.getD_eq_getElem?_getD, List.getElem?_eq_getElem hi]; simp
  have hne : y ≠ r.getD i 0 := by have := hp'.1 _ hm; omega
  rw [e, idxL, if_neg hne, idxL_get r (k + 1) i hp'.2 hi]
  congr 1
  omega
theorem sum_form : ∀ (s : List Sp) (e : Int), e < 1024 → (∀ x ∈ s, vld x = true) → formOk e s = true → sumS s ≤ 1023 - e
 | [], e, he, _, _ => by simp [sumS]; omega
 | x :: s, e, he, hv, hf => by
  rw [formOk_cons] at hf
  have hx := vld_iff.1 (hv x (by simp))
  have e1 : sumS (x :: s) = x.2 + sumS s := by simp [sumS]
  rw [e1]
  cases s with
  | nil => simp [sumS]; omega
  | cons y r =>
   have hf2 := formOk_cons.1 hf.2
   have hy := vld_iff.1 (hv y (by simp))
   have := sum_form (y :: r) (x.1 + x.2) (by omega) (fun z hz => hv z (List.mem_cons_of_mem _ hz)) hf.2
   omega
def pageAt (L : List Sp) (k : Nat) : Int := (pagesOf L).getD k 0
def lastAt (L : List Sp) (k : Nat) : Int := if k = 0 then -1 else pageAt L (k - 1)
section
variable {pg n f b ev : Int}
theorem runs_pos (hp : PlanOk pg n f b ev) : ∀ x ∈ runsL pg n f b ev, 1 ≤ x.2 := fun x hx => ((runsL_ok hp).1 x hx).2.1
theorem runs_ne (hp : PlanOk pg n f b ev) : runsL pg n f b ev ≠ [] := by
 have h := hp.fb
 unfold runsL
 rw [show (1025 : Nat) = 1024 + 1 from rfl, runsF, if_pos (by omega)]
 simp
theorem runs_sum (hp : PlanOk pg n f b ev) : 1 ≤ sumS (runsL pg n f b ev) ∧ sumS (runsL pg n f b ev) ≤ 1024 := by
 have hc := runsL_can hp
 have h1 := sum_form _ (-1) (by omega) hc.1 hc.2
 refine ⟨?_, by omega⟩
 have h2 := runs_pos hp
 cases hL : runsL pg n f b ev with
 | nil => exact absurd hL (runs_ne hp)
 | cons x r =>
  rw [hL] at h2 hc
  have h3 := h2 x (by simp)
  have h4 := (sumS_bound r (fun y hy => hc.1 y (by simp [hy]))).1
  have e1 : sumS (x :: r) = x.2 + sumS r := by simp [sumS]
  omega
theorem parts_nth (hp : PlanOk pg n f b ev) (k : Nat) (hk : (k : Int) < sumS (runsL pg n f b ev)) :
  nthF (runsL pg n f b ev) k = (pageAt (runsL pg n f b ev) k, 0) ∧ idxF (pageAt (runsL pg n f b ev) k) 0 (runsL pg n f b ev) = ((k : Int), 0) ∧
  mem (pageAt (runsL pg n f b ev) k) (runsL pg n f b ev) = true ∧ 0 ≤ pageAt (runsL pg n f b ev) k ∧ pageAt (runsL pg n f b ev) k < 1024 ∧
  lastAt (runsL pg n f b ev) k < pageAt (runsL pg n f b ev) k := by
 have hpos := runs_pos hp
 have hc := runsL_can hp
 have hin : ∀ {q : Int}, mem q (runsL pg n f b ev) = true → pg ≤ q ∧ q < pg + n := fun h => by
  have := ((runsL_ok hp).2.2 _).1 h
  have := hp.f0; have := hp.b0
  omega
 have b1 := hp.pg0; have b2 := hp.n1
 generalize runsL pg n f b ev = L at *
 have hl := pagesOf_len L (fun x hx => by have := hpos x hx; omega)
 have hk' : k < (pagesOf L).length := by omega
 obtain ⟨hs, hm⟩ := pages_sorted L (-1) hpos hc.2
 have hmem : pageAt L k ∈ pagesOf L := by
  unfold pageAt
  rw [List.getD_eq_getElem?_getD, List.getElem?_eq_getElem hk']; simp
 have hmm := (hm _ hmem).2
 have := hin hmm
 refine ⟨?_, ?_, hmm, by omega, by omega, ?_⟩
 ·rw [nthF_pages L _ hpos, nthP, if_neg (by omega)]; rfl
 ·rw [idxF_pages _ _ _ hpos]
  have := idxL_get (pagesOf L) 0 k hs hk'
  rw [Int.zero_add] at this
  exact this
 ·unfold lastAt
  by_cases h0 : k = 0
  ·rw [if_pos h0]; omega
  ·rw [if_neg h0]
   have h1 : k - 1 < (pagesOf L).length := by omega
   have := List.pairwise_iff_getElem.1 hs (k - 1) k h1 hk' (by omega)
   unfold pageAt
   have e1 : (pagesOf L).getD k 0 = (pagesOf L)[k] := by rw [List.getD_eq_getElem?_getD, List.getElem?_eq_getElem hk']; rfl
   have e2 : (pagesOf L).getD (k - 1) 0 = (pagesOf L)[k - 1] := by rw [List.getD_eq_getElem?_getD, List.getElem?_eq_getElem h1]; rfl
   rw [e1, e2]
   exact this
end
def cntN (f : Int → Bool) : Nat → Int → Int
 | 0, _ => 0
 | k + 1, a => (if f a = true then 1 else 0) + cntN f k (a + 1)
def cntF (us : List Sp) (x : Sp) : Int := cntN (fun q => mem q us) x.2.toNat x.1
theorem cntN_split (f : Int → Bool) : ∀ (j k : Nat) (a : Int), cntN f (j + k) a = cntN f j a + cntN f k (a + j)
 | 0, k, a => by simp [cntN]
 | j + 1, k, a => by
  rw [show j + 1 + k = (j + k) + 1 by omega, cntN, cntN_split f j k (a + 1), cntN, show a + 1 + (j : Int) = a + (j + 1 : Nat) by omega]
  omega
theorem cntN_congr {f g : Int → Bool} : ∀ (k : Nat) (a : Int), (∀ q, a ≤ q → q < a + k → f q = g q) → cntN f k a = cntN g k a
 | 0, a, _ => rfl
 | k + 1, a, h => by
  rw [cntN, cntN, h a (by omega) (by omega), cntN_congr k (a + 1) (fun q h1 h2 => h q (by omega) (by omega))]
theorem cntN_bound (f : Int → Bool) : ∀ (k : Nat) (a : Int), 0 ≤ cntN f k a ∧ cntN f k a ≤ k
 | 0, a => by simp [cntN]
 | k + 1, a => by
  have := cntN_bound f k (a + 1)
  rw [cntN]
  split <;> omega
theorem cntN_all {f : Int → Bool} : ∀ (k : Nat) (a : Int), (∀ q, a ≤ q → q < a + k → f q = true) → cntN f k a = k
 | 0, a, _ => rfl
 | k + 1, a, h => by
  rw [cntN, h a (by omega) (by omega), if_pos rfl, cntN_all k (a + 1) (fun q h1 h2 => h q (by omega) (by omega))]
  omega
theorem cntN_none {f : Int → Bool} : ∀ (k : Nat) (a : Int), (∀ q, a ≤ q → q < a + k → f q = false) → cntN f k a = 0
 | 0, a, _ => rfl
 | k + 1, a, h => by
  rw [cntN, h a (by omega) (by omega), if_neg (by decide), cntN_none k (a + 1) (fun q h1 h2 => h q (by omega) (by omega))]
  omega
theorem cnt_sum : ∀ (us : List Sp) (e a : Int), formOk e us = true → (∀ x ∈ us, vld x = true) → (∀ x ∈ us, a ≤ x.1) → a ≤ 1024 → cntN (fun q => mem q us) (1024 - a).toNat a = sumS us
 | [], _, a, _, _, _, _ => by rw [cntN_none (f := fun q => mem q []) _ _ (fun q _ _ => rfl)]; simp [sumS]
 | x :: r, e, a, hf, hv, ha, hle => by
  have hf' := formOk_cons.1 hf
  have hx := vld_iff.1 (hv x (by simp))
  have hax := ha x (by simp)
  have hrv : ∀ y ∈ r, vld y = true := fun y hy => hv y (by simp [hy])
  have low : ∀ q, mem q r = true → x.1 + x.2 < q := fun q hq => mem_lt hf'.2 (fun y hy => by have := vld_iff.1 (hrv y hy); omega) hq
  have hr : ∀ y ∈ r, x.1 + x.2 ≤ y.1 := fun y hy => by
   have := vld_iff.1 (hrv y hy)
   have := low y.1 (List.any_eq_true.2 ⟨y, hy, by simp; omega⟩)
   omega
  have ih := cnt_sum r (x.1 + x.2) (x.1 + x.2) hf'.2 hrv hr (by omega)
  have e1 : (1024 - a).toNat = (x.1 - a).toNat + (x.2.toNat + (1024 - (x.1 + x.2)).toNat) := by omega
  rw [e1, cntN_split, cntN_split, show a + ((x.1 - a).toNat : Int) = x.1 by omega, show x.1 + (x.2.toNat : Int) = x.1 + x.2 by omega]
  rw [cntN_none (x.1 - a).toNat a (fun q h1 h2 => by
   rw [Bool.eq_false_iff]; intro hh
   rcases mem_cons'.1 hh with h | h
   ·omega
   ·have := low q h; omega)]
  rw [cntN_all x.2.toNat x.1 (fun q h1 h2 => mem_cons'.2 (.inl (by omega)))]
  rw [cntN_congr (g := fun q => mem q r) _ _ (fun q h1 h2 => by
   show mem q (x :: r) = mem q r
   rw [mem_cons, Bool.eq_iff_iff]
   simp
   omega), ih]
  have : sumS (x :: r) = x.2 + sumS r := by simp [sumS]
  omega
theorem count_law {us : List Sp} (h : Can us) : cntF us (0, 1024) = sumS us := by
 have := cnt_sum us (-1) 0 h.2 h.1 (fun x hx => (vld_iff.1 (h.1 x hx)).1) (by omega)
 exact this
end Go.Pol
namespace Go.Proofs.YtjmmgoijnhnnaaaGreat
open Go Go.Proofs Go.Shelf
def sortSp_ren : Go.Shelf.Ren := ⟨fun | 6 => 184 | 15 => 207 | 14 => 206 | 28 => 230 | 29 => 231 | 20 => 222 | 21 => 223 | 22 => 224 | 23 => 225 | 24 => 226 | 25 => 227 | 26 => 228 | 27 => 229 | 46 => 241 | 47 => 242 | 48 => 243 | 49 => 244 | 50 => 245 | 57 => 247 | n => n, fun | 22 => 41 | 24 => 140 | 25 => 250 | 3 => 3 | 39 => 263 | 0 => 0 | 53 => 277 | 55 => 279 | 4 => 4 | 46 => 271 | 45 => 270 | 50 => 153 | 5 => 5 | 9 => 9 | 66 => 287 | 70 => 191 | 76 => 293 | 77 => 242 | n => n, fun | n => n⟩
theorem sortSp : Go.Proofs.SlLaysF0.n6 Tryz.prog sortSp_ren := {
 mixed := by kernel_rfl
 f6 := ⟨Tryz.f184.name, by decide, Tryz.func184.trans (congrArg some (by kernel_rfl))⟩
 f14 := ⟨Tryz.f206.name, by decide, Tryz.func206.trans (congrArg some (by kernel_rfl))⟩
 f15 := Tryz.func207.trans (congrArg some (by kernel_rfl))
 f20 := ⟨Tryz.f222.name, by decide, Tryz.func222.trans (congrArg some (by kernel_rfl))⟩
 f21 := ⟨Tryz.f223.name, by decide, Tryz.func223.trans (congrArg some (by kernel_rfl))⟩
 f22 := ⟨Tryz.f224.name, by decide, Tryz.func224.trans (congrArg some (by kernel_rfl))⟩
 f23 := ⟨Tryz.f225.name, by decide, Tryz.func225.trans (congrArg some (by kernel_rfl))⟩
 f24 := ⟨Tryz.f226.name, by decide, Tryz.func226.trans (congrArg some (by kernel_rfl))⟩
 f25 := ⟨Tryz.f227.name, by decide, Tryz.func227.trans (congrArg some (by kernel_rfl))⟩
 f26 := ⟨Tryz.f228.name, by decide, Tryz.func228.trans (congrArg some (by kernel_rfl))⟩
 f27 := ⟨Tryz.f229.name, by decide, Tryz.func229.trans (congrArg some (by kernel_rfl))⟩
 f28 := Tryz.func230.trans (congrArg some (by kernel_rfl))
 f29 := Tryz.func231.trans (congrArg some (by kernel_rfl))
 f46 := ⟨Tryz.f241.name, by decide, Tryz.func241.trans (congrArg some (by kernel_rfl))⟩
 f47 := Tryz.func242.trans (congrArg some (by kernel_rfl))
 f48 := Tryz.func243.trans (congrArg some (by kernel_rfl))
 f49 := ⟨Tryz.f244.name, by decide, Tryz.func244.trans (congrArg some (by kernel_rfl))⟩
 f50 := ⟨Tryz.f245.name, by decide, Tryz.func245.trans (congrArg some (by kernel_rfl))⟩
 f57 := ⟨Tryz.f247.name, by decide, Tryz.func247.trans (congrArg some (by kernel_rfl))⟩
 t0 := Tryz.underlying0
 a0 := Tryz.isAgg0
 z0 := Tryz.sizeOf0
 v0 := Tryz.zeroValue0
 t3 := Tryz.underlying3
 a3 := Tryz.isAgg3
 z3 := Tryz.sizeOf3
 v3 := Tryz.zeroValue3
 t4 := Tryz.underlying4
 a4 := Tryz.isAgg4
 z4 := Tryz.sizeOf4
 v4 := Tryz.zeroValue4
 t5 := Tryz.underlying5
 a5 := Tryz.isAgg5
 z5 := Tryz.sizeOf5
 v5 := Tryz.zeroValue5
 t9 := Tryz.underlying9
 a9 := Tryz.isAgg9
 z9 := Tryz.sizeOf9
 v9 := Tryz.zeroValue9
 t22 := Tryz.underlying41
 a22 := Tryz.isAgg41
 z22 := Tryz.sizeOf41
 v22 := Tryz.zeroValue41
 t25 := Tryz.underlying250
 a25 := Tryz.isAgg250
 z25 := Tryz.sizeOf250
 v25 := Tryz.zeroValue250
 t39 := Tryz.underlying263
 a39 := Tryz.isAgg263
 z39 := Tryz.sizeOf263
 v39 := Tryz.zeroValue263
 t45 := Tryz.underlying270
 a45 := Tryz.isAgg270
 z45 := Tryz.sizeOf270
 v45 := Tryz.zeroValue270
 t46 := Tryz.underlying271
 a46 := Tryz.isAgg271
 z46 := Tryz.sizeOf271
 v46 := Tryz.zeroValue271
 t50 := Tryz.underlying153
 a50 := Tryz.isAgg153
 z50 := Tryz.sizeOf153
 v50 := Tryz.zeroValue153
 t53 := Tryz.underlying277
 a53 := Tryz.isAgg277
 z53 := Tryz.sizeOf277
 v53 := Tryz.zeroValue277
 t55 := Tryz.underlying279
 a55 := Tryz.isAgg279
 z55 := Tryz.sizeOf279
 v55 := Tryz.zeroValue279
 t66 := Tryz.underlying287
 a66 := Tryz.isAgg287
 z66 := Tryz.sizeOf287
 v66 := Tryz.zeroValue287
 t70 := Tryz.underlying191
 a70 := Tryz.isAgg191
 z70 := Tryz.sizeOf191
 v70 := Tryz.zeroValue191
 t76 := Tryz.underlying293
 a76 := Tryz.isAgg293
 z76 := Tryz.sizeOf293
 v76 := Tryz.zeroValue293
 t77 := Tryz.underlying242
 a77 := Tryz.isAgg242
 z77 := Tryz.sizeOf242
 v77 := Tryz.zeroValue242 }
def growSp_ren : Go.Shelf.Ren := ⟨fun | 4 => 188 | n => n, fun | 22 => 41 | 25 => 140 | 3 => 3 | 4 => 4 | 9 => 9 | 20 => 20 | 0 => 0 | 2 => 3 | n => n, fun | n => n⟩
theorem growSp : Go.Proofs.Lays8.n4 Tryz.prog growSp_ren := {
 mixed := by kernel_rfl
 f4 := ⟨Tryz.f188.name, by decide, Tryz.func188.trans (congrArg some (by kernel_rfl))⟩
 t0 := Tryz.underlying0
 a0 := Tryz.isAgg0
 z0 := Tryz.sizeOf0
 v0 := Tryz.zeroValue0
 t3 := Tryz.underlying3
 a3 := Tryz.isAgg3
 z3 := Tryz.sizeOf3
 v3 := Tryz.zeroValue3
 t4 := Tryz.underlying4
 a4 := Tryz.isAgg4
 z4 := Tryz.sizeOf4
 v4 := Tryz.zeroValue4
 t9 := Tryz.underlying9
 a9 := Tryz.isAgg9
 z9 := Tryz.sizeOf9
 v9 := Tryz.zeroValue9
 t20 := Tryz.underlying20
 a20 := Tryz.isAgg20
 z20 := Tryz.sizeOf20
 v20 := Tryz.zeroValue20
 t22 := Tryz.underlying41
 a22 := Tryz.isAgg41
 z22 := Tryz.sizeOf41
 v22 := Tryz.zeroValue41 }
end Go.Proofs.YtjmmgoijnhnnaaaGreat
namespace Go.Proofs.YtjmmgoijnhnnaaaGreat
open Go Go.Proofs Go.RowKit Go.Pol Go.Shelf Go.Sort
def encSp (x : Sp) : List Value := [.int .i64 x.1, .int .i64 x.2]
theorem flat_cells (us : List Sp) : (flatK encSp 2 us.toArray).toList = spCells us := by
 apply List.ext_getElem?
 intro t
 have hl := spCells_len us
 by_cases ht : t < us.length * 2
 ·have h1 : (flatK encSp 2 us.toArray).toList[t]? = some ((encSp us.toArray[t / 2]!)[t % 2]!) := by
   rw [← get_flatK encSp 2 us.toArray t (by simpa using ht)]
   rw [Array.getElem?_toList, getElem!_pos _ t (by simpa using ht), Array.getElem?_eq_getElem (by simpa using ht)]
  rw [h1]
  have hk : t / 2 < us.length := by omega
  have hat := spCells_at us (t / 2) hk
  have hg : us.toArray[t / 2]! = us.getD (t / 2) (0,0) := by
   rw [List.getD_eq_getElem?_getD, List.getElem?_eq_getElem hk, getElem!_pos _ _ (by simpa using hk)]; simp
  rw [hg]
  rcases Nat.mod_two_eq_zero_or_one t with h | h
  ·rw [h, show t = t / 2 * 2 by omega, hat.1]; simp [encSp]
  ·rw [h]
   have e : t = t / 2 * 2 + 1 := by omega
   generalize t / 2 = k at *
   subst e
   rw [hat.2]; simp [encSp]
 ·rw [List.getElem?_eq_none (by simp; omega), List.getElem?_eq_none (by omega)]
theorem heap_putF {w : World} {g m : Nat} {os : Array Obj} {cur : Array Value} {e : TypeId} {fr : Nat × Nat} (F : Array Value) (hb : w.heap[g]? = some (.cells cur e fr)) :
  (grow (putRow id (Sort.ahead w m) g 0 F) os).heap[g]? = some (.cells (putCells id 0 F cur) e fr) := by
 have hg : g < w.heap.size := (Array.getElem?_eq_some_iff.1 hb).1
 rw [heap_grow_old _ _ (by simpa using hg)]
 simp [putRow, mapBlock, Sort.ahead, Array.getElem?_modify, hb, onCells]
theorem grownBy_putF {w : World} {g m : Nat} {os : Array Obj} (F : Array Value) : w.grownBy (grow (putRow id (Sort.ahead w m) g 0 F) os) (some g) := by
 refine ⟨rfl, rfl, rfl, by simp, fun k hk hne => ?_⟩
 rw [heap_grow_old _ _ (by simpa using hk)]
 have : g ≠ k := fun e => hne (by rw [e])
 simp [putRow, mapBlock, Sort.ahead, Array.getElem?_modify, this]
theorem take_putF (cur F : Array Value) (h : F.size ≤ cur.size) : (putCells id 0 F cur).toList.take F.size = F.toList := by
 apply List.ext_getElem?
 intro j
 by_cases hj : j < F.size
 ·rw [List.getElem?_take_of_lt hj, Array.getElem?_toList]
  simp [putCells, hj, show j < cur.size by omega]
 ·rw [List.getElem?_take_eq_none (by omega), List.getElem?_eq_none (by simp; omega)]
theorem owns_putF {w : World} {base g n cap m : Nat} {e : TypeId} {os : Array Obj} {xs : List Value} (F : Array Value) (hF : F.size = n * 2) (h : w.ownsRow base e 2 (.slice (some ⟨g, 0, none⟩) n cap) n xs) :
  (grow (putRow id (Sort.ahead w m) g 0 F) os).ownsRow base e 2 (.slice (some ⟨g, 0, none⟩) n cap) n F.toList := by
 rcases h.2 with ⟨h0, _⟩ | ⟨g', cap', cur, hv, hbase, hb, h1, h2, h3, _⟩
 ·cases h0
 cases hv
 exact ⟨by simpa using hF, .inr ⟨g, cap, _, rfl, hbase, heap_putF _ hb, h1, h2, by simp [putCells, h3], by rw [← hF]; exact take_putF cur F (by rw [hF, h3]; exact Nat.mul_le_mul_right 2 h1)⟩⟩
theorem holds_own {w : World} {base g n cap : Nat} {e : TypeId} {us : List Sp} (hn : us.length = n) (h : w.ownsRow base e 2 (.slice (some ⟨g, 0, none⟩) n cap) n (spCells us)) : HoldsK encSp 2 w g 0 us.toArray := by
 intro j hj
 have hj' : j < us.length * 2 := by simpa using hj
 rw [Nat.zero_add]
 refine ⟨?_, h.frozenAt j⟩
 rw [h.cellAt j (by omega), ← flat_cells, Array.getElem?_toList, getElem!_pos _ j hj, Array.getElem?_eq_getElem hj]
 rfl
theorem cmpLays (blk off size : Nat) (w : World) : CmpLays Tryz.prog 185 #[] encSp 2 (fun x y => cmpI x.1 y.1) blk off size w :=
 fun m os dk _ x y => (of1_any x y _).mono (by rintro e w' ⟨he, rfl⟩; exact ⟨he, 0, _, by rw [alloc_eq_grow, alloc_eq_grow, grow_grow]; rfl⟩)
theorem ltSp (x y : Sp) : ltOf (fun x y : Sp => cmpI x.1 y.1) x y = decide (x.1 < y.1) := by
 unfold ltOf cmpI
 by_cases h1 : x.1 < y.1
 ·simp [h1]
 ·by_cases h2 : y.1 < x.1 <;> simp [h1, h2]
theorem swoSp : SWO (ltOf fun x y : Sp => cmpI x.1 y.1) where
 irrefl x := by rw [ltSp]; simp
 trans x y z h1 h2 := by rw [ltSp] at *; simp at *; omega
 ntrans x y z h1 h2 := by rw [ltSp] at *; simp at *; omega
theorem of1_enters : ∀ args w, (callFunc 185 args).run Tryz.prog w = .ok (.enter 185 args) w := enters_of Tryz.func185 (by kernel_rfl) rfl
set_option maxHeartbeats 1000000 in
theorem sortSome_any (base : Nat) (v : Value) (us : List Sp) (w : World) (hlen : us.length ≤ 100000) (hbase : base ≤ w.heap.size) (hne : us ≠ []) (hrow : w.ownsRow base 140 2 v us.length (spCells us)) :
  Calls Tryz.prog 184 #[v, .func (.func 185) #[] #[]] w fun e w' => e = .returned (.tuple #[]) ∧ ∃ us' : List Sp, us'.Perm us ∧ us'.Pairwise (fun a b => a.1 ≤ b.1) ∧ w'.ownsRow base 140 2 v us.length (spCells us') ∧ Go.RowKit.Below base w w' := by
 have hpos : 0 < us.length := List.length_pos_iff.2 hne
 obtain ⟨g, cap, rfl, hg1, hg2⟩ := hrow.form hpos
 have hcon := AnyQ.slices_SortFunc sortSp 2 Tryz.isAgg140 Tryz.sizeOf140 encSp (fun _ => rfl) (fun x v hv => by simp [encSp] at hv; rcases hv with rfl | rfl <;> rfl) (fun x y => cmpI x.1 y.1) swoSp 185 #[] g 0 cap us.toArray w of1_enters (cmpLays g 0 us.toArray.size w) (holds_own rfl hrow) hg2 (by simp; omega)
 change Calls Tryz.prog 184 _ _ _ at hcon
 rw [List.size_toArray] at hcon
 refine hcon.mono ?_
 rintro e w' ⟨rfl, d', n, os, hp, hs, rfl⟩
 obtain ⟨us'⟩ := d'
 obtain ⟨hp1, _, hp2⟩ := hp
 simp only [List.size_toArray] at hp1 hp2
 refine ⟨rfl, us', by
  have h1 : (Array.extract us'.toArray 0 us.length).toList = us' := by simp [← hp1]
  have h2 : (Array.extract us.toArray 0 us.length).toList = us := by simp
  rw [h1, h2] at hp2; exact hp2, ?_, ?_, ?_⟩
 ·rw [List.pairwise_iff_getElem]
  intro i j hi hj hij
  have := hs i j (Nat.zero_le _) hij (by omega)
  rw [ltSp, getElem!_pos _ j (by simpa using hj), getElem!_pos _ i (by simpa using hi)] at this
  simpa using this
 ·have := owns_putF (m := n) (os := os) (flatK encSp 2 us'.toArray) (by simp [hp1]) hrow
  rw [flat_cells] at this
  exact this
 ·exact (Go.RowKit.Below.refl base w).grown (grownBy_putF _) hbase (fun j hj => by cases hj; exact hg1)
end Go.Proofs.YtjmmgoijnhnnaaaGreat
namespace Go.Proofs.YtjmmgoijnhnnaaaGreat
open Go Go.Proofs Go.RowKit Go.Pol Go.Shelf
theorem insNone_any (A : Option Addr) (cap : Nat) (w : World) : Calls Tryz.prog 222 #[.slice A 0 cap, .int .i64 0, .int .i64 0, .func (.func 185) #[] #[]] w fun e w' => e = .returned (.tuple #[]) ∧ w' = w := by
 go_enter Tryz.func222, Tryz.ntmps222
 go_wp2_with fail
 go_loopw [8] (fun a wr => a = .int .i64 1 ∧ wr = w) (fun _ _ => 0)
 case atStart => exact ⟨rfl, rfl⟩
 case round =>
  obtain ⟨rfl, hw⟩ := hrel
  have hw' := hw.symm
  clear hw
  subst hw'
  go_wp2_with fail
  go_end0
  exact ⟨rfl, rfl⟩
theorem pdqNone_any (A : Option Addr) (cap : Nat) (w : World) : Calls Tryz.prog 206 #[.slice A 0 cap, .int .i64 0, .int .i64 0, .int .i64 0, .func (.func 185) #[] #[]] w fun e w' => e = .returned (.tuple #[]) ∧ w' = w := by
 have HI := Lib.hid (insNone_any A cap w)
 go_enter Tryz.func206, Tryz.ntmps206
 go_wp2_with fail
 go_loopw [1, 2] (fun a b wr => a = .int .i64 0 ∧ b = .int .i64 0 ∧ wr = w) (fun _ _ _ => 0)
 case atStart => exact ⟨rfl, rfl, rfl⟩
 case round =>
  obtain ⟨rfl, rfl, hw⟩ := hrel
  have hw' := hw.symm
  clear hw
  subst hw'
  go_wp2_with fail
  refine HI.out.mono ?_
  rintro e w1 ⟨rfl, hw⟩
  have hw' := hw.symm
  clear hw
  subst hw'
  go_wp2_with fail
  exact bodyPost_ret (results_none (by rfl) _ _ _) rfl ⟨rfl, rfl⟩
theorem sortNone_any (A : Option Addr) (cap : Nat) (w : World) : Calls Tryz.prog 184 #[.slice A 0 cap, .func (.func 185) #[] #[]] w fun e w' => e = .returned (.tuple #[]) ∧ w' = w := by
 have HI := Lib.hid (pdqNone_any A cap w)
 have HL := Lib.hid (fun W => len_any 0 W (by omega) (by omega))
 have e0 : ((Lib.bitLen (0 : Int).toNat : Nat) : Int) = 0 := by decide
 rw [e0] at HL
 go_enter Tryz.func184, Tryz.ntmps184
 go_wp2_with (go_at_call 207; refine (HL.out _).mono ?_; rintro e w' ⟨rfl, rfl⟩)
 refine HI.out.mono ?_
 rintro e w1 ⟨rfl, hw⟩
 have hw' := hw.symm
 clear hw
 subst hw'
 go_wp2_with fail
 go_end0
 exact ⟨rfl, rfl⟩
theorem sort_any (base : Nat) (v : Value) (us : List Sp) (w : World) (hlen : us.length ≤ 100000) (hbase : base ≤ w.heap.size) (hrow : w.ownsRow base 140 2 v us.length (spCells us)) :
  Calls Tryz.prog 184 #[v, .func (.func 185) #[] #[]] w fun e w' => e = .returned (.tuple #[]) ∧ ∃ us' : List Sp, us'.Perm us ∧ us'.Pairwise (fun a b => a.1 ≤ b.1) ∧ w'.ownsRow base 140 2 v us.length (spCells us') ∧ Below base w w' := by
 by_cases hne : us = []
 ·subst hne
  obtain ⟨A, cap, rfl⟩ := own_nil_iff hrow rfl
  refine (sortNone_any A cap w).mono ?_
  rintro e w' ⟨rfl, rfl⟩
  exact ⟨rfl, [], List.Perm.refl _, List.Pairwise.nil, hrow, Below.refl _ _⟩
 ·exact sortSome_any base v us w hlen hbase hne hrow
theorem of'_any (base : Nat) (v : Value) (us : List Sp) (w : World) (hv : ∀ y ∈ us, vld y = true) (hlen : us.length ≤ 100000) (hbase : base ≤ w.heap.size) (hrow : w.ownsRow base 140 2 v us.length (spCells us)) :
  Calls Tryz.prog 128 #[v] w fun e w' => ∃ (us' : List Sp) (v' : Value), us'.Perm us ∧ us'.Pairwise (fun a b => a.1 ≤ b.1) ∧ e = .returned v' ∧ w'.ownsRow w.heap.size 140 2 v' (ofF us').length (spCells (ofF us')) ∧ Below base w w' :=
 of_any base v us w hv hlen hbase (sort_any base v us w hlen hbase hrow) hrow
end Go.Proofs.YtjmmgoijnhnnaaaGreat
namespace Go.Pol
open Go Go.RowKit
theorem wpList_append_own_noneC {P : Program} {w : World} {ops : Array Oper} {rest : List Oper} {o : Oper} {a : Act} {Q : Exit → Act → World → Prop} (hgd : o.guard = none) (s x : Operand) (t : TypeId)
  (ho : o.op = .call { callee := .builtin .append, args := #[s, x], argTypes := #[t, t] })
  (base : Nat) (e : TypeId) (i : TypeInfo) (size c : Nat) (ht : P.underlying t = some (.slice e)) (hi : P.info? e = some i)
  (v : Value) (n : Nat) (xs : List Value) (hs : a.eval s = v) (hown : w.ownsRow base e size v n xs) (hx : a.eval x = .slice none 0 c)
  (h : wpList P ops Q rest (a.put o.dst v) w) : wpList P ops Q (o :: rest) a w := by
 refine wpList_plain hgd fun K hK => ?_
 have hrun : (Builtin.append_ #[t, t] o.type #[v, .slice none 0 c]).run P w = .ok v w := by
  rcases hown.2 with ⟨rfl, rfl⟩ | ⟨g, cap, cur, rfl, _, _, hnc, _⟩
  ·simp [Builtin.append_, run_underlying ht, sizeOf, typeInfo, hi, Builtin.lenOf, Builtin.firstCells]
  ·simp [Builtin.append_, run_underlying ht, sizeOf, typeInfo, hi, Builtin.lenOf, Builtin.firstCells, hnc, storeCells]
 unfold Oper.wp
 simp [execOp, ho, resolve, invoke, builtin, hs, hx, hrun, Result.andThen]
 exact hK _ _ h
end Go.Pol
namespace Go.Proofs.YtjmmgoijnhnnaaaGreat
open Go Go.Proofs Go.RowKit Go.Pol Go.Shelf
theorem grow_any (n : Nat) (hn : n ≤ 100000) (w : World) :
  Calls Tryz.prog 188 #[.slice none 0 0, .int .i64 n] w fun e w' => ∃ v, e = .returned v ∧ w'.ownsRow w.heap.size 140 2 v 0 (spCells []) ∧ Below w.heap.size w w' := by
 obtain ⟨i0, hi, hz0, hz1, hz2⟩ := infoSp_parts
 by_cases h0 : n = 0
 ·subst h0
  have h := Any8.slices_Grow_room growSp none 0 0 0 w (by omega) (by omega) (by omega) (by omega)
  change Calls Tryz.prog 188 _ _ _ at h
  refine h.mono ?_
  rintro e w' ⟨rfl, rfl⟩
  exact ⟨_, rfl, World.ownsRow_nil _ _ _ _, Below.refl _ _⟩
 ·have h := Any8.slices_Grow_grow growSp i0 (.agg #[.int .i64 0, .int .i64 0]) hi hz0 (by omega) none 0 0 n [] w (by omega) (by omega) (by rw [hz2]; omega) (by omega) (by simp) (fun _ => rfl) (fun a h => by cases h)
  change Calls Tryz.prog 188 _ _ _ at h
  refine h.mono ?_
  rintro e w' ⟨rfl, rfl⟩
  refine ⟨_, rfl, ?_, ?_⟩
  ·exact World.ownsRow_made w.drew _ _ (Nat.le_refl _) (grownCap_le_maxLen _ _ _ _ (by unfold maxLen; omega)) (by
    have hg := grownCap_ge w (0 + n) 0 140
    have e1 : (Value.agg #[.int .i64 0, .int .i64 0]).cells.size = 2 := rfl
    simp only [Array.size_append, size_zeroCells, e1, List.size_toArray, List.length_nil]
    change 0 + (0 + n - 0) * 2 + (grownCap w (0 + n) 0 140 - (0 + n)) * 2 = grownCap w (0 + n) 0 140 * 2
    generalize grownCap w (0 + n) 0 140 = c at *
    omega)
  ·exact ((Below.refl w.heap.size w).drew).alloc (Nat.le_refl _) _
theorem ru_src {w : World} {A : Option Addr} {us : List Sp} (h : RU w w.heap.size A us) : (A = none ∧ us = []) ∨ ∃ ad, A = some ad ∧ ∀ (j : Nat) (u : Value), (spCells us)[j]? = some u → w.cell? (ad.add j) = some u := by
 by_cases h0 : us = []
 ·subst h0
  cases A with
  | none => exact .inl ⟨rfl, rfl⟩
  | some ad => exact .inr ⟨ad, rfl, fun j u hu => by simp [spCells] at hu⟩
 ·obtain ⟨b, o, rfl, _⟩ := RU.at_' h (k := 0) (List.length_pos_iff.2 h0)
  refine .inr ⟨⟨b, o, none⟩, rfl, fun j u hu => ?_⟩
  have hl := spCells_len us
  have hj : j < us.length * 2 := by
   rw [← hl]; exact (List.getElem?_eq_some_iff.1 hu).1
  obtain ⟨k, hk⟩ : ∃ k, j = k * 2 ∨ j = k * 2 + 1 := ⟨j / 2, by omega⟩
  obtain ⟨b', o', e, _, h1, h2⟩ := RU.at_' h (k := k) (by omega)
  cases e
  have hat := spCells_at us k (by omega)
  rw [Addr.add_lit]
  rcases hk with rfl | rfl
  ·rw [hat.1] at hu
   rw [← hu]; exact h1
  ·rw [hat.2] at hu
   rw [← hu]; exact h2
theorem spCells_one (us : List Sp) : ∀ u ∈ spCells us, u.oneCell' = true := by
 intro u hu
 simp only [spCells, List.mem_flatMap, List.mem_cons, List.not_mem_nil, or_false] at hu
 obtain ⟨x, _, rfl | rfl⟩ := hu <;> rfl
theorem spCells_append (us vs : List Sp) : spCells (us ++ vs) = spCells us ++ spCells vs := by simp [spCells]
set_option maxRecDepth 100000 in
set_option maxHeartbeats 1600000 in
theorem concat2C_any (A1 A2 : Option Addr) (n1 c1 n2 c2 : Nat) (us vs : List Sp) (B : Nat) (w : World) (hn1 : us.length = n1) (hm1 : n1 ≤ 50000) (hr1 : RU w w.heap.size A1 us) (hn2 : vs.length = n2) (hm2 : n2 ≤ 50000) (hr2 : RU w w.heap.size A2 vs)
  (kB : Blk w B 41 #[.slice A1 n1 c1, .slice A2 n2 c2]) :
  Calls Tryz.prog 129 #[.slice (some ⟨B, 0, none⟩) 2 2] w fun e w' => ∃ v, e = .returned v ∧ w'.ownsRow w.heap.size 140 2 v (us ++ vs).length (spCells (us ++ vs)) ∧ Below w.heap.size w w' := by
 have z0 := kB.cell
 have h1 := Lib.hid hn1
 have h2 := Lib.hid hn2
 clear hn1 hn2
 go_enter Tryz.func129, Tryz.ntmps129
 go_wp2_with fail
 go_loopw [3, 11] (fun s i wr => wr = w ∧ ((i = .int .i64 0 ∧ s = .int .i64 0) ∨ (i = .int .i64 1 ∧ s = .int .i64 n1) ∨ (i = .int .i64 2 ∧ s = .int .i64 ((n1 : Int) + n2)))) (fun _ i _ => 2 - (intOf i).toNat)
 case atStart => exact ⟨rfl, .inl ⟨rfl, rfl⟩⟩
 case round =>
  obtain ⟨hw, hrel⟩ := hrel
  have hw' := hw.symm
  clear hw
  subst hw'
  rcases hrel with ⟨rfl, rfl⟩ | ⟨rfl, rfl⟩ | ⟨rfl, rfl⟩
  ·go_wp2_with fail
   exact ⟨⟨trivial, by simp⟩, by simp [intOf]⟩
  ·go_wp2_with fail
   exact ⟨⟨trivial, by simp⟩, by simp [intOf]⟩
  ·have HG := Lib.hid (grow_any (n1 + n2) (by omega) w)
   rw [Int.natCast_add] at HG
   go_wp2_with fail
   refine HG.out.mono ?_
   rintro e w1 ⟨v, rfl, hrow, hb1⟩
   have hbs := hb1.size
   obtain ⟨i0, hi, hy0, hy1, hy2⟩ := infoSp_parts
   go_wp2_with fail
   go_loopw [6, 27] (fun v i wq => Below w.heap.size w wq ∧ ((i = .int .i64 0 ∧ wq.ownsRow w.heap.size 140 2 v 0 (spCells [])) ∨ (i = .int .i64 1 ∧ wq.ownsRow w.heap.size 140 2 v n1 (spCells us)) ∨ (i = .int .i64 2 ∧ wq.ownsRow w.heap.size 140 2 v (n1 + n2) (spCells us ++ spCells vs)))) (fun _ i _ => 2 - (intOf i).toNat)
   case atStart => exact ⟨hb1, .inl ⟨rfl, hrow⟩⟩
   case round =>
    obtain ⟨hB, hrel⟩ := hrel
    have kq := kB.call hB
    have zq := kq.cell
    have hBs := hB.size
    rcases hrel with ⟨rfl, hr⟩ | ⟨rfl, hr⟩ | ⟨rfl, hr⟩
    ·have r1q := hr1.on hB
     rcases ru_src r1q with ⟨ha, hu⟩ | ⟨ad, ha, hnews⟩
     ·subst ha; subst hu
      have hn0 : n1 = 0 := by rw [← h1.out]; rfl
      subst hn0
      go_wp2_with (refine wpList_append_own_noneC rfl (.tmp 31) (.tmp 32) 41 rfl w.heap.size 140 i0 2 c1 Tryz.underlying41 hi _ 0 (spCells []) rfl hr rfl ?_)
      exact ⟨⟨_, _, _, _, _, _, _, _, _, _, ⟨hB, .inr (.inl ⟨rfl, hr⟩)⟩, by simp; exact ⟨rfl, rfl, rfl, rfl, rfl, rfl, rfl, rfl⟩⟩, by simp [intOf]⟩
     ·subst ha
      go_wp2_with (refine wpList_append_own _ rfl (.tmp 31) (.tmp 32) 41 rfl w.heap.size 140 i0 (.agg #[.int .i64 0, .int .i64 0]) 2 16 Tryz.underlying41 hi hy0 hy1 hy2 rfl (by decide) _ 0 (spCells []) rfl hr ad n1 c1 (spCells us) rfl (by rw [spCells_len, h1.out]) hnews (spCells_one us) (by unfold maxLen; omega) (by omega) hBs ?_; intro v' w3 hown' hgrow _)
      exact ⟨⟨hB.grown hgrow hBs (fun j hj => (hr.lt j hj).1), .inr (.inl ⟨rfl, by simpa [spCells] using hown'⟩)⟩, by simp [intOf]⟩
    ·have r2q := hr2.on hB
     rcases ru_src r2q with ⟨ha, hu⟩ | ⟨ad, ha, hnews⟩
     ·subst ha; subst hu
      have hn0 : n2 = 0 := by rw [← h2.out]; rfl
      subst hn0
      go_wp2_with (refine wpList_append_own_noneC rfl (.tmp 31) (.tmp 32) 41 rfl w.heap.size 140 i0 2 c2 Tryz.underlying41 hi _ n1 (spCells us) rfl hr rfl ?_)
      exact ⟨⟨_, _, _, _, _, _, _, _, _, _, ⟨hB, .inr (.inr ⟨rfl, by simpa [spCells] using hr⟩)⟩, by simp; exact ⟨rfl, rfl, rfl, rfl, rfl, rfl, rfl, rfl⟩⟩, by simp [intOf]⟩
     ·subst ha
      go_wp2_with (refine wpList_append_own _ rfl (.tmp 31) (.tmp 32) 41 rfl w.heap.size 140 i0 (.agg #[.int .i64 0, .int .i64 0]) 2 16 Tryz.underlying41 hi hy0 hy1 hy2 rfl (by decide) _ n1 (spCells us) rfl hr ad n2 c2 (spCells vs) rfl (by rw [spCells_len, h2.out]) hnews (spCells_one vs) (by unfold maxLen; omega) (by omega) hBs ?_; intro v' w3 hown' hgrow _)
      exact ⟨⟨hB.grown hgrow hBs (fun j hj => (hr.lt j hj).1), .inr (.inr ⟨rfl, hown'⟩)⟩, by simp [intOf]⟩
    ·go_wp2_with fail
     go_ret
     exact ⟨_, rfl, by rw [spCells_append, List.length_append, h1.out, h2.out]; exact hr, hB⟩
set_option maxHeartbeats 800000 in
theorem clone_any (A : Option Addr) (n cap : Nat) (us : List Sp) (w : World) (hn : us.length = n) (hm : n ≤ 1000000) (hr : RU w w.heap.size A us) :
  Calls Tryz.prog 66 #[.slice A n cap] w fun e w' => ∃ v, e = .returned v ∧ w'.ownsRow w.heap.size 140 2 v n (spCells us) ∧ Below w.heap.size w w' := by
 obtain ⟨i0, hi, hy0, hy1, hy2⟩ := infoSp_parts
 have h1 := Lib.hid hn
 clear hn
 have q36 : ∀ (w : World) (a : Option Addr) (n c n' c' : Nat), (binOp .eql 41 (.slice a n c) (.slice none n' c')).run Tryz.prog w = .ok (.bool a.isNone) w := fun w a n c n' c' => Lib.run_eql_slice_nil w _ _ a n c n' c' Tryz.underlying41
 have hb0 := (Below.refl w.heap.size w).alloc (Nat.le_refl _) (.cells #[] 140)
 have hsrc := ru_src (hr.on ((Below.refl w.heap.size w).alloc (Nat.le_refl _) (.cells #[] 140)))
 have hown : (w.alloc (.cells #[] 140)).ownsRow w.heap.size 140 2 (.slice (some ⟨w.heap.size, 0, none⟩) 0 0) 0 [] := World.ownsRow_made w #[] 0 (Nat.le_refl _) (Nat.zero_le _) (by simp)
 rcases hsrc with ⟨rfl, rfl⟩ | ⟨ad, rfl, hnews⟩
 ·have hn0 : n = 0 := h1.out.symm
  subst hn0
  go_enter Tryz.func66, Tryz.ntmps66
  go_wp2_with fail
  go_ret
  exact ⟨_, rfl, World.ownsRow_nil _ _ _ _, Below.refl _ _⟩
 ·go_enter Tryz.func66, Tryz.ntmps66
  go_wp2_with (refine wpList_append_own _ rfl (.tmp 5) (.tmp 6) 41 rfl w.heap.size 140 i0 (.agg #[.int .i64 0, .int .i64 0]) 2 16 Tryz.underlying41 hi hy0 hy1 hy2 rfl (by decide) _ 0 [] rfl hown ad n cap (spCells us) rfl (by rw [spCells_len, h1.out]) hnews (spCells_one us) (by unfold maxLen; omega) (by omega) (by simp) ?_; intro v' w3 hown' hgrow _)
  go_ret
  rw [Nat.zero_add, List.nil_append] at hown'
  exact ⟨_, rfl, hown', hb0.grown hgrow (by simp) (fun j hj => (hown.lt j hj).1)⟩
set_option maxHeartbeats 800000 in
theorem ofTop_any (A : Option Addr) (n cap : Nat) (us : List Sp) (w : World) (hn : us.length = n) (hm : n ≤ maxLen) (hr : RU w w.heap.size A us) :
  Calls Tryz.prog 131 #[.slice A n cap] w (SpansOwn w (if ofE us = 0 then setOf us else []) (ofE us)) := by
 have HC := Lib.hid (containsFunc_any A n cap us w hn hm hr)
 by_cases hlen : 2000 < n
 ·have hlen' : decide (2000 < (n : Int)) = true := by simp; omega
  have hE : ofE us = 3 := by unfold ofE; rw [if_pos (by omega)]
  rw [hE, if_neg (by decide)]
  clear hE
  go_enter Tryz.func131, Tryz.ntmps131
  go_wp2_with fail
  go_ret2
  exact ⟨none, 0, rfl, RU.nil, by simp, by unfold maxLen; omega, fun b o e => (by cases e), Below.refl _ _, fun _ => rfl⟩
 have hlen' : decide (2000 < (n : Int)) = false := by simp; omega
 by_cases hall : us.all vld = true
 ·have hE : ofE us = 0 := by unfold ofE; rw [if_neg (by omega), if_pos hall]
  have hv := (ofE_zero hE).2
  rw [hE, if_pos rfl]
  rw [hall] at HC
  have HK := Lib.hid (fun W h => clone_any A n cap us W hn (by omega) h)
  have HO := Lib.hid (fun base v W (h1 : base ≤ W.heap.size) (h2 : W.ownsRow base 140 2 v us.length (spCells us)) => of'_any base v us W hv (by omega) h1 h2)
  have hS := Lib.hid (fun (us' : List Sp) (h1 : us'.Perm us) h2 => ofF_setOf hv h1 h2)
  rw [hn] at HO
  clear hE hall hv hn
  go_enter Tryz.func131, Tryz.ntmps131
  go_wp2_with fail
  refine HC.out.mono ?_
  rintro e w1 ⟨rfl, hb1⟩
  go_wp2_with fail
  refine (HK.out _ (hr.on hb1)).mono ?_
  rintro e w2 ⟨v, rfl, hrow, hb2⟩
  have B2 := hb1.trans (hb2.mono hb1.size)
  go_wp2_with fail
  refine (HO.out _ _ _ hb2.size hrow).mono ?_
  rintro e w3 ⟨us', v', hp, hs, rfl, hrow3, hb3⟩
  rw [hS.out us' hp hs] at hrow3
  obtain ⟨A3, cap3, rfl, hru, h1, h2, h3, _⟩ := own_RU hrow3 rfl
  go_wp2_with fail
  go_ret2
  exact ⟨A3, cap3, rfl, hru, h1, h2, fun b o e => by have := h3 b o e; have := B2.size; omega, B2.trans (hb3.mono hb1.size), own_cap hrow3⟩
 ·have hE : ofE us = 7 := by unfold ofE; rw [if_neg (by omega), if_neg hall]
  have hall' : us.all vld = false := by simpa using hall
  rw [hE, if_neg (by decide)]
  rw [hall'] at HC
  clear hE hall hall'
  go_enter Tryz.func131, Tryz.ntmps131
  go_wp2_with fail
  refine HC.out.mono ?_
  rintro e w1 ⟨rfl, hb1⟩
  go_wp2_with fail
  go_ret2
  exact ⟨none, 0, rfl, RU.nil, by simp, by unfold maxLen; omega, fun b o e => (by cases e), hb1, fun _ => rfl⟩
end Go.Proofs.YtjmmgoijnhnnaaaGreat
namespace Go.Proofs.YtjmmgoijnhnnaaaGreat
open Go Go.Proofs Go.RowKit Go.Pol Go.Shelf
attribute [local go_sem] Oper.semAt_some Go.Pol.wide_fn Go.Pol.wide_depth Go.Pol.wide_fn' Go.Pol.wide_depth'
set_option maxRecDepth 100000 in
set_option maxHeartbeats 1600000 in
theorem countS_any (A : Option Addr) (n cap : Nat) (us : List Sp) (w : World) (hn : us.length = n) (hm : n ≤ maxLen) (hr : RU w w.heap.size A us) :
  Calls Tryz.prog 53 #[.slice A n cap] w fun e w' => e = .returned (.tuple #[.int .i64 (if chkS us = 0 then sumS us else 0), .int .i64 (chkS us)]) ∧ Below w.heap.size w w' := by
 have HC := Lib.hid (spCheck_any A n cap us w hn hm hr)
 by_cases hc : chkS us = 0
 case neg =>
  rw [if_neg hc]
  generalize chkS us = er at *
  have hc' : (er != 0) = true := by simpa using hc
  clear hc
  go_enter Tryz.func53, Tryz.ntmps53
  go_wp2_with fail
  refine HC.out.mono ?_
  rintro e w1 ⟨rfl, hb1⟩
  go_wp2_with fail
  go_ret2
  exact ⟨rfl, hb1⟩
 case pos =>
  have hcan := chkS_zero.1 hc
  rw [hc, if_pos rfl]
  rw [hc] at HC
  have hlen := hcan.len
  have hv := Lib.hid hcan.1
  have hn' := Lib.hid hn
  obtain ⟨S, hS⟩ : ∃ S, sumS us = S := ⟨_, rfl⟩
  rw [hS]
  have hS' := Lib.hid hS
  have hn512 : n ≤ 512 := by omega
  clear hcan hc hS hn
  go_enter Tryz.func53, Tryz.ntmps53
  go_wp2_with fail
  refine HC.out.mono ?_
  rintro e w1 ⟨rfl, hb1⟩
  go_wp2_with fail
  go_loopw [5, 15] (fun sm i wr => ∃ (k : Nat) (z : Int), k ≤ n ∧ i = .int .i64 k ∧ sm = .int .i64 z ∧ 0 ≤ z ∧ z ≤ 1024 * k ∧ Hid (z = sumS (us.take k)) ∧ Below w.heap.size w wr) (fun _ i _ => n - (intOf i).toNat)
  case atStart => exact ⟨0, 0, by omega, rfl, rfl, by omega, by omega, Lib.hid (by simp [sumS]), hb1⟩
  case round =>
   obtain ⟨k, z, hk, rfl, rfl, hz0, hz1, hz, hB⟩ := hrel
   by_cases hlt : k < n
   ·have hlt' : decide ((k : Int) < (n : Int)) = true := by simpa using hlt
    obtain ⟨b, o, rfl, hbl, hc, hd⟩ := RU.at_' (hr.below hB) (k := k) (by have := hn'.out; omega)
    have hvx := vld_iff.1 (hv.out (us.getD k (0,0)) (by rw [List.getD_eq_getElem?_getD, List.getElem?_eq_getElem (by have := hn'.out; omega)]; simp))
    have hst := Lib.hid (show z + (us.getD k (0,0)).2 = sumS (us.take (k + 1)) by rw [take_snoc us k (by have := hn'.out; omega), sumS_snoc, hz.out])
    generalize us.getD k (0,0) = x at *
    obtain ⟨xa, xb⟩ := x
    dsimp only at hc hd hvx hst
    go_wp2_with fail
    go_roundw
    case rel => exact ⟨k + 1, z + xb, by omega, by go_num, by go_num, by omega, by omega, hst, (hB.alloc hB.size _)⟩
    case measure => simp [intOf]; omega
   ·have hlt' : decide ((k : Int) < (n : Int)) = false := by simp; omega
    have hE : Hid (S = z) := Lib.hid (by rw [hz.out, List.take_of_length_le (by have := hn'.out; omega)]; exact hS'.out.symm)
    go_wp2_with fail
    go_ret2
    rw [hE.out]
    exact ⟨rfl, hB⟩
end Go.Proofs.YtjmmgoijnhnnaaaGreat
namespace Go.Pol
open Go Go.RowKit
def SeqY {α : Type} (P : Program) (g : Nat) (lb : Array Value) (encs : α → Array Value) (T K : Nat → Prop) (xs : List α) (w : World) : Prop :=
 ∀ (n l : Nat) (J Jx : (Nat → Prop) → List α → World → Prop) (W : World), Far (fun k => ¬ K k) w W →
  (∀ X pre A B, J X pre A → Far (fun k => T k ∨ X k) A B → J X pre B) → (∀ X pre A B, Jx X pre A → Far (fun k => T k ∨ X k) A B → Jx X pre B) →
  (∀ X X' pre A, J X pre A → (∀ k, X' k → X k ∨ A.heap.size ≤ k) → J X' pre A) →
  (∀ m X pre x W1, J X pre W1 → (∀ k, X k → k < W1.heap.size) → pre ++ [x] <+: xs → YieldAt Fence.wide m P l (encs x) W1 fun e W' =>
   (e = .returned (.bool true) ∧ J X (pre ++ [x]) W' ∧ Far (fun k => ¬ (K k ∨ X k)) W1 W') ∨ (e = .returned (.bool false) ∧ Jx X (pre ++ [x]) W' ∧ Far (fun k => ¬ (K k ∨ X k)) W1 W')) →
  J (fun _ => False) [] W →
  CallsIn Fence.wide n P g (#[.func (.yield l) #[] #[]] ++ lb) W fun e W' => (∃ v, e = .returned v) ∧ ((∃ X, J X xs W') ∨ ∃ X pre, pre <+: xs ∧ Jx X pre W')
theorem cntN_or {f g : Int → Bool} : ∀ (k : Nat) (a : Int), (∀ q, f q = true → g q = true → False) → cntN (fun q => f q || g q) k a = cntN f k a + cntN g k a
 | 0, _, _ => rfl
 | k + 1, a, h => by
  rw [cntN, cntN, cntN, cntN_or k (a + 1) h]
  cases hf : f a with
  | true =>
   cases hg : g a with
   | true => exact (h a hf hg).elim
   | false => simp; omega
  | false =>
   cases hg : g a with
   | true => simp; omega
   | false => simp
theorem wpOpIn_round {P : Program} {ops : Array Oper} {Q : Exit → Act → World → Prop} {l m i : Nat} {K : Act → World → Prop} {a : Act} {w : World} (hd : ∀ o : Oper, ops[i]? = some o → ∀ c, o.op ≠ .defer c) (hno : ¬ LetsOut Q)
  (h : wpOp P ops Q i K a w) : wpOpIn (Fence.wide.inRound l) m P ops Q i K a w := by
 unfold wpOp at h
 unfold wpOpIn
 split
 ·rename_i ho; simpa only [ho] using h
 ·rename_i o ho
  simp only [ho] at h
  split
  ·rename_i hw
   simp only [hw, if_true] at h
   rcases h with h | ⟨_, h⟩
   ·unfold Oper.wpIn
    refine ⟨fun _ _ => trivial, ?_⟩
    rw [Fence.inRound_round, Oper.semAt_some l _ _ (hd o ho)]
    unfold Oper.wp at h
    generalize (execOp a.eval o).run P w = r at *
    cases r with
    | ok x w' =>
     cases x <;> simp only [Oper.upon, Oper.uponIn] at h ⊢ <;> first
      | exact h
      | exact ⟨fun h0 => (by cases h0), (CallsIn.inRound l (callsIn_wide.2 h)).mono fun e w'' he => by cases e <;> exact he⟩
      | exact ⟨fun h0 => (by cases h0), fun c cs _ => let ⟨v, w'', r, s⟩ := h c cs; ⟨v, w'', r, stepsIn_wide.2 s⟩⟩
    | halt x w' => cases x <;> simp only [Oper.upon, Oper.uponIn] at h ⊢ <;> exact h
   ·exact absurd h hno
  ·rename_i hw
   simp only [hw] at h
   exact ⟨fun _ _ => trivial, h⟩
theorem wpAnyIn_round {P : Program} {ops : Array Oper} {Q : Exit → Act → World → Prop} {md : Region.Mode} {l m : Nat} (hd : ∀ (i : Nat) (o : Oper), ops[i]? = some o → ∀ c, o.op ≠ .defer c) (hno : ¬ LetsOut Q) :
  ∀ (fuel : Nat) (listed : Array Bool) (a : Act) (w : World), wpAny P md ops Q fuel listed a w → wpAnyIn (Fence.wide.inRound l) m P md ops Q fuel listed a w
 | 0, _, _, _, h => h
 | fuel + 1, _, _, _, h => ⟨h.1, fun i hi => wpOpIn_mono (fun a w h => wpAnyIn_round hd hno fuel _ a w h) (wpOpIn_round (hd i) hno (h.2 i hi))⟩
def noDefer (ops : Array Oper) : Bool := ops.all fun o => match o.op with
 | .defer _ => false
 | _ => true
theorem noDefer_spec {ops : Array Oper} (h : noDefer ops = true) (i : Nat) (o : Oper) (ho : ops[i]? = some o) (c : Call) : o.op ≠ .defer c := fun e => by
 have := (Array.all_eq_true_iff_forall_mem.1 h) o (Array.mem_of_getElem? ho)
 rw [e] at this
 cases this
theorem wpIn_region_T {P : Program} {ops : Array Oper} {Q : Exit → Act → World → Prop} {id l m : Nat} {a : Act} {w : World} (S : World → Prop) (tl : List Nat) (hm : P.follows .mixedOrders = true) (hd : noDefer ops = true) (hno : ¬ LetsOut Q)
  (h : wpAnyT P .any ops Q S tl ops.size (Array.replicate ops.size false) a w.drew) : (Code.region id ops true).wpIn (Fence.wide.inRound l) m P Q a w :=
 wpIn_region_any hm (wpAnyIn_round (noDefer_spec hd) hno _ _ _ _ (wpAny_of_T _ _ _ _ h))
theorem wpIn_noPanic {F : Fence} {m : Nat} {P : Program} {c : Code} {Q : Exit → Act → World → Prop} {a : Act} {w : World} (h : c.wpIn F m P (noPanic Q) a w) : c.wpIn F m P Q a w :=
 wpIn_mono h (fun e a w h => by cases e <;> first | exact h.elim | exact h)
section
variable {P : Program}
theorem region_tail_round {id lr m : Nat} {Q : Exit → Act → World → Prop} {a : Act} {w : World} {l : List Oper} (n : Nat) (hm : P.follows .mixedOrders = true) (hd : noDefer l.toArray = true) (hno : ¬ LetsOut Q) (hB : Region.lexTailB .any l.toArray n = true)
  (h : wpQuiet P l.toArray (fun w' => ∃ x : Ext w, w' = x.w) (fun a' => ∀ x : Ext w, wpList P l.toArray Q (l.drop n) a' x.w) (l.take n) a) : (Code.region id l.toArray true).wpIn (Fence.wide.inRound lr) m P Q a w := by
 simp only [Region.lexTailB, Bool.and_eq_true, decide_eq_true_eq] at hB
 obtain ⟨⟨⟨⟨hsel, hn⟩, hs⟩, hc⟩, hlex⟩ := hB
 have hn' : n < l.length := by simpa using hn
 have htl : (l.take n).length = n := by simp; omega
 have hdl : (l.drop n).length = l.toArray.size - n := by simp
 have inv0 : HeadInv .any l.toArray n (Array.replicate l.toArray.size false) :=
  ⟨by simp, fun j oj _ hl => (by rw [getD_replicate_false] at hl; cases hl), fun t _ ht => getD_in (by simpa using ht) (getD_replicate_false _ _)⟩
 have H := headQ_lex (md := .any) (g := l.toArray.size - n) hsel hs hc hn (l.take n) 0 _ a (fun j hj => by
  have hj' : j < n := by rw [htl] at hj; exact hj
  simp [hj']) (by simpa using htl) inv0 (by rw [htl]; exact hlex) h
 refine wpIn_region_any hm (wpAnyIn_round (noDefer_spec hd) hno _ _ _ _ ?_)
 have := wpAny_of_headQ (Q' := Q) (g := l.toArray.size - n) (fun listed a' w' hw' hL => by
  obtain ⟨x, rfl⟩ := hw'
  have := wpAny_of_seq (md := .any) (Q' := Q) (l.drop n) n listed a' x.w (fun j => by simp [List.getElem?_drop]) (by rw [hdl]; exact hL.1) (hL.2 x)
  rwa [hdl] at this) _ _ _ _ (⟨⟨_, (Below.refl _ w).drew⟩, rfl⟩ : ∃ x : Ext w, ({ w with drawn := w.drawn + 1 } : World) = x.w) H
 rw [htl, show n + (l.toArray.size - n) = l.toArray.size by omega] at this
 exact this
end
end Go.Pol
namespace Go.Proofs.YtjmmgoijnhnnaaaGreat
open Go Go.Proofs Go.RowKit Go.Pol Go.Shelf
attribute [local go_sem] Oper.semAt_some Go.Pol.wide_fn Go.Pol.wide_depth Go.Pol.wide_fn' Go.Pol.wide_depth'
set_option maxRecDepth 100000 in
set_option maxHeartbeats 1600000 in
theorem askG_any (b : Nat) (pg n f bk ev : Int) (V : Vm) (w : World) (hV : SysIs w b V) (hK : KindOk V) :
  Calls Tryz.prog 134 #[.pointer (some ⟨b, 0, none⟩), planV pg n f bk ev] w (SpansOwn w (guardsF pg n f bk ev) (chkG pg n f bk ev)) := by
 have hb0 := (Below.refl w.heap.size w).alloc (Nat.le_refl _) (.cells (planC pg n f bk ev) 25)
 have k0 := Blk.new w 25 (planC pg n f bk ev)
 have HC := Lib.hid (fun W h => counts_any b V W h hK)
 have HG := Lib.hid (fun W => guards_own pg n f bk ev W)
 have V0 := hV.call hb0
 obtain ⟨s, hs⟩ : ∃ s, w.heap.size = s := ⟨_, rfl⟩
 rw [hs] at k0
 generalize chkG pg n f bk ev = er at *
 generalize guardsF pg n f bk ev = G at *
 unfold SpansOwn at HG
 clear hV hK
 go_enter Tryz.func134, Tryz.ntmps134
 go_upto_region 1 with fail
 generalize w.alloc _ = w0 at *
 go_wp2_with fail
 refine (HC.out _ V0).mono ?_
 rintro e w1 ⟨⟨cs, hcs, rfl⟩, hb1⟩
 obtain ⟨q, hq⟩ : ∃ q, w1.heap.size = q := ⟨_, rfl⟩
 have hsz := hcs.size
 have kz := Blk.new w1 106 #[.int .i64 0, .int .i64 0, .int .i64 0, .int .i64 0, .int .i64 0]
 rw [hq] at kz
 have ht : (w1.alloc (.cells #[.int .i64 0, .int .i64 0, .int .i64 0, .int .i64 0, .int .i64 0] 106)).there q 0 cs.size := by rw [hsz]; exact z_there kz 0 5 (by simp)
 have hF2 := Far.puts (T := fun k => k = q) rfl cs.toList 0 w1 _ ((Far.refl _ w1).alloc (.cells #[.int .i64 0, .int .i64 0, .int .i64 0, .int .i64 0, .int .i64 0] 106))
 have hone := Go.all_oneCell_toArray (hcs.one)
 rw [Array.toArray_toList] at hone
 have hinf : (Tryz.prog.info? 106).map (·.size) = some cs.size := by rw [hsz]; exact infoVc
 clear kz HC V0
 go_upto_region 2 with (refine wpList_store_mid rfl 106 (.tmp 6) (.tmp 11) rfl q 0 cs rfl rfl ht hinf hone ?_)
 generalize World.setCells _ q 0 _ = w2 at *
 have hb2 := hF2.below (n := w1.heap.size) (Nat.le_refl _) (fun k hk e => by omega)
 have hb12 := hb1.trans (hb2.mono hb1.size)
 have B2 := hb0.trans (hb12.mono hb0.size)
 have k2 := k0.call hb12
 have c2 := k2.cell
 clear hF2 ht hone hinf hcs hsz hb1 hb2 hb12 k0
 go_wp2_with fail
 refine (HG.out _).mono ?_
 rintro e w3 ⟨A, c, rfl, g1, g2, g3, g4, g5, g6⟩
 have B3 := B2.trans (g5.mono B2.size)
 have hsz2 := B2.size
 clear HG c2 k2
 go_wp2_with fail
 go_ret2
 exact ⟨A, c, rfl, g1, g2, g3, fun x o e => by have := g4 x o e; omega, B3, g6⟩
theorem ru_one {w : World} {g : Nat} {t : TypeId} {a b : Int} (h : Blk w g t #[.int .i64 a, .int .i64 b]) : RU w w.heap.size (some ⟨g, 0, none⟩) [(a, b)] := fun k hk => by
 obtain rfl : k = 0 := by simp at hk; omega
 exact ⟨g, 0, rfl, h.lt, h.cell 0, h.cell 1⟩
end Go.Proofs.YtjmmgoijnhnnaaaGreat
namespace Go.Pol
open Go Go.RowKit
def SpanSys (b : Nat) (r : List Sp × Int × Vm) (w : World) (e : Ending) (w' : World) : Prop :=
 ∃ (A : Option Addr) (cap : Nat), e = .returned (.tuple #[.slice A r.1.length cap, .int .i64 r.2.1]) ∧ RU w' w'.heap.size A r.1 ∧ (∀ g o, A = some ⟨g, o, none⟩ → w.heap.size ≤ g) ∧ r.1.length ≤ maxLen ∧ SysIs w' b r.2.2 ∧ Far (fun k => k = b) w w'
def ErS (g : Nat) (x : Int) (W : World) : Prop := W.cell? ⟨g, 0, none⟩ = some (.int .i64 x) ∧ True
end Go.Pol
namespace Go.Proofs.YtjmmgoijnhnnaaaGreat
open Go Go.Proofs Go.RowKit Go.Pol Go.Shelf
attribute [local go_sem] Oper.semAt_some Go.Pol.wide_fn Go.Pol.wide_depth Go.Pol.wide_fn' Go.Pol.wide_depth'
theorem guardsF_len (pg n f bk ev : Int) : (guardsF pg n f bk ev).length ≤ 512 := by
 by_cases h : chkG pg n f bk ev = 0
 ·exact (guards_set (chkG_zero.1 h)).1.len
 ·unfold guardsF; rw [if_neg h]; exact Nat.zero_le _
theorem place_boxes (p : Value) (C : Array Value) (w : World) : ∃ w0 : World, w0 = (((w.alloc (.cells #[p] 44)).alloc (.cells C 25)).alloc (.cells #[.slice none 0 0] 41)).alloc (.cells #[.int .i64 0] 36) ∧
  w0.heap.size = w.heap.size + 4 ∧ Below w.heap.size w w0 ∧ Blk w0 w.heap.size 44 #[p] ∧ Blk w0 (w.heap.size + 1) 25 C ∧ Blk w0 (w.heap.size + 2) 41 #[.slice none 0 0] ∧ Blk w0 (w.heap.size + 3) 36 #[.int .i64 0] := by
 have e1 := World.size_alloc w (.cells #[p] 44)
 have e2 := World.size_alloc (w.alloc (.cells #[p] 44)) (.cells C 25)
 have e3 := World.size_alloc ((w.alloc (.cells #[p] 44)).alloc (.cells C 25)) (.cells #[.slice none 0 0] 41)
 have e4 := World.size_alloc (((w.alloc (.cells #[p] 44)).alloc (.cells C 25)).alloc (.cells #[.slice none 0 0] 41)) (.cells #[.int .i64 0] 36)
 have k1 := ((Blk.new w 44 #[p]).alloc (.cells C 25)).alloc (.cells #[.slice none 0 0] 41) |>.alloc (.cells #[.int .i64 0] 36)
 have k2 := ((Blk.new (w.alloc (.cells #[p] 44)) 25 C).alloc (.cells #[.slice none 0 0] 41)).alloc (.cells #[.int .i64 0] 36)
 have k3 := (Blk.new ((w.alloc (.cells #[p] 44)).alloc (.cells C 25)) 41 #[.slice none 0 0]).alloc (.cells #[.int .i64 0] 36)
 have k4 := Blk.new (((w.alloc (.cells #[p] 44)).alloc (.cells C 25)).alloc (.cells #[.slice none 0 0] 41)) 36 #[.int .i64 0]
 have hb := ((((Below.refl w.heap.size w).alloc (Nat.le_refl _) (.cells #[p] 44)).alloc (by omega) (.cells C 25)).alloc (by omega) (.cells #[.slice none 0 0] 41)).alloc (by omega) (.cells #[.int .i64 0] 36)
 rw [e1] at k2
 rw [e2, e1] at k3
 rw [e3, e2, e1] at k4
 exact ⟨_, rfl, by omega, hb, k1, k2, k3, k4⟩
end Go.Proofs.YtjmmgoijnhnnaaaGreat
namespace Go.Pol
open Go Go.RowKit
theorem leaves_inv {P : Program} {fn : Func} {tmps : Array Value} {R : Ending → World → Prop} (I : List Deferred → World → Prop)
  (hfin : ∀ w, I [] w → ∃ v, (results fn tmps).run P w = .ok v w ∧ R (.returned v) w)
  (hstep : ∀ d ds w, I (d :: ds) w → ∃ fv cap f args, d.target = .fn fv cap ∧ (invoke d.target d.args).run P w = .ok (.enter f args) w ∧ CallsD P f args .returning w (fun e u' w' => u' = .returning ∧ ((∃ v, e = .returned v) ∧ I ds w'))) :
  ∀ ds w, I ds w → Leaves P fn tmps R ds .returning w
 | [], w, h => hfin w h
 | d :: ds, w, h => by
  obtain ⟨fv, cap, f, args, ht, hi, hc⟩ := hstep d ds w h
  refine ⟨by simp, fv, cap, f, args, ht, hi, hc.mono ?_⟩
  rintro e u' w' ⟨rfl, ⟨v, rfl⟩, hI⟩
  exact leaves_inv I hfin hstep ds w' hI
end Go.Pol
namespace Go.Proofs.YtjmmgoijnhnnaaaGreat
open Go Go.Proofs Go.RowKit Go.Pol Go.Shelf
attribute [local go_sem] Oper.semAt_some Go.Pol.wide_fn Go.Pol.wide_depth Go.Pol.wide_fn' Go.Pol.wide_depth'
set_option maxRecDepth 100000 in
set_option maxHeartbeats 800000 in
theorem place1Ok_any (p0 p1 p2 p3 : Nat) (w : World) (k0 : Blk w p0 36 #[.int .i64 0]) :
  CallsD Tryz.prog 135 #[.pointer (some ⟨p0, 0, none⟩), .pointer (some ⟨p1, 0, none⟩), .pointer (some ⟨p2, 0, none⟩), .pointer (some ⟨p3, 0, none⟩)] .returning w fun e u' w' => u' = .returning ∧ ((∃ v, e = .returned v) ∧ w' = w) := by
 have c0 := k0.cell
 go_enter_d Tryz.func135, Tryz.ntmps135
 go_wp2_with fail
 exact ⟨rfl, _, by simp [results, Tryz.results135, go_sem]; rfl, ⟨_, rfl⟩, rfl⟩
set_option maxRecDepth 100000 in
set_option maxHeartbeats 800000 in
theorem place1Un_any (b p0 p1 p2 p3 : Nat) (er xa xb : Int) (V : Vm) (w : World) (hV : SysIs w b V) (he : er ≠ 0) (k0 : Blk w p0 36 #[.int .i64 er]) (k1 : Blk w p1 44 #[.pointer (some ⟨b, 0, none⟩)]) (k2 : Blk w p2 140 #[.int .i64 xa, .int .i64 xb])
  (h0 : (bec V xa xb 4 3 1).1 = 0) :
  CallsD Tryz.prog 135 #[.pointer (some ⟨p0, 0, none⟩), .pointer (some ⟨p1, 0, none⟩), .pointer (some ⟨p2, 0, none⟩), .pointer (some ⟨p3, 0, none⟩)] .returning w fun e u' w' => u' = .returning ∧ ((∃ v, e = .returned v) ∧ SysTo b (bec V xa xb 4 3 1).2 w w') := by
 have c0 := k0.cell
 have c1 := k1.cell
 have c2 := k2.cell
 have he' : (er != 0) = true := by simpa using he
 have HD := Lib.hid (unguard_any b xa xb V w hV)
 rw [h0] at HD
 generalize (bec V xa xb 4 3 1).2 = J at *
 clear he hV h0
 go_enter_d Tryz.func135, Tryz.ntmps135
 go_wp2_with fail
 refine HD.out.mono ?_
 rintro e w1 ⟨rfl, hS⟩
 clear HD
 go_wp2_with fail
 exact ⟨rfl, _, by simp [results, Tryz.results135, go_sem]; rfl, ⟨_, rfl⟩, hS⟩
set_option maxRecDepth 100000 in
set_option maxHeartbeats 1600000 in
theorem insNil_any (base g : Nat) (xa xb : Int) (w : World) (k : Blk w g 140 #[.int .i64 xa, .int .i64 xb]) (hb : base ≤ w.heap.size) :
  Calls Tryz.prog 136 #[.slice none 0 0, .int .i64 0, .slice (some ⟨g, 0, none⟩) 1 1] w fun e w' => ∃ v, e = .returned v ∧ w'.ownsRow base 140 2 v 1 [.int .i64 xa, .int .i64 xb] ∧ Below w.heap.size w w' := by
 obtain ⟨j0, hj, hy0, hy1, hy2⟩ := infoSp_parts
 have hrow := World.ownsRow_nil w base 140 2
 go_enter Tryz.func136, Tryz.ntmps136
 go_wp2_with (refine wpList_append_own _ rfl (.tmp 23) (.tmp 24) 41 rfl base 140 j0 (.agg #[.int .i64 0, .int .i64 0]) 2 16 Tryz.underlying41 hj hy0 hy1 hy2 rfl (by decide) _ 0 [] rfl hrow ⟨g, 0, none⟩ 1 1 [.int .i64 xa, .int .i64 xb] rfl rfl (news_two k) news_one2 (by unfold maxLen; omega) (by omega) hb ?_; intro v' w7 hown' hgrow _)
 go_ret
 exact ⟨v', rfl, by simpa using hown', (Below.refl _ _).grown hgrow (Nat.le_refl _) (fun j hj => by cases hj)⟩
end Go.Proofs.YtjmmgoijnhnnaaaGreat
namespace Go.Pol
open Go Go.RowKit
theorem run_copy_rowN {P : Program} (w : World) (dT sT ty elem : TypeId) (sz g o dLen dCap : Nat) (a : Addr) (sLen sCap m : Nat) (cur : Array Value) (t : TypeId) (cs : List Value)
  (hu : P.underlying dT = some (.slice elem)) (hs : (P.info? elem).map (·.size) = some sz)
  (hg : w.heap[g]? = some (.cells cur t (0, 0))) (hm : Nat.min sLen dLen = m) (hn : cs.length = m * sz)
  (hsrc : ∀ j v, cs[j]? = some v → w.cell? (a.add j) = some v) (hfit : o + cs.length ≤ cur.size) (h1 : ∀ v ∈ cs, v.oneCell' = true) :
  (Builtin.copy_ #[dT, sT] ty #[.slice (some ⟨g, o, none⟩) dLen dCap, .slice (some a) sLen sCap]).run P w =
   .ok (goInt m) (w.setRow g (cur.toList.take o ++ cs ++ cur.toList.drop (o + cs.length)).toArray) := by
 have hl := run_loadCells_list (P := P) w a cs hsrc
 have hst := run_storeCells_at P g o t cs 0 cur w hg (by simpa using hfit) h1
 cases hq : P.info? elem with
 | none => simp [hq] at hs
 | some i =>
  have hi : i.size = sz := by simpa [hq] using hs
  simp [Builtin.copy_, run_underlying hu, Builtin.lenOf, Builtin.firstCells, sizeOf, typeInfo, hq, hi, hm, ← hn, hl, hst]
end Go.Pol
namespace Go.Proofs.YtjmmgoijnhnnaaaGreat
open Go Go.Proofs Go.RowKit Go.Pol Go.Shelf
attribute [local go_sem] Oper.semAt_some Go.Pol.wide_fn Go.Pol.wide_depth Go.Pol.wide_fn' Go.Pol.wide_depth'
theorem appZ (ad : Addr) (n c : Nat) (hc : c < n + 1) (hn : n ≤ 512) (ty : TypeId) (w : World) :
  (Builtin.append_ #[41, 3] ty #[.slice (some ad) 0 c, .int .i64 ((n + 1 : Nat) : Int)]).run Tryz.prog w =
   .ok (.slice (some ⟨w.heap.size, 0, none⟩) (n + 1) (grownCap w (n + 1) c 140)) (w.drew.alloc (.cells (#[] ++ Builtin.zeroCells #[.int .i64 0, .int .i64 0] (n + 1) ++ Builtin.zeroCells #[.int .i64 0, .int .i64 0] (grownCap w (n + 1) c 140 - (n + 1))) 140)) := by
 obtain ⟨j0, hj, hy0, hy1, hy2⟩ := infoSp_parts
 have h := Lib.run_append_grow_zeros (P := Tryz.prog) w 41 3 ty 140 j0 _ .i64 .i64 Tryz.underlying41 Tryz.underlying3 hj hy0 (some ad) 0 c [] (by
  rw [hy1]
  exact run_firstCells_some w.drew 2 0 ad 0 c [] rfl (fun j v hv => by cases hv)) (n + 1) (by omega) (by omega) (by omega) (by omega) (by rw [hy2]; omega) (by rw [hy2]; exact growslice_fits_wide (by omega) (by omega))
 rw [Nat.zero_add] at h
 exact h
end Go.Proofs.YtjmmgoijnhnnaaaGreat
namespace Go.Pol
open Go Go.RowKit
theorem step_copy_runW {P : Program} {ops : Array Oper} {o : Oper} {a : Act} {w : World} {K : Act → World → Prop} {Q : Exit → Act → World → Prop} {E : Prop}
  (hg : o.guard = none) (d x : Operand) (dT sT : TypeId) (hop : o.op = Op.call { callee := Callee.builtin Builtin.copy, args := #[d, x], argTypes := #[dT, sT] })
  (v u : Value) (hd : a.eval d = v) (hx : a.eval x = u) {v' : Value} {w' : World} (hr : (Builtin.copy_ #[dT, sT] o.type #[v, u]).run P w = .ok v' w') (hK : K (a.put o.dst v') w') :
  if Region.wanted o (yielded ops a.tmps) = true then Oper.wp P o a w K Q else E := by
 have hw : Region.wanted o (yielded ops a.tmps) = true := by simp [Region.wanted, hg]
 rw [if_pos hw]
 unfold Oper.wp
 simp [execOp, hop, resolve, invoke, builtin, hd, hx, hr, Result.andThen]
 exact hK
def insrtB (cur : List Value) (xa xb : Value) : List Value := cur.take 0 ++ [xa, xb] ++ cur.drop (0 + 2)
def insrtC (cur xs : List Value) (xa xb : Value) : List Value := xa :: xb :: xs ++ cur.drop (2 + xs.length)
theorem insrtC_grow (cur xs : List Value) (xa xb : Value) : (insrtB cur xa xb).take 2 ++ xs ++ (insrtB cur xa xb).drop (2 + xs.length) = insrtC cur xs xa xb := by
 unfold insrtB insrtC
 simp [Nat.add_comm 2 xs.length]
theorem insrtC_room (cur xs : List Value) (xa xb : Value) (h : 2 ≤ cur.length) : insrtB (cur.take 2 ++ xs ++ cur.drop (2 + xs.length)) xa xb = insrtC cur xs xa xb := by
 unfold insrtB insrtC
 obtain ⟨a, b, r, rfl⟩ : ∃ a b r, cur = a :: b :: r := by
  match cur, h with
  | a :: b :: r, _ => exact ⟨a, b, r, rfl⟩
 simp
theorem insrtC_len (cur xs : List Value) (xa xb : Value) (h : 2 + xs.length ≤ cur.length) : (insrtC cur xs xa xb).length = cur.length := by
 unfold insrtC
 simp
 omega
theorem spCells_oneW (us : List Sp) : ∀ u ∈ spCells us, u.oneCell' = true := by
 intro u hu
 unfold spCells at hu
 rw [List.mem_flatMap] at hu
 obtain ⟨x, _, h⟩ := hu
 rcases List.mem_cons.1 h with rfl | h
 ·rfl
 ·rcases List.mem_cons.1 h with rfl | h
  ·rfl
  ·cases h
theorem setRow_own {w : World} {g base n c : Nat} {t : TypeId} {cur cs : Array Value} {xs : List Value} (hg : w.heap[g]? = some (.cells cur t (0, 0))) (hb : base ≤ g) (hc : n ≤ c) (hcm : c ≤ maxLen) (hs : cs.size = c * 2) (hl : xs.length = n * 2) (hx : cs.toList.take (n * 2) = xs) :
  (w.setRow g cs).ownsRow base t 2 (.slice (some ⟨g, 0, none⟩) n c) n xs :=
 ⟨hl, .inr ⟨g, c, cs, rfl, hb, setRow_heap _ _ _ _ _ _ hg, hc, hcm, hs, hx⟩⟩
end Go.Pol
namespace Go.Proofs.YtjmmgoijnhnnaaaGreat
open Go Go.Proofs Go.RowKit Go.Pol Go.Shelf
attribute [local go_sem] Oper.semAt_some Go.Pol.wide_fn Go.Pol.wide_depth Go.Pol.wide_fn' Go.Pol.wide_depth'
theorem infoSpS2 : (Tryz.prog.info? 140).map (·.size) = some 2 := by kernel_rfl
theorem blk_setRow {w : World} {g : Nat} {t : TypeId} {cs cur : Array Value} (h : Blk w g t cur) : Blk (w.setRow g cs) g t cs := setRow_heap _ _ _ _ _ _ h
theorem blk_setRow_far {w : World} {g k : Nat} {t : TypeId} {cs cur : Array Value} (h : Blk w k t cur) (hne : k ≠ g) : Blk (w.setRow g cs) k t cur := by
 show (w.setRow g cs).heap[k]? = _
 rw [setRow_other _ _ _ _ hne]; exact h
set_option maxRecDepth 100000 in
set_option maxHeartbeats 400000 in
theorem insGrow_walk (g gx n c G q : Nat) (w W1 W2 W3 : World) (hn0 : 0 < n) (hn : n ≤ 512) (hnc : n ≤ c) (hc : c < n + 1) (hGn : n + 1 ≤ G) (_hGm : G ≤ maxLen)
  (hap : ∀ ty, (Builtin.append_ #[41, 3] ty #[.slice (some ⟨g, 0, none⟩) 0 c, .int .i64 ((n : Int) + 1)]).run Tryz.prog w = .ok (.slice (some ⟨q, 0, none⟩) (n + 1) G) W1)
  (hcA : ∀ ty, (Builtin.copy_ #[41, 41] ty #[.slice (some ⟨q, 0, none⟩) (n + 1) G, .slice (some ⟨gx, 0, none⟩) 1 1]).run Tryz.prog W1 = .ok (goInt 1) W2)
  (hcB : ∀ ty, (Builtin.copy_ #[41, 41] ty #[.slice (some ⟨q, 2, none⟩) n (G - 1), .slice (some ⟨g, 0, none⟩) n c]).run Tryz.prog W2.drew = .ok (goInt n) W3) :
  Calls Tryz.prog 136 #[.slice (some ⟨g, 0, none⟩) n c, .int .i64 0, .slice (some ⟨gx, 0, none⟩) 1 1] w fun e w' => e = .returned (.slice (some ⟨q, 0, none⟩) (n + 1) G) ∧ w' = W3 := by
 have hcd : decide ((c : Int) < (n : Int) + 1) = true := by rw [decide_eq_true_eq]; omega
 have hn0' : ((0 : Int) == (n : Int)) = false := by rw [beq_eq_false_iff_ne]; omega
 have hwr : IntKind.i64.wrap ((n : Int) + 1) = (n : Int) + 1 := by rw [IntKind.wrap_i64]; omega
 have hcB' := Lib.hid hcB
 have hcA' := Lib.hid hcA
 have hap' := Lib.hid hap
 clear hcA hcB hap
 go_enter Tryz.func136, Tryz.ntmps136
 go_upto_region 9 with fail
 go_upto_region 10 with (at_builtin; refine Lib.wpList_append_run _ rfl _ _ _ _ rfl _ _ rfl rfl _ _ (hap'.out _) ?_)
 go_upto_region 11 with (simp only [hcA'.out, Result.andThen_ok])
 have hw1 : IntKind.i64.wrap 1 = 1 := by rw [IntKind.wrap_i64]; rfl
 have hb1 : (1 : Int) ≤ (n : Int) + 1 := by omega
 have hG1 : ¬ (G = 1) := by omega
 have hc0 : ¬ (c = 0) := by omega
 have mixed : Tryz.prog.follows Departure.mixedOrders = true := by kernel_rfl
 go_region_law_o (refine step_copy_runW rfl _ _ 41 41 rfl (.slice (some ⟨q, 2, none⟩) n (G - 1)) (.slice (some ⟨g, 0, none⟩) n c) (by simp [Act.eval, Act.put]) (by simp [Act.eval, Act.put]) (hcB'.out _) ?_)
 go_wp2_with fail
 go_ret
 exact ⟨rfl, rfl⟩
set_option maxRecDepth 100000 in
set_option maxHeartbeats 1600000 in
theorem insGrow_any (base g gx n c : Nat) (xa xb : Int) (L : List Sp) (w : World) (hL : L.length = n) (hn0 : 0 < n) (hn : n ≤ 512) (hc : c < n + 1) (hrow : w.ownsRow base 140 2 (.slice (some ⟨g, 0, none⟩) n c) n (spCells L)) (k : Blk w gx 140 #[.int .i64 xa, .int .i64 xb]) (hb : base ≤ w.heap.size) :
  Calls Tryz.prog 136 #[.slice (some ⟨g, 0, none⟩) n c, .int .i64 0, .slice (some ⟨gx, 0, none⟩) 1 1] w fun e w' => ∃ v, e = .returned v ∧ w'.ownsRow base 140 2 v (n + 1) (.int .i64 xa :: .int .i64 xb :: spCells L) ∧ Far (fun k => k = g) w w' := by
 obtain ⟨G, hG⟩ : ∃ G, grownCap w (n + 1) c 140 = G := ⟨_, rfl⟩
 have hGn := grownCap_ge w (n + 1) c 140
 have hGm := grownCap_le_maxLen w (n + 1) c 140 (by unfold maxLen; omega)
 rw [hG] at hGn hGm
 obtain ⟨q, hq⟩ : ∃ q, w.heap.size = q := ⟨_, rfl⟩
 obtain ⟨hgq, hnc⟩ : g < q ∧ n ≤ c := by
  rcases hrow.2 with ⟨h, _⟩ | ⟨g', cap, cur, h, _, hk, h3, _⟩
  ·cases h
  ·cases h; rw [← hq]; exact ⟨Blk.lt hk, h3⟩
 have hxq : gx < q := by rw [← hq]; exact k.lt
 have hlc : (spCells L).length = n * 2 := by rw [spCells_len, hL]
 obtain ⟨ROW, hROW⟩ : ∃ ROW : Array Value, #[] ++ Builtin.zeroCells #[.int .i64 0, .int .i64 0] (n + 1) ++ Builtin.zeroCells #[.int .i64 0, .int .i64 0] (G - (n + 1)) = ROW := ⟨_, rfl⟩
 have hRs : ROW.size = G * 2 := by rw [← hROW]; simp [Builtin.zeroCells]; omega
 obtain ⟨W1, hW1⟩ : ∃ W1, w.drew.alloc (.cells ROW 140) = W1 := ⟨_, rfl⟩
 have hap : ∀ ty, (Builtin.append_ #[41, 3] ty #[.slice (some ⟨g, 0, none⟩) 0 c, .int .i64 ((n : Int) + 1)]).run Tryz.prog w = .ok (.slice (some ⟨q, 0, none⟩) (n + 1) G) W1 := fun ty => by
  have h := appZ ⟨g, 0, none⟩ n c hc hn ty w
  rw [hG, hROW, hW1, hq] at h
  rw [show ((n : Int) + 1) = ((n + 1 : Nat) : Int) by omega]
  exact h
 have k1 : Blk W1 q 140 ROW := by rw [← hW1, ← hq]; exact Blk.new w.drew _ _
 have hF1 : Far (fun _ => False) w W1 := by rw [← hW1]; exact (Far.refl _ w).drew.alloc _
 have kx1 := hF1.blk k (fun h => h)
 obtain ⟨W2, hW2⟩ : ∃ W2, W1.setRow q (ROW.toList.take 0 ++ [Value.int .i64 xa, Value.int .i64 xb] ++ ROW.toList.drop (0 + [Value.int .i64 xa, .int .i64 xb].length)).toArray = W2 := ⟨_, rfl⟩
 have hcA : ∀ ty, (Builtin.copy_ #[41, 41] ty #[.slice (some ⟨q, 0, none⟩) (n + 1) G, .slice (some ⟨gx, 0, none⟩) 1 1]).run Tryz.prog W1 = .ok (goInt 1) W2 := fun ty => by
  rw [← hW2]
  exact run_copy_rowN W1 _ _ ty 140 2 q 0 (n + 1) G ⟨gx, 0, none⟩ 1 1 1 ROW _ [.int .i64 xa, .int .i64 xb] Tryz.underlying41 infoSpS2 k1 (by simp only [Nat.min_def]; split <;> omega) rfl (news_two kx1) (by simp; omega) news_one2
 have hR0 : ROW.toList.length = G * 2 := by simpa using hRs
 have k2 : Blk W2 q 140 (insrtB ROW.toList (.int .i64 xa) (.int .i64 xb)).toArray := by rw [← hW2]; exact blk_setRow k1
 have hF2 : Far (fun k => q ≤ k) w W2 := by
  rw [← hW2]
  exact (hF1.mono (fun _ _ h => h.elim)).trans' (T' := fun k => k = q) ⟨rfl, rfl, rfl, by simp [World.setRow], fun _ _ hT => setRow_other _ _ _ _ hT⟩ (fun i hi e => by omega)
 have hsrc : ∀ (j : Nat) (v : Value), (spCells L)[j]? = some v → W2.drew.cell? (Addr.add ⟨g, 0, none⟩ j) = some v := fun j v hj => by
  have h0 := hrow.cells (g := g) rfl j v hj
  rw [addr_add0] at h0 ⊢
  exact (hF2.drew).cell h0 (by show ¬ q ≤ g; omega)
 have hBl : (insrtB ROW.toList (.int .i64 xa) (.int .i64 xb)).length = G * 2 := by unfold insrtB; simp; omega
 obtain ⟨W3, hW3⟩ : ∃ W3, W2.drew.setRow q ((insrtB ROW.toList (.int .i64 xa) (.int .i64 xb)).toArray.toList.take 2 ++ spCells L ++ (insrtB ROW.toList (.int .i64 xa) (.int .i64 xb)).toArray.toList.drop (2 + (spCells L).length)).toArray = W3 := ⟨_, rfl⟩
 have hcB : ∀ ty, (Builtin.copy_ #[41, 41] ty #[.slice (some ⟨q, 2, none⟩) n (G - 1), .slice (some ⟨g, 0, none⟩) n c]).run Tryz.prog W2.drew = .ok (goInt n) W3 := fun ty => by
  rw [← hW3]
  exact run_copy_rowN W2.drew _ _ ty 140 2 q 2 n (G - 1) ⟨g, 0, none⟩ n c n _ _ (spCells L) Tryz.underlying41 infoSpS2 k2.drew (by simp only [Nat.min_def]; split <;> omega) hlc hsrc (by rw [hlc, List.size_toArray, hBl]; omega) (spCells_oneW L)
 have hown : W3.ownsRow base 140 2 (.slice (some ⟨q, 0, none⟩) (n + 1) G) (n + 1) (.int .i64 xa :: .int .i64 xb :: spCells L) := by
  rw [← hW3, List.toList_toArray, insrtC_grow]
  refine setRow_own k2.drew (by omega) hGn hGm (by rw [List.size_toArray, insrtC_len _ _ _ _ (by rw [hlc, hR0]; omega), hR0]) (by simp only [List.length_cons, hlc]; omega) ?_
  rw [List.toList_toArray]
  unfold insrtC
  rw [List.take_append_of_le_length (by simp only [List.length_cons, hlc]; omega), List.take_of_length_le (by simp only [List.length_cons, hlc]; omega)]
 have hF3 : Far (fun k => k = g) w W3 := by
  rw [← hW3]
  exact ((hF2.drew).mono (fun i hi h => by omega)).trans' (T' := fun k => k = q) ⟨rfl, rfl, rfl, by simp [World.setRow], fun _ _ hT => setRow_other _ _ _ _ hT⟩ (fun i hi e => by omega)
 refine (insGrow_walk g gx n c G q w W1 W2 W3 hn0 hn hnc hc hGn hGm hap hcA hcB).mono ?_
 rintro e w' ⟨rfl, rfl⟩
 exact ⟨_, rfl, hown, hF3⟩
end Go.Proofs.YtjmmgoijnhnnaaaGreat
