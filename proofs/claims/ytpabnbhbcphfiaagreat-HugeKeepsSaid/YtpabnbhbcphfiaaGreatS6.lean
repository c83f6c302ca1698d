/- Merged texts. Walks of layer 6: make, and the calls that make a change of pages of one kind. Walks of layer 6: Reserve, Commit, Protect, Kind. The cells of a new system. Walks of layer 6: a new system. Walks of layer 6: other refusals for a system; Counts. Walks of layer 6: Release, Decommit; first; Join. Walks of layer 6: Split; Counts. Walks of layer 6: where, Read, Write. The reference's system in memory. Walks of the reference of layer 6: Write, Join, Split, Plan, New. Walks of law 13's own functions: system. Walks of law 13: the reference's system that is as the program's. Walks of law 13's own functions: great. Openers in general: lists of bytes to be written, and of rules, as they come in. Openers: what a system is made of (law 13's Made) as it comes in. Plain words for what a system's Save says: the runs of pages of one kind, the huge groups, the pages with bytes. Walks of layer 6: the runs of a system as a function value that is ranged over. Walks of layer 6: slices.AppendSeq and slices.Collect over runs that a function value hands out. Words for a region whose operations come in an order of their own: an operation's value, its call; slots written and read. -/
import Derived.Sort.CutIn
import Derived.Test.YtpabnbhbcphfiaaGreatS5
namespace Go.Pol
open Go Go.RowKit
/-- what a change makes of a system -/
def makeF (V : Vm) (a n : Int) (call : Nat) (pr : Pg → Bool) (fd : Pg → Pg) : Int × Vm :=
  if n < 1 ∨ a < 0 ∨ 1024 ≤ a ∨ 1024 - a < n then (7, V) else if allP V a.toNat n.toNat pr = false then (9, V) else if refB V.rf call = true then (60, V.ref call) else (0, (V.ref call).eachP a.toNat n.toNat fd)
/-- a system afterwards, and nothing else of what was -/
def SysTo (b : Nat) (V : Vm) (w w' : World) : Prop := SysIs w' b V ∧ Far (fun k => k = b) w w'
/-- pages of one kind, of no huge one, become another kind -/
def bec (V : Vm) (a n : Int) (call : Nat) (fr tk : Int) : Int × Vm := makeF V a n call (fun g => g.kind == fr && !g.huge) (fun _ => newPg tk)
end Go.Pol
namespace Go.Proofs.YtpabnbhbcphfiaaGreat
open Go Go.Proofs Go.RowKit Go.Pol Go.Shelf
attribute [local go_sem] Oper.semAt_some Go.Pol.wide_fn Go.Pol.wide_depth Go.Pol.wide_fn' Go.Pol.wide_depth'

set_option maxRecDepth 100000 in
set_option maxHeartbeats 1600000 in
theorem make_any (b call : Nat) (a n : Int) (pr : Pg → Bool) (fd : Pg → Pg) (g1 g2 : Nat) (lb1 lb2 : Array Value) (V : Vm) (w : World) (hV : SysIs w b V) (hc : call < 7)
    (e1 : ∀ args w, (callFunc g1 args).run Tryz.prog w = .ok (.enter g1 args) w) (e2 : ∀ args w, (callFunc g2 args).run Tryz.prog w = .ok (.enter g2 args) w)
    (hp1 : ∀ p, p < 1024 → ∀ V' W, SysIs W b V' → Far (fun k => k = b) w W → Calls Tryz.prog g1 (#[.pointer (some ⟨b, 1 + p * 66, none⟩)] ++ lb1) W fun e W' => e = .returned (.bool (pr (V'.pg p))) ∧ Below W.heap.size W W')
    (hp2 : ∀ p, p < 1024 → ∀ V' W, SysIs W b V' → Far (fun k => k = b) w W → Calls Tryz.prog g2 (#[.pointer (some ⟨b, 1 + p * 66, none⟩)] ++ lb2) W fun e W' => e = .returned (.tuple #[]) ∧ SysIs W' b (V'.setP p (fd (V'.pg p))) ∧ Far (fun k => k = b) W W') :
    Calls Tryz.prog 82 #[.pointer (some ⟨b, 0, none⟩), .int .i64 a, .int .i64 n, .agg #[.int .i64 call, .func (.func g1) #[] lb1, .func (.func g2) #[] lb2]] w fun e w' => e = .returned (.int .i64 (makeF V a n call pr fd).1) ∧ SysTo b (makeF V a n call pr fd).2 w w' := by
  have hb0 := (Below.refl w.heap.size w).alloc (Nat.le_refl _) (.cells #[.int .i64 call, .func (.func g1) #[] lb1, .func (.func g2) #[] lb2] 159)
  have k0 := Blk.new w 159 #[.int .i64 call, .func (.func g1) #[] lb1, .func (.func g2) #[] lb2]
  have V0 := hV.call hb0
  have F0 : Far (fun k => k = b) w (w.alloc (.cells #[.int .i64 call, .func (.func g1) #[] lb1, .func (.func g2) #[] lb2] 159)) := .of_below hb0
  have hbs := hV.lt
  have HI := Lib.hid (fun W h => is_any b V W h)
  have HA := Lib.hid (fun (aa nn : Nat) (h : aa + nn ≤ 1024) W (hW : SysIs W b V) (hF : Far (fun k => k = b) w W) => all_any b aa nn pr g1 lb1 V W h e1 (fun p hp W' hb => hp1 p hp V W' (hW.call hb) (hF.trans (.of_below hb))))
  have HR := Lib.hid (fun W h => sysRefused_any b call V W h hc)
  have HE := Lib.hid (fun (aa nn : Nat) (h : aa + nn ≤ 1024) V' W (hW : SysIs W b V') (hF : Far (fun k => k = b) w W) => each_any b aa nn fd g2 lb2 V' W hW h e2 (fun p hp V2 W' h2 hF2 => hp2 p hp V2 W' h2 (hF.trans hF2)))
  obtain ⟨R, hR⟩ : ∃ R, makeF V a n call pr fd = R := ⟨_, rfl⟩
  rw [hR]
  unfold makeF at hR
  obtain ⟨re, rV⟩ := R
  obtain ⟨s, hs⟩ : ∃ s, w.heap.size = s := ⟨_, rfl⟩
  rw [hs] at k0 hbs
  have hs' := Lib.hid hs
  simp only
  unfold SysTo
  clear hp1 hp2 hb0 hV e1 e2
  by_cases c1 : n < 1
  · have d1 : decide (n < 1) = true := by simpa using c1
    rw [if_pos (by omega)] at hR
    simp only [Prod.mk.injEq] at hR
    obtain ⟨rfl, rfl⟩ := hR
    have c0 := k0.cell
    clear hs
    go_enter Tryz.func82, Tryz.ntmps82
    go_upto_region 1 with fail
    generalize w.alloc _ = w0 at *
    simp only [hs'.out]
    go_wp2_with fail
    refine (HI.out _ V0).mono ?_
    rintro e9 w9 ⟨rfl, hw9⟩
    replace hw9 := hw9.symm
    subst hw9
    go_wp2_with fail
    go_ret
    exact ⟨rfl, V0, F0⟩
  have d1 : decide (n < 1) = false := by simpa using c1
  by_cases c2 : a < 0
  · have d2 : decide (a < 0) = true := by simpa using c2
    rw [if_pos (by omega)] at hR
    simp only [Prod.mk.injEq] at hR
    obtain ⟨rfl, rfl⟩ := hR
    have c0 := k0.cell
    clear hs
    go_enter Tryz.func82, Tryz.ntmps82
    go_upto_region 1 with fail
    generalize w.alloc _ = w0 at *
    simp only [hs'.out]
    go_wp2_with fail
    refine (HI.out _ V0).mono ?_
    rintro e9 w9 ⟨rfl, hw9⟩
    replace hw9 := hw9.symm
    subst hw9
    go_wp2_with fail
    go_ret
    exact ⟨rfl, V0, F0⟩
  have d2 : decide (a < 0) = false := by simpa using c2
  by_cases c3 : 1024 ≤ a
  · have d3 : decide (1024 ≤ a) = true := by simpa using c3
    rw [if_pos (by omega)] at hR
    simp only [Prod.mk.injEq] at hR
    obtain ⟨rfl, rfl⟩ := hR
    have c0 := k0.cell
    clear hs
    go_enter Tryz.func82, Tryz.ntmps82
    go_upto_region 1 with fail
    generalize w.alloc _ = w0 at *
    simp only [hs'.out]
    go_wp2_with fail
    refine (HI.out _ V0).mono ?_
    rintro e9 w9 ⟨rfl, hw9⟩
    replace hw9 := hw9.symm
    subst hw9
    go_wp2_with fail
    go_ret
    exact ⟨rfl, V0, F0⟩
  have d3 : decide (1024 ≤ a) = false := by simpa using c3
  have hw : IntKind.i64.wrap (1024 - a) = 1024 - a := by rw [IntKind.wrap_i64]; omega
  by_cases c4 : 1024 - a < n
  · have d4 : decide (1024 - a < n) = true := by simpa using c4
    rw [if_pos (by omega)] at hR
    simp only [Prod.mk.injEq] at hR
    obtain ⟨rfl, rfl⟩ := hR
    have c0 := k0.cell
    clear hs
    go_enter Tryz.func82, Tryz.ntmps82
    go_upto_region 1 with fail
    generalize w.alloc _ = w0 at *
    simp only [hs'.out]
    go_wp2_with fail
    refine (HI.out _ V0).mono ?_
    rintro e9 w9 ⟨rfl, hw9⟩
    replace hw9 := hw9.symm
    subst hw9
    go_wp2_with fail
    go_ret
    exact ⟨rfl, V0, F0⟩
  have d4 : decide (1024 - a < n) = false := by simpa using c4
  rw [if_neg (by omega)] at hR
  obtain ⟨aa, rfl⟩ : ∃ aa : Nat, a = (aa : Int) := ⟨a.toNat, by omega⟩
  obtain ⟨nn, rfl⟩ : ∃ nn : Nat, n = (nn : Int) := ⟨n.toNat, by omega⟩
  simp only [Int.toNat_natCast] at hR
  have hsum : aa + nn ≤ 1024 := by omega
  have HA' := Lib.hid (HA.out aa nn hsum)
  have HE' := Lib.hid (HE.out aa nn hsum)
  generalize allP V aa nn pr = al at *
  cases al with
  | false =>
    rw [if_pos rfl] at hR
    simp only [Prod.mk.injEq] at hR
    obtain ⟨rfl, rfl⟩ := hR
    have c0 := k0.cell
    clear hs
    go_enter Tryz.func82, Tryz.ntmps82
    go_upto_region 1 with fail
    generalize w.alloc _ = w0 at *
    simp only [hs'.out]
    go_wp2_with fail
    refine (HI.out _ V0).mono ?_
    rintro e9 w9 ⟨rfl, hw9⟩
    replace hw9 := hw9.symm
    subst hw9
    go_wp2_with fail
    refine (HA'.out _ V0 F0).mono ?_
    rintro e w1 ⟨rfl, hb1⟩
    have V1 := V0.call hb1
    have F1 : Far (fun k => k = b) w w1 := F0.trans (.of_below hb1)
    go_wp2_with fail
    go_ret
    exact ⟨rfl, V1, F1⟩
  | true =>
    rw [if_neg (by simp)] at hR
    generalize refB V.rf call = rb at *
    cases rb with
    | true =>
      rw [if_pos rfl] at hR
      simp only [Prod.mk.injEq] at hR
      obtain ⟨rfl, rfl⟩ := hR
      generalize V.ref call = V2 at *
      have c0 := k0.cell
      clear hs
      go_enter Tryz.func82, Tryz.ntmps82
      go_upto_region 1 with fail
      generalize w.alloc _ = w0 at *
      simp only [hs'.out]
      go_wp2_with fail
      refine (HI.out _ V0).mono ?_
      rintro e9 w9 ⟨rfl, hw9⟩
      replace hw9 := hw9.symm
      subst hw9
      go_wp2_with fail
      refine (HA'.out _ V0 F0).mono ?_
      rintro e w1 ⟨rfl, hb1⟩
      have k1 := k0.call hb1
      have c1 := k1.cell
      have V1 := V0.call hb1
      have F1 : Far (fun k => k = b) w w1 := F0.trans (.of_below hb1)
      clear c0
      go_wp2_with fail
      refine (HR.out _ V1).mono ?_
      rintro e w2 ⟨rfl, V2', F2⟩
      go_wp2_with fail
      go_ret
      exact ⟨rfl, V2', F1.trans F2⟩
    | false =>
      rw [if_neg (by simp)] at hR
      simp only [Prod.mk.injEq] at hR
      obtain ⟨rfl, rfl⟩ := hR
      generalize V.ref call = V2 at *
      have c0 := k0.cell
      clear hs
      go_enter Tryz.func82, Tryz.ntmps82
      go_upto_region 1 with fail
      generalize w.alloc _ = w0 at *
      simp only [hs'.out]
      go_wp2_with fail
      refine (HI.out _ V0).mono ?_
      rintro e9 w9 ⟨rfl, hw9⟩
      replace hw9 := hw9.symm
      subst hw9
      go_wp2_with fail
      refine (HA'.out _ V0 F0).mono ?_
      rintro e w1 ⟨rfl, hb1⟩
      have k1 := k0.call hb1
      have c1 := k1.cell
      have V1 := V0.call hb1
      have F1 : Far (fun k => k = b) w w1 := F0.trans (.of_below hb1)
      clear c0
      go_wp2_with fail
      refine (HR.out _ V1).mono ?_
      rintro e w2 ⟨rfl, V2', F2⟩
      have k2 := F2.blk k1 (by omega)
      have c2 := k2.cell
      clear c1
      go_wp2_with fail
      refine (HE'.out _ _ V2' (F1.trans F2)).mono ?_
      rintro e w3 ⟨rfl, V3, F3⟩
      go_wp2_with fail
      go_ret
      exact ⟨rfl, V3, (F1.trans F2).trans F3⟩
end Go.Proofs.YtpabnbhbcphfiaaGreat
namespace Go.Proofs.YtpabnbhbcphfiaaGreat
open Go Go.Proofs Go.RowKit Go.Pol Go.Shelf
attribute [local go_sem] Oper.semAt_some Go.Pol.wide_fn Go.Pol.wide_depth Go.Pol.wide_fn' Go.Pol.wide_depth'

/-- make with a change that becomes laid -/
theorem makeBec_any (b call : Nat) (a n fr tk : Int) (s : Nat) (V : Vm) (w : World) (hV : SysIs w b V) (hc : call < 7) (h1 : Blk w s 3 #[.int .i64 fr]) (h2 : Blk w (s + 1) 3 #[.int .i64 tk]) (hb : s ≠ b ∧ s + 1 ≠ b) :
    Calls Tryz.prog 82 #[.pointer (some ⟨b, 0, none⟩), .int .i64 a, .int .i64 n, .agg #[.int .i64 call, .func (.func 142) #[] #[.pointer (some ⟨s, 0, none⟩)], .func (.func 143) #[] #[.pointer (some ⟨s + 1, 0, none⟩)]]] w fun e w' =>
      e = .returned (.int .i64 (bec V a n call fr tk).1) ∧ SysTo b (bec V a n call fr tk).2 w w' :=
  make_any b call a n (fun g => g.kind == fr && !g.huge) (fun _ => newPg tk) _ _ _ _ V w hV hc may_enters do_enters
    (fun p hp V' W hW hF => may_any fr b p s V' W hW hp (hF.blk h1 hb.1))
    (fun p hp V' W hW hF => do_any tk b p (s + 1) V' W hW hp (hF.blk h2 hb.2))
theorem reserve_any (b : Nat) (a n : Int) (V : Vm) (w : World) (hV : SysIs w b V) :
    Calls Tryz.prog 24 #[.pointer (some ⟨b, 0, none⟩), .int .i64 a, .int .i64 n] w fun e w' => e = .returned (.int .i64 (bec V a n 0 0 1).1) ∧ SysTo b (bec V a n 0 0 1).2 w w' := by
  have HB := Lib.hid (becomes_any 0 0 1 w)
  have HM := Lib.hid (fun W s hW h1 h2 hb => makeBec_any b 0 a n 0 1 s V W hW (by omega) h1 h2 hb)
  have hbs := hV.lt
  have hV' := Lib.hid hV
  obtain ⟨re, hre⟩ : ∃ re, (bec V a n 0 0 1).1 = re := ⟨_, rfl⟩
  obtain ⟨rV, hrV⟩ : ∃ rV, (bec V a n 0 0 1).2 = rV := ⟨_, rfl⟩
  simp only [hre, hrV] at HM ⊢
  unfold SysTo at HM ⊢
  clear hre hrV hV
  go_enter Tryz.func24, Tryz.ntmps24
  go_wp2_with fail
  refine HB.out.mono ?_
  rintro e9 w1 ⟨rfl, k1, k2, hb1⟩
  have V1 := hV'.out.call hb1
  have HM1 := Lib.hid (HM.out w1 _ V1 k1 k2 (by omega))
  clear HM HB k1 k2
  go_wp2_with fail
  refine HM1.out.mono ?_
  rintro e8 w2 ⟨rfl, V2, F2⟩
  go_wp2_with fail
  go_ret
  exact ⟨rfl, V2, (Far.of_below hb1).trans F2⟩
theorem commit_any (b : Nat) (a n : Int) (V : Vm) (w : World) (hV : SysIs w b V) :
    Calls Tryz.prog 25 #[.pointer (some ⟨b, 0, none⟩), .int .i64 a, .int .i64 n] w fun e w' => e = .returned (.int .i64 (bec V a n 2 1 2).1) ∧ SysTo b (bec V a n 2 1 2).2 w w' := by
  have HB := Lib.hid (becomes_any 2 1 2 w)
  have HM := Lib.hid (fun W s hW h1 h2 hb => makeBec_any b 2 a n 1 2 s V W hW (by omega) h1 h2 hb)
  have hbs := hV.lt
  have hV' := Lib.hid hV
  obtain ⟨re, hre⟩ : ∃ re, (bec V a n 2 1 2).1 = re := ⟨_, rfl⟩
  obtain ⟨rV, hrV⟩ : ∃ rV, (bec V a n 2 1 2).2 = rV := ⟨_, rfl⟩
  simp only [hre, hrV] at HM ⊢
  unfold SysTo at HM ⊢
  clear hre hrV hV
  go_enter Tryz.func25, Tryz.ntmps25
  go_wp2_with fail
  refine HB.out.mono ?_
  rintro e9 w1 ⟨rfl, k1, k2, hb1⟩
  have V1 := hV'.out.call hb1
  have HM1 := Lib.hid (HM.out w1 _ V1 k1 k2 (by omega))
  clear HM HB k1 k2
  go_wp2_with fail
  refine HM1.out.mono ?_
  rintro e8 w2 ⟨rfl, V2, F2⟩
  go_wp2_with fail
  go_ret
  exact ⟨rfl, V2, (Far.of_below hb1).trans F2⟩
theorem vkind_any (b : Nat) (p : Int) (V : Vm) (w : World) (hV : SysIs w b V) :
    Calls Tryz.prog 29 #[.pointer (some ⟨b, 0, none⟩), .int .i64 p] w fun e w' =>
      e = .returned (.tuple #[.int .i64 (if 0 ≤ p ∧ p < 1024 then (V.pg p.toNat).kind else 0), .bool (if 0 ≤ p ∧ p < 1024 then (V.pg p.toNat).huge else false), .int .i64 (if 0 ≤ p ∧ p < 1024 then 0 else 7)]) ∧ Below w.heap.size w w' := by
  have HI := Lib.hid (is_any b V w hV)
  by_cases c1 : p < 0
  · have d1 : decide (p < 0) = true := by simpa using c1
    have hn : ¬ (0 ≤ p ∧ p < 1024) := by omega
    rw [if_neg hn, if_neg hn, if_neg hn]
    clear hn
    go_enter Tryz.func29, Tryz.ntmps29
    go_wp2_with fail
    refine HI.out.mono ?_
    rintro e9 w9 ⟨rfl, hw9⟩
    replace hw9 := hw9.symm
    subst hw9
    go_wp2_with fail
    (try simp only [Exit.inBlock, Exit.then]); refine bodyPost_ret (results_tmp3 rfl _ _ _) rfl ?_
    exact ⟨rfl, Below.refl _ _⟩
  have d1 : decide (p < 0) = false := by simpa using c1
  by_cases c2 : 1024 ≤ p
  · have d2 : decide (1024 ≤ p) = true := by simpa using c2
    have hn : ¬ (0 ≤ p ∧ p < 1024) := by omega
    rw [if_neg hn, if_neg hn, if_neg hn]
    clear hn
    go_enter Tryz.func29, Tryz.ntmps29
    go_wp2_with fail
    refine HI.out.mono ?_
    rintro e9 w9 ⟨rfl, hw9⟩
    replace hw9 := hw9.symm
    subst hw9
    go_wp2_with fail
    (try simp only [Exit.inBlock, Exit.then]); refine bodyPost_ret (results_tmp3 rfl _ _ _) rfl ?_
    exact ⟨rfl, Below.refl _ _⟩
  have d2 : decide (1024 ≤ p) = false := by simpa using c2
  have hn : 0 ≤ p ∧ p < 1024 := by omega
  rw [if_pos hn, if_pos hn, if_pos hn]
  clear hn
  obtain ⟨q, rfl⟩ : ∃ q : Nat, p = (q : Int) := ⟨p.toNat, by omega⟩
  simp only [Int.toNat_natCast]
  have hq : q < 1024 := by omega
  have hq2 : (q : Int) < 1024 := by omega
  obtain ⟨cs, A, n, cap, hk, hc, _⟩ := hV.ex
  have c0 := (hk.cell (1 + q * 66)).trans (hc.kind hq)
  have c1 := (hk.cell (1 + q * 66 + 1)).trans (hc.hug hq)
  generalize (V.pg q).kind = kd at *
  generalize (V.pg q).huge = hg at *
  have z0 := fun z : Ext w => z.cell c0
  have z1 := fun z : Ext w => z.cell c1
  clear c0 c1 hk hc
  go_enter Tryz.func29, Tryz.ntmps29
  go_wp2_with fail
  refine HI.out.mono ?_
  rintro e9 w9 ⟨rfl, hw9⟩
  replace hw9 := hw9.symm
  subst hw9
  go_upto_region 5 with fail
  refine region_ext (by kernel_rfl) (by kernel_rfl) ?_
  repeat (go_big_quiet_step (fail))
  refine wpQuiet_nil ?_
  rintro w1 ⟨⟨_, hw1⟩, rfl⟩
  go_wp2_with fail
  (try simp only [Exit.inBlock, Exit.then]); refine bodyPost_ret (results_tmp3 rfl _ _ _) rfl ?_
  exact ⟨rfl, hw1⟩
end Go.Proofs.YtpabnbhbcphfiaaGreat
namespace Go.Pol
open Go Go.RowKit
/-- strips zero bytes -/
def st0 : Nat → List Value → Option (List Value)
  | 0, l => some l
  | n + 1, .int .u8 z :: r => if z = 0 then st0 n r else none
  | _ + 1, _ => none
/-- strips a new page -/
def st1 : List Value → Option (List Value)
  | .int .i64 k :: .bool false :: r => if k = 0 then st0 64 r else none
  | _ => none
/-- strips 2^d new pages -/
def stP : Nat → List Value → Option (List Value)
  | 0, l => st1 l
  | d + 1, l => match stP d l with
    | some r => stP d r
    | none => none
theorem st0_spec : ∀ (n : Nat) (l r : List Value), st0 n l = some r → l = List.replicate n (.int .u8 0) ++ r
  | 0, l, r, h => by cases h; rfl
  | n + 1, l, r, h => by
    unfold st0 at h
    split at h
    · omega
    · rename_i m z r' e
      obtain rfl : m = n := by omega
      by_cases hz : z = 0
      · rw [if_pos hz] at h
        rw [hz, st0_spec m r' r h, List.replicate_succ]; rfl
      · rw [if_neg hz] at h; cases h
    · cases h
theorem st1_spec {l r : List Value} (h : st1 l = some r) : l = pgC (newPg 0) ++ r := by
  unfold st1 at h
  split at h
  · rename_i k r'
    by_cases hk : k = 0
    · rw [if_pos hk] at h
      rw [hk, st0_spec 64 r' r h]
      rfl
    · rw [if_neg hk] at h; cases h
  · cases h
theorem stP_spec : ∀ (d : Nat) (l r : List Value), stP d l = some r → l = fl pgC (List.replicate (2 ^ d) (newPg 0)) ++ r
  | 0, l, r, h => by
    rw [stP] at h
    rw [st1_spec h]
    simp [fl]
  | d + 1, l, r, h => by
    rw [stP] at h
    split at h
    · rename_i r' h'
      have h1 := stP_spec d l r' h'
      have h2 := stP_spec d r' r h
      rw [h1, h2, ← List.append_assoc, ← fl_append, List.replicate_append_replicate, show 2 ^ d + 2 ^ d = 2 ^ (d + 1) by rw [Nat.pow_succ]; omega]
    · cases h
/-- strips a system -/
def stS : List Value → Option (List Value)
  | .bool false :: r => stP 10 r
  | _ => none
/-- a new system -/
def newVm : Vm := ⟨fun _ => newPg 0, ⟨[], fun _ => 0, fun _ => 0⟩⟩
theorem newSys {zc : Array Value} (h : stS zc.toList = some (rfC (.slice none 0 0) (fun _ => 0) (fun _ => 0))) (v : Value) : SysC (putA (putA zc 0 [.bool true]) 67585 (rfC v (fun _ => 0) (fun _ => 0))) v newVm := by
  unfold stS at h
  split at h
  · rename_i r hr
    have h1 := stP_spec 10 r _ h
    have hl := fl_len pgC_len (List.replicate (2 ^ 10) (newPg 0))
    rw [List.length_replicate] at hl
    have hlen : zc.size = 67600 := by
      rw [← Array.length_toList, hr, h1, List.length_cons, List.length_append, hl]; rfl
    have hpg : ∀ p, p < 1024 → ∀ i, i < 66 → zc[1 + p * 66 + i]? = (pgC (newPg 0))[i]? := fun p hp i hi => by
      rw [← Array.getElem?_toList, hr, h1, show 1 + p * 66 + i = (p * 66 + i) + 1 by omega, List.getElem?_cons_succ, List.getElem?_append_left (by rw [hl]; omega), fl_at pgC_len (newPg 0) _ p (by rw [List.length_replicate]; omega) i hi]
      congr 2
      rw [List.getD_eq_getElem?_getD, List.getElem?_replicate, if_pos (by omega)]; rfl
    generalize hL : rfC v (fun _ => 0) (fun _ => 0) = L at *
    have hLl : L.length = 15 := by rw [← hL]; rfl
    have hs1 : (putA zc 0 [.bool true]).size = 67600 := by rw [putA_size]; exact hlen
    have hg := putA_get L (putA zc 0 [.bool true]) 67585 (by rw [hLl]; omega)
    have hg0 := putA_get [.bool true] zc 0 (by simp; omega)
    refine ⟨by rw [putA_size]; exact hs1, ?_, fun p hp i hi => ?_, fun i hi => ?_⟩
    · rw [hg, if_neg (by omega), hg0, if_pos (by simp)]; rfl
    · rw [hg, if_neg (by omega), hg0, if_neg (by simp only [List.length_cons, List.length_nil]; omega)]
      exact hpg p hp i hi
    · rw [hg, if_pos (by omega), show 67585 + i - 67585 = i by omega, ← hL]; rfl
  · cases h
end Go.Pol
namespace Go.Proofs.YtpabnbhbcphfiaaGreat
open Go Go.Proofs Go.RowKit Go.Pol
set_option maxRecDepth 100000 in
theorem zeroSys : stS Tryz.zeroCells133.toList = some (rfC (.slice none 0 0) (fun _ => 0) (fun _ => 0)) := by kernel_rfl
end Go.Proofs.YtpabnbhbcphfiaaGreat
namespace Go.Pol
open Go Go.RowKit
/-- a new system is handed back -/
def NewO (w : World) (e : Ending) (w' : World) : Prop := ∃ b, e = .returned (.tuple #[.pointer (some ⟨b, 0, none⟩), .int .i64 0]) ∧ SysIs w' b newVm ∧ w.heap.size ≤ b ∧ Below w.heap.size w w'
end Go.Pol
namespace Go.Proofs.YtpabnbhbcphfiaaGreat
open Go Go.Proofs Go.RowKit Go.Pol Go.Shelf
attribute [local go_sem] Oper.semAt_some Go.Pol.wide_fn Go.Pol.wide_depth Go.Pol.wide_fn' Go.Pol.wide_depth'

set_option maxRecDepth 100000 in
set_option maxHeartbeats 1600000 in
theorem new_any (w : World) :
    Calls Tryz.prog 22 #[.agg #[.slice none 0 0]] w (NewO w) := by
  have hb0 := (Below.refl w.heap.size w).alloc (Nat.le_refl _) (.cells #[.slice none 0 0] 25)
  have k0 := Blk.new w 25 #[.slice none 0 0]
  have c0 := k0.cell
  have HS := Lib.hid (fun W => start_any none 0 0 [] W rfl (by omega) (fun _ => rfl) (fun k hk => absurd hk (by simp [fl])))
  go_enter Tryz.func22, Tryz.ntmps22
  go_wp2_with fail
  refine (HS.out _).mono ?_
  rintro e w1 hS
  rcases hS with ⟨h0, _⟩ | ⟨_, v, rfl, hv⟩
  · exact absurd (by decide) h0
  obtain ⟨A, cap, rfl, v1, v2, v3, v4, v5, hb1⟩ := hv
  simp only [List.length_nil]
  have B1 := hb0.trans (hb1.mono hb0.size)
  have hB2 := B1.alloc B1.size (.cells (rfC (.slice A 0 cap) (fun _ => 0) (fun _ => 0)).toArray 51)
  have hzs := Tryz.zeroCells133_size
  have hzz := zeroSys
  obtain ⟨zc, hzc⟩ : ∃ zc, Tryz.zeroCells133 = zc := ⟨_, rfl⟩
  rw [hzc] at hzs hzz
  have hne : ¬ zc = #[] := fun e => by rw [e] at hzs; simp at hzs
  have hC := Lib.hid (newSys hzz (.slice A 0 cap))
  have kz := Blk.new w1 51 (rfC (.slice A 0 cap) (fun _ => 0) (fun _ => 0)).toArray
  clear hzz c0 k0 v1 HS
  unfold rfC at hB2 kz
  unfold rfV rfC
  go_upto_region 4 with fail
  generalize w1.alloc _ = w2 at *
  have cz := kz.cell
  have hB3 := hB2.alloc hB2.size (.cells (putA (putA zc 0 [.bool true]) 67585 (rfC (.slice A 0 cap) (fun _ => 0) (fun _ => 0))) 133)
  have kS := Blk.new w2 133 (putA (putA zc 0 [.bool true]) 67585 (rfC (.slice A 0 cap) (fun _ => 0) (fun _ => 0)))
  have hbs := hB2.size
  go_wp2_with fail
  go_ret2
  refine ⟨w2.heap.size, rfl, ?_, hbs, hB3⟩
  refine ⟨_, A, 0, cap, kS, hC.out, rfl, fun k hk => absurd hk (by simp [fl, newVm]), v5.1, fun g o e h => absurd rfl h, ⟨by decide, fun k _ => ⟨Int.le_refl _, (by show (0 : Int) ≤ 1000000; decide)⟩, fun k _ => rfl⟩, fun g o e h => absurd rfl h⟩
end Go.Proofs.YtpabnbhbcphfiaaGreat
namespace Go.Pol
open Go Go.RowKit
/-- a plan begun -/
def newRf (l : List Ru) : Rf := ⟨l, fun _ => 0, fun _ => 0⟩
theorem newRf_ok {l : List Ru} (h : (chkR l).2 = 0) : RfOk (newRf l) := ⟨h, fun k _ => ⟨Int.le_refl _, (by show (0 : Int) ≤ 1000000; decide)⟩, fun k _ => rfl⟩
/-- a system with other refusals -/
def planF (V : Vm) (l : List Ru) : Vm := if (chkR l).2 = 0 then { V with rf := newRf l } else V
/-- are the kinds of all pages kinds? -/
def KindOk (V : Vm) : Prop := ∀ p, p < 1024 → 0 ≤ (V.pg p).kind ∧ (V.pg p).kind ≤ 3
end Go.Pol
namespace Go.Proofs.YtpabnbhbcphfiaaGreat
open Go Go.Proofs Go.RowKit Go.Pol Go.Shelf
attribute [local go_sem] Oper.semAt_some Go.Pol.wide_fn Go.Pol.wide_depth Go.Pol.wide_fn' Go.Pol.wide_depth'

set_option maxRecDepth 100000 in
set_option maxHeartbeats 400000 in
theorem plan_any (b : Nat) (A : Option Addr) (n cap : Nat) (l : List Ru) (V : Vm) (w : World) (hV : SysIs w b V) (hn : l.length = n) (hm : n ≤ 1000) (hz : A = none → cap = 0) (hr : Rd w w.heap.size A (fl ruC l)) :
    Calls Tryz.prog 56 #[.pointer (some ⟨b, 0, none⟩), .agg #[.slice A n cap]] w fun e w' => e = .returned (.int .i64 (chkR l).2) ∧ SysTo b (planF V l) w w' := by
  have hb0 := (Below.refl w.heap.size w).alloc (Nat.le_refl _) (.cells #[.slice A n cap] 25)
  have k0 := Blk.new w 25 #[.slice A n cap]
  have c0 := k0.cell
  have V0 := hV.call hb0
  have r0 := hr.on_ hb0
  have HI := Lib.hid (fun W h => is_any b V W h)
  have HS := Lib.hid (fun W h => start_any A n cap l W hn hm hz h)
  have hV' := Lib.hid hV
  have hbs := hV.lt
  unfold SysTo
  obtain ⟨P, hP⟩ : ∃ P, planF V l = P := ⟨_, rfl⟩
  rw [hP]
  unfold planF at hP
  have hnk := Lib.hid (newRf_ok (l := l))
  unfold StartO at HS
  obtain ⟨f0, hf0⟩ : ∃ f0 : Nat → Int, (fun _ : Nat => (0 : Int)) = f0 := ⟨_, rfl⟩
  have e1 : (newRf l).calls = f0 := hf0
  have e2 : (newRf l).hits = f0 := hf0
  have e12 := Lib.hid (And.intro e1 e2)
  rw [hf0] at HS
  clear e1 e2 hf0
  generalize (chkR l).2 = re at *
  have hP' := Lib.hid hP
  clear hP hV hr hz hm k0
  go_enter Tryz.func56, Tryz.ntmps56
  go_upto_region 1 with fail
  generalize w.alloc _ = w0 at *
  go_wp2_with fail
  refine (HI.out _ V0).mono ?_
  rintro e9 w9 ⟨rfl, hw9⟩
  replace hw9 := hw9.symm
  subst hw9
  go_wp2_with fail
  refine (HS.out _ r0).mono ?_
  rintro e w1 hS
  rcases hS with ⟨hne, rfl, hb1⟩ | ⟨h0, v, rfl, hv⟩
  · have hP2 := hP'.out
    rw [if_neg hne] at hP2
    subst hP2
    have he : (re == 0) = false := by simpa using hne
    have hbz := (hb0.trans (hb1.mono hb0.size)).alloc (by have := hb0.size; have := hb1.size; omega) (.cells (rfC (.slice none 0 0) f0 f0).toArray 51)
    unfold rfC at hbz
    have V1 := hV'.out.call hbz
    clear HS HI hP' c0 r0 V0
    unfold rfV rfC
    go_wp2_with fail
    go_ret
    exact ⟨rfl, V1, .of_below hbz⟩
  · have hP2 := hP'.out
    rw [if_pos h0] at hP2
    obtain ⟨A2, c2, rfl, v1, v2, v3, v4, v5, hb1⟩ := hv
    have B1 := hb0.trans (hb1.mono hb0.size)
    have hbz := (Below.refl w1.heap.size w1).alloc (Nat.le_refl _) (.cells (rfC (.slice A2 l.length c2) f0 f0).toArray 51)
    have hb2 := B1.trans (hbz.mono B1.size)
    have hput := hV'.out.putRf (newRf l) A2 l.length c2 hb2 rfl (v1.on_ hbz) v5.1 (fun g o e => by have := v4 g o e; have := hb0.size; omega) (hnk.out h0) (fun g o e h => (v5.2 g o e h).imp fun cr hc => hc.call hbz)
    have hV2 := hV'.out.call hb2
    obtain ⟨cs9, A9, n9, c9, k9, h9, h10⟩ := hV2.ex
    have hcs9 := h9.size
    have kz := Blk.new w1 51 (rfC (.slice A2 l.length c2) f0 f0).toArray
    clear h10 h9 hV2 hb2 v1 HS HI hP' c0 r0 V0
    rw [e12.out.1, e12.out.2] at hput
    change SysIs (World.setCells _ b 67585 (rfC (.slice A2 l.length c2) f0 f0)) b { V with rf := newRf l } ∧ Far (fun k => k = b) w (World.setCells _ b 67585 (rfC (.slice A2 l.length c2) f0 f0)) at hput
    rw [hP2] at hput
    subst h0
    have hput' := Lib.hid hput
    rw [hn] at kz hput' k9 hbz ⊢
    clear hput hP2
    unfold rfC at hbz k9 hput' kz
    unfold rfV rfC
    obtain ⟨s, hs⟩ : ∃ s, w1.heap.size = s := ⟨_, rfl⟩
    rw [hs] at kz
    go_upto_region 5 with fail
    generalize w1.alloc _ = w2 at *
    clear hs hbz
    have cz := kz.cell
    have ht : w2.there b 67585 (rfC (.slice A2 n c2) f0 f0).toArray.size := z_there k9 67585 15 (by omega)
    have hone := Go.all_oneCell_toArray (rfC_one (v := .slice A2 n c2) rfl f0 f0)
    have hput2 : Hid (SysIs (w2.setCells b 67585 (rfC (.slice A2 n c2) f0 f0)) b P ∧ Far (fun k => k = b) w (w2.setCells b 67585 (rfC (.slice A2 n c2) f0 f0))) := hput'
    clear hcs9 k9 kz hput'
    go_wp2_with (refine wpList_store_mid rfl 51 (.tmp 20) (.tmp 18) rfl b 67585 (rfC (.slice A2 n c2) f0 f0).toArray ?hxx ?hyy ht infoRf hone ?_)
    case hxx => rfl
    case hyy => rfl
    generalize w2.setCells b 67585 _ = w4 at *
    go_ret
    exact ⟨rfl, hput2.out.1, hput2.out.2⟩
end Go.Proofs.YtpabnbhbcphfiaaGreat
namespace Go.Pol
open Go Go.RowKit
/-- is a number that of the first page of a group? -/
def fstB (p : Int) : Bool := decide (0 ≤ p) && decide (p < 1024) && decide (p % 16 = 0)
def Pg.hugeP (g : Pg) (h : Bool) : Pg := { g with huge := h }
theorem SysC.setHuge {cs : Array Value} {v : Value} {V : Vm} (h : SysC cs v V) {p : Nat} (hp : p < 1024) (x : Bool) : SysC (cs.setIfInBounds (1 + p * 66 + 1) (.bool x)) v (V.setP p ((V.pg p).hugeP x)) := by
  have hs := h.size
  have hg : ∀ i, (cs.setIfInBounds (1 + p * 66 + 1) (.bool x))[i]? = if 1 + p * 66 + 1 = i then some (.bool x) else cs[i]? := fun i => by
    rw [Array.getElem?_setIfInBounds]
    by_cases e : 1 + p * 66 + 1 = i
    · rw [if_pos e, if_pos e, if_pos (by omega)]
    · rw [if_neg e, if_neg e]
  refine ⟨by simp [hs], ?_, fun q hq i hi => ?_, fun i hi => ?_⟩
  · rw [hg, if_neg (by omega)]; exact h.made
  · rw [hg]
    by_cases e : q = p
    · subst e
      have hpg : (V.setP q ((V.pg q).hugeP x)).pg q = (V.pg q).hugeP x := by simp [Vm.setP]
      rw [hpg]
      by_cases e1 : i = 1
      · subst e1; rw [if_pos rfl]; rfl
      · rw [if_neg (by omega), h.page q hq i hi]
        unfold pgC
        match i, e1 with
        | 0, _ => rfl
        | i + 2, _ => rfl
    · rw [if_neg (by omega), h.page q hq i hi]
      simp [Vm.setP, e]
  · rw [hg, if_neg (by omega)]; exact h.rf i hi
theorem SysIs.setHuge {w : World} {b : Nat} {V : Vm} (h : SysIs w b V) {p : Nat} (hp : p < 1024) (x : Bool) : SysIs (w.setCell ⟨b, 1 + p * 66 + 1, none⟩ (.bool x)) b (V.setP p ((V.pg p).hugeP x)) ∧ Far (fun k => k = b) w (w.setCell ⟨b, 1 + p * 66 + 1, none⟩ (.bool x)) := by
  obtain ⟨cs, A, n, cap, h1, h2, h3, h4, h5, h6, h7, h8⟩ := h.ex
  have hF : Far (fun k => k = b) w (w.setCell ⟨b, 1 + p * 66 + 1, none⟩ (.bool x)) := Far.setCell (T := fun k => k = b) (p := ⟨b, 1 + p * 66 + 1, none⟩) (Far.refl _ _) (fun _ => rfl) _
  exact ⟨⟨_, A, n, cap, h1.set_ _ _, h2.setHuge hp x, h3, (h4.keepR hF (fun g' o e h => h6 g' o e h)).more hF.size, h5, h6, h7, fun g o e h => (h8 g o e h).imp fun cr hc => hF.blk hc (h6 g o e h)⟩, hF⟩
/-- what Join makes of a system -/
def joinF (V : Vm) (p : Int) : Int × Vm := if fstB p = false then (7, V) else if (V.pg p.toNat).huge = true then (8, V) else makeF V p 16 5 (fun g => g.kind == 2) (fun g => g.hugeP true)
end Go.Pol
namespace Go.Proofs.YtpabnbhbcphfiaaGreat
open Go Go.Proofs Go.RowKit Go.Pol Go.Shelf
attribute [local go_sem] Oper.semAt_some Go.Pol.wide_fn Go.Pol.wide_depth Go.Pol.wide_fn' Go.Pol.wide_depth'

theorem decommit_any (b : Nat) (a n : Int) (V : Vm) (w : World) (hV : SysIs w b V) :
    Calls Tryz.prog 115 #[.pointer (some ⟨b, 0, none⟩), .int .i64 a, .int .i64 n] w fun e w' => e = .returned (.int .i64 (bec V a n 3 2 1).1) ∧ SysTo b (bec V a n 3 2 1).2 w w' := by
  have HB := Lib.hid (becomes_any 3 2 1 w)
  have HM := Lib.hid (fun W s hW h1 h2 hb => makeBec_any b 3 a n 2 1 s V W hW (by omega) h1 h2 hb)
  have hbs := hV.lt
  have hV' := Lib.hid hV
  obtain ⟨re, hre⟩ : ∃ re, (bec V a n 3 2 1).1 = re := ⟨_, rfl⟩
  obtain ⟨rV, hrV⟩ : ∃ rV, (bec V a n 3 2 1).2 = rV := ⟨_, rfl⟩
  simp only [hre, hrV] at HM ⊢
  unfold SysTo at HM ⊢
  clear hre hrV hV
  go_enter Tryz.func115, Tryz.ntmps115
  go_wp2_with fail
  refine HB.out.mono ?_
  rintro e9 w1 ⟨rfl, k1, k2, hb1⟩
  have V1 := hV'.out.call hb1
  have HM1 := Lib.hid (HM.out w1 _ V1 k1 k2 (by omega))
  clear HM HB k1 k2
  go_wp2_with fail
  refine HM1.out.mono ?_
  rintro e8 w2 ⟨rfl, V2, F2⟩
  go_wp2_with fail
  go_ret
  exact ⟨rfl, V2, (Far.of_below hb1).trans F2⟩
theorem vfirst_any (p : Int) (w : World) : Calls Tryz.prog 71 #[.int .i64 p] w fun e w' => e = .returned (.bool (fstB p)) ∧ w' = w := by
  unfold fstB
  by_cases c1 : 0 ≤ p
  · have d1 : decide (0 ≤ p) = true := by simpa using c1
    by_cases c2 : p < 1024
    · have d2 : decide (p < 1024) = true := by simpa using c2
      have hr : Int.tmod p 16 = p % 16 := Int.tmod_eq_emod_of_nonneg c1
      by_cases c3 : p % 16 = 0
      · have d3 : decide (p % 16 = 0) = true := by simpa using c3
        have d4 : (p % 16 == 0) = true := by simpa using c3
        rw [d1, d2, d3]
        clear d3 c3
        go_enter Tryz.func71, Tryz.ntmps71
        go_wp2_with fail
        go_ret
        exact ⟨rfl, rfl⟩
      · have d3 : decide (p % 16 = 0) = false := by simpa using c3
        have d4 : (p % 16 == 0) = false := by simpa using c3
        rw [d1, d2, d3]
        clear d3 c3
        go_enter Tryz.func71, Tryz.ntmps71
        go_wp2_with fail
        go_ret
        exact ⟨rfl, rfl⟩
    · have d2 : decide (p < 1024) = false := by simpa using c2
      rw [d1, d2]
      go_enter Tryz.func71, Tryz.ntmps71
      go_wp2_with fail
      go_ret
      exact ⟨rfl, rfl⟩
  · have d1 : decide (0 ≤ p) = false := by simpa using c1
    rw [d1]
    go_enter Tryz.func71, Tryz.ntmps71
    go_wp2_with fail
    go_ret
    exact ⟨rfl, rfl⟩
theorem join1_enters : ∀ args w, (callFunc 150 args).run Tryz.prog w = .ok (.enter 150 args) w := enters_of Tryz.func150 (by kernel_rfl) rfl
theorem join2_enters : ∀ args w, (callFunc 151 args).run Tryz.prog w = .ok (.enter 151 args) w := enters_of Tryz.func151 (by kernel_rfl) rfl
theorem join1_any (b p : Nat) (V : Vm) (W : World) (hV : SysIs W b V) (hp : p < 1024) : Calls Tryz.prog 150 #[.pointer (some ⟨b, 1 + p * 66, none⟩)] W fun e W' => e = .returned (.bool ((V.pg p).kind == 2)) ∧ Below W.heap.size W W' := by
  obtain ⟨cs, A, n, cap, hk, hc, _⟩ := hV.ex
  have c0 := (hk.cell (1 + p * 66)).trans (hc.kind hp)
  generalize (V.pg p).kind = kd at *
  clear hk hc hV
  go_enter Tryz.func150, Tryz.ntmps150
  go_wp2_with fail
  go_ret
  exact ⟨rfl, Below.refl _ _⟩
theorem join2_any (b p : Nat) (V : Vm) (W : World) (hV : SysIs W b V) (hp : p < 1024) : Calls Tryz.prog 151 #[.pointer (some ⟨b, 1 + p * 66, none⟩)] W fun e W' => e = .returned (.tuple #[]) ∧ SysIs W' b (V.setP p ((V.pg p).hugeP true)) ∧ Far (fun k => k = b) W W' := by
  have hset := Lib.hid (hV.setHuge hp true)
  obtain ⟨cs, A, n, cap, hk, hc, _⟩ := hV.ex
  have c0 := (hk.cell (1 + p * 66 + 1)).trans (hc.hug hp)
  have f0 := hk.frozen
  clear hk hc hV
  go_enter Tryz.func151, Tryz.ntmps151
  go_wp2_with fail
  go_end0
  exact ⟨rfl, hset.out.1, hset.out.2⟩
set_option maxHeartbeats 1600000 in
theorem vjoin_any (b : Nat) (p : Int) (V : Vm) (w : World) (hV : SysIs w b V) :
    Calls Tryz.prog 90 #[.pointer (some ⟨b, 0, none⟩), .int .i64 p] w fun e w' => e = .returned (.int .i64 (Go.Pol.joinF V p).1) ∧ SysTo b (Go.Pol.joinF V p).2 w w' := by
  have HI := Lib.hid (is_any b V w hV)
  have HF := Lib.hid (vfirst_any p w)
  have HM := Lib.hid (make_any b 5 p 16 (fun g => g.kind == 2) (fun g => g.hugeP true) _ _ #[] #[] V w hV (by omega) join1_enters join2_enters (fun q hq V' W hW _ => join1_any b q V' W hW hq) (fun q hq V' W hW _ => join2_any b q V' W hW hq))
  have hV' := Lib.hid hV
  obtain ⟨R, hR⟩ : ∃ R, Go.Pol.joinF V p = R := ⟨_, rfl⟩
  rw [hR]
  unfold Go.Pol.joinF at hR
  obtain ⟨re, rV⟩ := R
  simp only
  cases hf : fstB p with
  | false =>
    rw [hf] at HF
    rw [if_pos hf] at hR
    simp only [Prod.mk.injEq] at hR
    obtain ⟨rfl, rfl⟩ := hR
    clear hf HM
    go_enter Tryz.func90, Tryz.ntmps90
    go_wp2_with fail
    refine HI.out.mono ?_
    rintro e9 w9 ⟨rfl, hw9⟩
    replace hw9 := hw9.symm
    subst hw9
    go_wp2_with fail
    refine HF.out.mono ?_
    rintro e8 w8 ⟨rfl, hw8⟩
    replace hw8 := hw8.symm
    subst hw8
    go_wp2_with fail
    go_ret
    exact ⟨rfl, hV'.out, Far.refl _ _⟩
  | true =>
    rw [hf] at HF
    rw [if_neg (by simp [hf])] at hR
    have hp0 : 0 ≤ p ∧ p < 1024 := by
      unfold fstB at hf
      simp at hf
      omega
    obtain ⟨q, rfl⟩ : ∃ q : Nat, p = (q : Int) := ⟨p.toNat, by omega⟩
    simp only [Int.toNat_natCast] at hR
    have hq : q < 1024 := by omega
    have hq2 : (q : Int) < 1024 := by omega
    obtain ⟨cs, A, n, cap, hk, hc, _⟩ := hV.ex
    have c1 := (hk.cell (1 + q * 66 + 1)).trans (hc.hug hq)
    clear hk hc hf
    cases hh : (V.pg q).huge with
    | true =>
      rw [hh] at c1
      rw [if_pos hh] at hR
      simp only [Prod.mk.injEq] at hR
      obtain ⟨rfl, rfl⟩ := hR
      clear hh HM
      go_enter Tryz.func90, Tryz.ntmps90
      go_wp2_with fail
      refine HI.out.mono ?_
      rintro e9 w9 ⟨rfl, hw9⟩
      replace hw9 := hw9.symm
      subst hw9
      go_wp2_with fail
      refine HF.out.mono ?_
      rintro e8 w8 ⟨rfl, hw8⟩
      replace hw8 := hw8.symm
      subst hw8
      go_wp2_with fail
      go_ret
      exact ⟨rfl, hV'.out, Far.refl _ _⟩
    | false =>
      rw [hh] at c1
      rw [if_neg (by simp [hh])] at hR
      have hR' := Lib.hid hR
      generalize makeF V (q : Int) 16 5 (fun g => g.kind == 2) (fun g => g.hugeP true) = M at *
      obtain rfl := hR
      clear hh
      unfold SysTo at HM
      go_enter Tryz.func90, Tryz.ntmps90
      go_wp2_with fail
      refine HI.out.mono ?_
      rintro e9 w9 ⟨rfl, hw9⟩
      replace hw9 := hw9.symm
      subst hw9
      go_wp2_with fail
      refine HF.out.mono ?_
      rintro e8 w8 ⟨rfl, hw8⟩
      replace hw8 := hw8.symm
      subst hw8
      go_wp2_with fail
      refine HM.out.mono ?_
      rintro e w1 ⟨rfl, V1, F1⟩
      go_wp2_with fail
      go_ret
      exact ⟨rfl, V1, F1⟩
end Go.Proofs.YtpabnbhbcphfiaaGreat
namespace Go.Pol
open Go Go.RowKit
/-- what Split makes of a system -/
def splitF (V : Vm) (p : Int) : Int × Vm := if fstB p = false then (7, V) else makeF V p 16 6 (fun g => g.huge) (fun g => g.hugeP false)
/-- so many numbers, whichever -/
structure IntsC (cs : Array Value) (n : Nat) : Prop where
  size : cs.size = n
  at_ : ∀ j, j < n → ∃ z : Int, cs[j]? = some (.int .i64 z)
theorem IntsC.set {cs : Array Value} {n : Nat} (h : IntsC cs n) (i : Nat) (z : Int) : IntsC (cs.setIfInBounds i (.int .i64 z)) n := by
  refine ⟨by simp [h.size], fun j hj => ?_⟩
  rw [Array.getElem?_setIfInBounds]
  by_cases e : i = j
  · rw [if_pos e, if_pos (by rw [h.size]; omega)]
    exact ⟨z, rfl⟩
  · rw [if_neg e]
    exact h.at_ j hj
theorem IntsC.one {cs : Array Value} {n : Nat} (h : IntsC cs n) : ∀ x ∈ cs.toList, x.oneCell' = true := by
  intro x hx
  obtain ⟨i, hi, rfl⟩ := List.mem_iff_getElem.1 hx
  obtain ⟨z, hz⟩ := h.at_ i (by rw [← h.size]; simpa using hi)
  rw [Array.getElem?_eq_getElem (by simpa using hi)] at hz
  simp only [Option.some.injEq] at hz
  rw [Array.getElem_toList, hz]
  rfl
end Go.Pol
namespace Go.Proofs.YtpabnbhbcphfiaaGreat
open Go Go.Proofs Go.RowKit Go.Pol Go.Shelf
attribute [local go_sem] Oper.semAt_some Go.Pol.wide_fn Go.Pol.wide_depth Go.Pol.wide_fn' Go.Pol.wide_depth'

theorem split1_enters : ∀ args w, (callFunc 175 args).run Tryz.prog w = .ok (.enter 175 args) w := enters_of Tryz.func175 (by kernel_rfl) rfl
theorem split2_enters : ∀ args w, (callFunc 176 args).run Tryz.prog w = .ok (.enter 176 args) w := enters_of Tryz.func176 (by kernel_rfl) rfl
theorem split1_any (b p : Nat) (V : Vm) (W : World) (hV : SysIs W b V) (hp : p < 1024) : Calls Tryz.prog 175 #[.pointer (some ⟨b, 1 + p * 66, none⟩)] W fun e W' => e = .returned (.bool (V.pg p).huge) ∧ Below W.heap.size W W' := by
  obtain ⟨cs, A, n, cap, hk, hc, _⟩ := hV.ex
  have c0 := (hk.cell (1 + p * 66 + 1)).trans (hc.hug hp)
  generalize (V.pg p).huge = kd at *
  clear hk hc hV
  go_enter Tryz.func175, Tryz.ntmps175
  go_wp2_with fail
  go_ret
  exact ⟨rfl, Below.refl _ _⟩
theorem split2_any (b p : Nat) (V : Vm) (W : World) (hV : SysIs W b V) (hp : p < 1024) : Calls Tryz.prog 176 #[.pointer (some ⟨b, 1 + p * 66, none⟩)] W fun e W' => e = .returned (.tuple #[]) ∧ SysIs W' b (V.setP p ((V.pg p).hugeP false)) ∧ Far (fun k => k = b) W W' := by
  have hset := Lib.hid (hV.setHuge hp false)
  obtain ⟨cs, A, n, cap, hk, hc, _⟩ := hV.ex
  have c0 := (hk.cell (1 + p * 66 + 1)).trans (hc.hug hp)
  have f0 := hk.frozen
  clear hk hc hV
  go_enter Tryz.func176, Tryz.ntmps176
  go_wp2_with fail
  go_end0
  exact ⟨rfl, hset.out.1, hset.out.2⟩
set_option maxHeartbeats 1600000 in
theorem vsplit_any (b : Nat) (p : Int) (V : Vm) (w : World) (hV : SysIs w b V) :
    Calls Tryz.prog 114 #[.pointer (some ⟨b, 0, none⟩), .int .i64 p] w fun e w' => e = .returned (.int .i64 (splitF V p).1) ∧ SysTo b (splitF V p).2 w w' := by
  have HI := Lib.hid (is_any b V w hV)
  have HF := Lib.hid (vfirst_any p w)
  have HM := Lib.hid (make_any b 6 p 16 (fun g => g.huge) (fun g => g.hugeP false) _ _ #[] #[] V w hV (by omega) split1_enters split2_enters (fun q hq V' W hW _ => split1_any b q V' W hW hq) (fun q hq V' W hW _ => split2_any b q V' W hW hq))
  have hV' := Lib.hid hV
  obtain ⟨R, hR⟩ : ∃ R, splitF V p = R := ⟨_, rfl⟩
  rw [hR]
  unfold splitF at hR
  obtain ⟨re, rV⟩ := R
  simp only
  cases hf : fstB p with
  | false =>
    rw [hf] at HF
    rw [if_pos hf] at hR
    simp only [Prod.mk.injEq] at hR
    obtain ⟨rfl, rfl⟩ := hR
    clear hf HM
    go_enter Tryz.func114, Tryz.ntmps114
    go_wp2_with fail
    refine HI.out.mono ?_
    rintro e9 w9 ⟨rfl, hw9⟩
    replace hw9 := hw9.symm
    subst hw9
    go_wp2_with fail
    refine HF.out.mono ?_
    rintro e9 w9 ⟨rfl, hw9⟩
    replace hw9 := hw9.symm
    subst hw9
    go_wp2_with fail
    go_ret
    exact ⟨rfl, hV'.out, Far.refl _ _⟩
  | true =>
    rw [hf] at HF
    rw [if_neg (by simp [hf])] at hR
    have hR' := Lib.hid hR
    generalize makeF V p 16 6 (fun g => g.huge) (fun g => g.hugeP false) = M at *
    obtain rfl := hR
    unfold SysTo at HM
    go_enter Tryz.func114, Tryz.ntmps114
    go_wp2_with fail
    refine HI.out.mono ?_
    rintro e9 w9 ⟨rfl, hw9⟩
    replace hw9 := hw9.symm
    subst hw9
    go_wp2_with fail
    refine HF.out.mono ?_
    rintro e9 w9 ⟨rfl, hw9⟩
    replace hw9 := hw9.symm
    subst hw9
    go_wp2_with fail
    refine HM.out.mono ?_
    rintro e w1 ⟨rfl, V1, F1⟩
    go_wp2_with fail
    go_ret
    exact ⟨rfl, V1, F1⟩
/-- four pointers to numbers -/
theorem infoVc : (Tryz.prog.info? 163).map (·.size) = some 5 := by kernel_rfl
set_option maxRecDepth 100000 in
set_option maxHeartbeats 1600000 in
theorem counts_any (b : Nat) (V : Vm) (w : World) (hV : SysIs w b V) (hk : KindOk V) :
    Calls Tryz.prog 85 #[.pointer (some ⟨b, 0, none⟩)] w fun e w' => (∃ cs, IntsC cs 5 ∧ e = .returned (.tuple #[.agg cs, .int .i64 0])) ∧ Below w.heap.size w w' := by
  have hb0 := (Below.refl w.heap.size w).alloc (Nat.le_refl _) (.cells #[.int .i64 0, .int .i64 0, .int .i64 0, .int .i64 0, .int .i64 0] 163)
  have k0 := Blk.new w 163 #[.int .i64 0, .int .i64 0, .int .i64 0, .int .i64 0, .int .i64 0]
  have HI := Lib.hid (fun W h => is_any b V W h)
  have HF := Lib.hid (fun (p : Int) W => vfirst_any p W)
  have V0 := hV.call hb0
  have hbs := hV.lt
  have hk' := Lib.hid hk
  have hV' := Lib.hid hV
  obtain ⟨s, hs⟩ : ∃ s, w.heap.size = s := ⟨_, rfl⟩
  have hsz0 : (w.alloc (.cells #[.int .i64 0, .int .i64 0, .int .i64 0, .int .i64 0, .int .i64 0] 163)).heap.size = s + 1 := by rw [World.size_alloc, hs]
  rw [hs] at k0 hbs
  clear hk hV
  go_enter Tryz.func85, Tryz.ntmps85
  go_upto_region 1 with fail
  generalize w.alloc _ = w0 at *
  go_wp2_with fail
  refine (HI.out _ V0).mono ?_
  rintro e9 w9 ⟨rfl, hw9⟩
  replace hw9 := hw9.symm
  subst hw9
  go_upto_region 4 with fail
  have hb1 := hb0.alloc (by omega) (.cells #[.int .i64 0, .int .i64 0, .int .i64 0, .int .i64 0, .int .i64 0] 163)
  have k01 := k0.alloc (.cells #[.int .i64 0, .int .i64 0, .int .i64 0, .int .i64 0, .int .i64 0] 163)
  have k4 := Blk.new w0 163 #[.int .i64 0, .int .i64 0, .int .i64 0, .int .i64 0, .int .i64 0]
  have hsz1 : (w0.alloc (.cells #[.int .i64 0, .int .i64 0, .int .i64 0, .int .i64 0, .int .i64 0] 163)).heap.size = s + 2 := by rw [World.size_alloc, hsz0]
  rw [hsz0] at k4
  clear V0 hb0 k0
  generalize w0.alloc _ = w1 at *
  have k5 := Blk.new w1 236 #[Value.pointer (some ⟨s + 1, 0, none⟩), Value.pointer (some ⟨s + 1, 1, none⟩), Value.pointer (some ⟨s + 1, 2, none⟩), Value.pointer (some ⟨s + 1, 3, none⟩)]
  rw [hsz1] at k5
  have k24 := k4.alloc (.cells #[Value.pointer (some ⟨s + 1, 0, none⟩), Value.pointer (some ⟨s + 1, 1, none⟩), Value.pointer (some ⟨s + 1, 2, none⟩), Value.pointer (some ⟨s + 1, 3, none⟩)] 236)
  have k20 := k01.alloc (.cells #[Value.pointer (some ⟨s + 1, 0, none⟩), Value.pointer (some ⟨s + 1, 1, none⟩), Value.pointer (some ⟨s + 1, 2, none⟩), Value.pointer (some ⟨s + 1, 3, none⟩)] 236)
  have B2 := hb1.alloc (by omega) (.cells #[Value.pointer (some ⟨s + 1, 0, none⟩), Value.pointer (some ⟨s + 1, 1, none⟩), Value.pointer (some ⟨s + 1, 2, none⟩), Value.pointer (some ⟨s + 1, 3, none⟩)] 236)
  go_wp2_with fail
  generalize w1.alloc _ = w2 at *
  have hint : IntsC #[.int .i64 0, .int .i64 0, .int .i64 0, .int .i64 0, .int .i64 0] 5 := ⟨rfl, fun j hj => by
    rcases (show j = 0 ∨ j = 1 ∨ j = 2 ∨ j = 3 ∨ j = 4 by omega) with rfl | rfl | rfl | rfl | rfl <;> exact ⟨0, rfl⟩⟩
  clear k4 k01 hb1 hsz0 hsz1
  go_loopw [16] (fun u wr => ∃ i : Nat, i ≤ 1024 ∧ u = .int .i64 i ∧ Below w.heap.size w wr ∧ Blk wr s 163 #[.int .i64 0, .int .i64 0, .int .i64 0, .int .i64 0, .int .i64 0] ∧ Blk wr (s + 2) 236 ([Value.pointer (some ⟨s + 1, 0, none⟩), Value.pointer (some ⟨s + 1, 1, none⟩), Value.pointer (some ⟨s + 1, 2, none⟩), Value.pointer (some ⟨s + 1, 3, none⟩)]).toArray ∧ ∃ cs, IntsC cs 5 ∧ Blk wr (s + 1) 163 cs) (fun u _ => 1024 - (intOf u).toNat)
  case atStart => exact ⟨0, by omega, rfl, B2, k20, k5, _, hint, k24⟩
  case round =>
    clear k24 k20 B2 k5 hint
    obtain ⟨i, hi, rfl, hB, h0, h5, cs, hcs, h4⟩ := hrel
    by_cases hlt : i < 1024
    · have hil : (i : Int) < 1024 := by omega
      have hlt' : decide ((i : Int) < 1024) = true := by simpa using hil
      obtain ⟨cv, A, n, cap, hkv, hcv, _⟩ := (hV'.out.call hB).ex
      obtain ⟨hk0, hk3⟩ := hk'.out i hlt
      have e0 := (hkv.cell (1 + i * 66)).trans (hcv.kind hlt)
      generalize (V.pg i).kind = kd at *
      obtain ⟨d, rfl⟩ : ∃ d : Nat, kd = (d : Int) := ⟨kd.toNat, by omega⟩
      have hd4 : (d : Int) < 4 := by omega
      have e1 : wr.cell? ⟨s + 2, d, none⟩ = some (.pointer (some ⟨s + 1, d, none⟩)) := by
        rw [h5.cell]
        rcases (show d = 0 ∨ d = 1 ∨ d = 2 ∨ d = 3 by omega) with rfl | rfl | rfl | rfl <;> rfl
      obtain ⟨z, hz⟩ := hcs.at_ d (by omega)
      have e2 := (h4.cell d).trans hz
      have f2 := h4.frozen d
      have k4' := h4.set_ d (.int .i64 (wrap64 (z + 1)))
      have hcs' := hcs.set d (wrap64 (z + 1))
      have F4 := Far.setCell (T := fun k => k = s + 1) (p := ⟨s + 1, d, none⟩) (Far.refl _ wr) (fun _ => rfl) (.int .i64 (wrap64 (z + 1)))
      go_upto_region 9 with fail
      generalize wr.setCell ⟨s + 1, d, none⟩ _ = w3 at *
      clear e0 e1 e2 f2 hkv hcv hcs h4 hz
      have B3 := hB.trans (F4.below (by have := hB.size; omega) (fun k hk e => by omega))
      have h03 := F4.blk h0 (by show ¬ s = s + 1; omega)
      have h53 := F4.blk h5 (by show ¬ s + 2 = s + 1; omega)
      clear h0 h5 F4 hB
      generalize cs.setIfInBounds d _ = cs at *
      obtain ⟨cv, A, n, cap, hkv, hcv, _⟩ := (hV'.out.call B3).ex
      have e0 := (hkv.cell (1 + i * 66 + 1)).trans (hcv.hug hlt)
      obtain ⟨z4, hz4⟩ := hcs'.at_ 4 (by omega)
      have e2 := (k4'.cell 4).trans hz4
      have f2 := k4'.frozen 4
      have k4'' := k4'.set_ 4 (.int .i64 (wrap64 (z4 + 1)))
      have hcs'' := hcs'.set 4 (wrap64 (z4 + 1))
      have F4 := Far.setCell (T := fun k => k = s + 1) (p := ⟨s + 1, 4, none⟩) (Far.refl _ w3) (fun _ => rfl) (.int .i64 (wrap64 (z4 + 1)))
      clear hkv hcv
      cases hh : (V.pg i).huge with
      | false =>
        rw [hh] at e0
        clear hh
        go_wp2_with fail
        go_roundw
        case rel => exact ⟨i + 1, by omega, by go_num, B3, h03, h53, _, hcs', k4'⟩
        case measure => simp [intOf]; omega
      | true =>
        rw [hh] at e0
        clear hh
        have HF' := Lib.hid (HF.out (i : Int) w3)
        cases hf : fstB (i : Int) with
        | false =>
          rw [hf] at HF'
          clear hf
          go_wp2_with fail
          refine HF'.out.mono ?_
          rintro e9 w9 ⟨rfl, hw9⟩
          replace hw9 := hw9.symm
          subst hw9
          go_wp2_with fail
          go_roundw
          case rel => exact ⟨i + 1, by omega, by go_num, B3, h03, h53, _, hcs', k4'⟩
          case measure => simp [intOf]; omega
        | true =>
          rw [hf] at HF'
          clear hf
          go_wp2_with fail
          refine HF'.out.mono ?_
          rintro e9 w9 ⟨rfl, hw9⟩
          replace hw9 := hw9.symm
          subst hw9
          have B4 := B3.trans (F4.below (by have := B3.size; omega) (fun k hk e => by omega))
          have h04 := F4.blk h03 (by show ¬ s = s + 1; omega)
          have h54 := F4.blk h53 (by show ¬ s + 2 = s + 1; omega)
          go_wp2_with fail
          go_roundw
          case rel => exact ⟨i + 1, by omega, by go_num, B4, h04, h54, _, hcs'', k4''⟩
          case measure => simp [intOf]; omega
    · obtain rfl : i = 1024 := by omega
      have hlt' : decide (((1024 : Nat) : Int) < 1024) = false := by simp
      have hra : wr.rangeAt (s + 1) 0 cs.toList := fun j v hj => by
        rw [Nat.zero_add, h4.cell]
        simpa using hj
      have hsz := hcs.size
      have ht : wr.there s 0 cs.size := by rw [hsz]; exact z_there h0 0 5 (by simp)
      have hk9 := Blk.puts (g := s) (t := 163) (w := wr) (cs := #[]) cs.toList 0 wr _ h0
      rw [putA_all (by rw [Array.length_toList, hsz]; rfl), Array.toArray_toList] at hk9
      have hF9 := Far.puts (T := fun k => k = s) rfl cs.toList 0 wr wr (Far.refl _ _)
      have hone := Go.all_oneCell_toArray (hcs.one)
      rw [Array.toArray_toList] at hone
      have hinf : (Tryz.prog.info? 163).map (·.size) = some cs.size := by rw [hsz]; exact infoVc
      go_wp2_with (first
        | (refine wpList_load_mid rfl 163 (.tmp 4) rfl (s + 1) 0 rfl cs.toList _ hra Tryz.underlying163 rfl (by rw [Array.length_toList, hsz]; kernel_rfl) ?_; rw [Array.toArray_toList])
        | (refine wpList_store_mid rfl 163 (.tmp 2) (.tmp 48) rfl s 0 cs rfl rfl ht hinf hone ?_))
      generalize World.setCells wr s 0 _ = w9 at *
      have hra9 : w9.rangeAt s 0 cs.toList := fun j v hj => by
        rw [Nat.zero_add, hk9.cell]
        simpa using hj
      have hl9 := run_loadVar_mid (P := Tryz.prog) w9 s 0 163 cs.toList _ hra9 Tryz.underlying163 rfl (by rw [Array.length_toList, hsz]; kernel_rfl)
      rw [Array.toArray_toList] at hl9
      refine bodyPost_ret (v := .tuple #[.agg cs, .int .i64 0]) ?_ rfl ?_
      · exact z_results_cell_tmp Tryz.results85 rfl hl9
      exact ⟨⟨_, hcs, rfl⟩, hB.trans (hF9.below (by have := hB.size; omega) (fun k hk e => by omega))⟩
end Go.Proofs.YtpabnbhbcphfiaaGreat
namespace Go.Pol
open Go Go.RowKit
/-- may a byte be read or written? -/
def whF (V : Vm) (a : Int) : Int := if a < 0 ∨ 65536 ≤ a then 7 else if (V.pg (a / 64).toNat).kind ≠ 2 then 61 else 0
def Pg.byteP (g : Pg) (k : Nat) (v : Int) : Pg := { g with byt := fun j => if j = k then v else g.byt j }
/-- what Write makes of a system -/
def writeF (V : Vm) (a : Int) (v : Int) : Vm := if whF V a = 0 then V.setP (a / 64).toNat ((V.pg (a / 64).toNat).byteP (a % 64).toNat v) else V
theorem SysC.setByte {cs : Array Value} {v : Value} {V : Vm} (h : SysC cs v V) {p k : Nat} (hp : p < 1024) (hk : k < 64) (x : Int) : SysC (cs.setIfInBounds (1 + p * 66 + 2 + k) (.int .u8 x)) v (V.setP p ((V.pg p).byteP k x)) := by
  have hs := h.size
  have hg : ∀ i, (cs.setIfInBounds (1 + p * 66 + 2 + k) (.int .u8 x))[i]? = if 1 + p * 66 + 2 + k = i then some (.int .u8 x) else cs[i]? := fun i => by
    rw [Array.getElem?_setIfInBounds]
    by_cases e : 1 + p * 66 + 2 + k = i
    · rw [if_pos e, if_pos e, if_pos (by omega)]
    · rw [if_neg e, if_neg e]
  refine ⟨by simp [hs], ?_, fun q hq i hi => ?_, fun i hi => ?_⟩
  · rw [hg, if_neg (by omega)]; exact h.made
  · rw [hg]
    by_cases e : q = p
    · subst e
      have hpg : (V.setP q ((V.pg q).byteP k x)).pg q = (V.pg q).byteP k x := by simp [Vm.setP]
      rw [hpg]
      match i with
      | 0 => rw [if_neg (by omega), h.page q hq 0 hi]; rfl
      | 1 => rw [if_neg (by omega), h.page q hq 1 hi]; rfl
      | j + 2 =>
        have hj : j < 64 := by omega
        have e2 : ∀ g : Pg, (pgC g)[j + 2]? = some (.int .u8 (g.byt j)) := fun g => by
          unfold pgC
          simp [hj]
        rw [e2]
        by_cases e1 : j = k
        · subst e1
          rw [if_pos (by omega)]
          simp [Pg.byteP]
        · rw [if_neg (by omega), h.page q hq (j + 2) hi, e2]
          simp [Pg.byteP, e1]
    · rw [if_neg (by omega), h.page q hq i hi]
      simp [Vm.setP, e]
  · rw [hg, if_neg (by omega)]; exact h.rf i hi
theorem SysIs.setByte {w : World} {b : Nat} {V : Vm} (h : SysIs w b V) {p k : Nat} (hp : p < 1024) (hk : k < 64) (x : Int) : SysIs (w.setCell ⟨b, 1 + p * 66 + 2 + k, none⟩ (.int .u8 x)) b (V.setP p ((V.pg p).byteP k x)) ∧ Far (fun k => k = b) w (w.setCell ⟨b, 1 + p * 66 + 2 + k, none⟩ (.int .u8 x)) := by
  obtain ⟨cs, A, n, cap, h1, h2, h3, h4, h5, h6, h7, h8⟩ := h.ex
  have hF : Far (fun k => k = b) w (w.setCell ⟨b, 1 + p * 66 + 2 + k, none⟩ (.int .u8 x)) := Far.setCell (T := fun k => k = b) (p := ⟨b, 1 + p * 66 + 2 + k, none⟩) (Far.refl _ _) (fun _ => rfl) _
  exact ⟨⟨_, A, n, cap, h1.set_ _ _, h2.setByte hp hk x, h3, (h4.keepR hF (fun g' o e h => h6 g' o e h)).more hF.size, h5, h6, h7, fun g o e h => (h8 g o e h).imp fun cr hc => hF.blk hc (h6 g o e h)⟩, hF⟩
/-! the kinds of pages stay kinds -/
theorem KindOk.setP {V : Vm} (h : KindOk V) (p : Nat) {g : Pg} (hg : 0 ≤ g.kind ∧ g.kind ≤ 3) : KindOk (V.setP p g) := fun q hq => by
  show 0 ≤ (if q = p then g else V.pg q).kind ∧ (if q = p then g else V.pg q).kind ≤ 3
  split
  · exact hg
  · exact h q hq
theorem KindOk.eachP {V : Vm} (h : KindOk V) (a n : Nat) {f : Pg → Pg} (hf : ∀ g : Pg, (0 ≤ g.kind ∧ g.kind ≤ 3) → 0 ≤ (f g).kind ∧ (f g).kind ≤ 3) : KindOk (V.eachP a n f) := fun q hq => by
  show 0 ≤ (if a ≤ q ∧ q < a + n then f (V.pg q) else V.pg q).kind ∧ (if a ≤ q ∧ q < a + n then f (V.pg q) else V.pg q).kind ≤ 3
  split
  · exact hf _ (h q hq)
  · exact h q hq
theorem Vm.ref_pg (V : Vm) (call : Nat) : (V.ref call).pg = V.pg := by
  unfold Vm.ref
  repeat (first | rfl | split)
theorem KindOk.ref {V : Vm} (h : KindOk V) (call : Nat) : KindOk (V.ref call) := fun q hq => by rw [Vm.ref_pg]; exact h q hq
theorem KindOk.makeF {V : Vm} (h : KindOk V) (a n : Int) (call : Nat) (pr : Pg → Bool) {f : Pg → Pg} (hf : ∀ g : Pg, (0 ≤ g.kind ∧ g.kind ≤ 3) → 0 ≤ (f g).kind ∧ (f g).kind ≤ 3) : KindOk (makeF V a n call pr f).2 := by
  unfold Go.Pol.makeF
  split
  · exact h
  · split
    · exact h
    · split
      · exact h.ref call
      · exact (h.ref call).eachP _ _ hf
theorem KindOk.bec {V : Vm} (h : KindOk V) (a n : Int) (call : Nat) (fr : Int) {tk : Int} (hk : 0 ≤ tk ∧ tk ≤ 3) : KindOk (bec V a n call fr tk).2 := h.makeF _ _ _ _ (fun _ _ => hk)
theorem KindOk.join {V : Vm} (h : KindOk V) (p : Int) : KindOk (joinF V p).2 := by
  unfold joinF
  split
  · exact h
  · split
    · exact h
    · exact h.makeF _ _ _ _ (fun _ hg => hg)
theorem KindOk.split {V : Vm} (h : KindOk V) (p : Int) : KindOk (splitF V p).2 := by
  unfold splitF
  split
  · exact h
  · exact h.makeF _ _ _ _ (fun _ hg => hg)
theorem KindOk.write {V : Vm} (h : KindOk V) (a v : Int) : KindOk (writeF V a v) := by
  unfold writeF
  split
  · rename_i hw
    refine h.setP _ ?_
    show 0 ≤ (V.pg (a / 64).toNat).kind ∧ (V.pg (a / 64).toNat).kind ≤ 3
    have ha : ¬ (a < 0 ∨ 65536 ≤ a) := fun hc => by unfold whF at hw; rw [if_pos hc] at hw; omega
    exact h _ (by omega)
  · exact h
theorem KindOk.plan {V : Vm} (h : KindOk V) (l : List Ru) : KindOk (planF V l) := by
  unfold planF
  split
  · exact h
  · exact h
end Go.Pol
namespace Go.Proofs.YtpabnbhbcphfiaaGreat
open Go Go.Proofs Go.RowKit Go.Pol Go.Shelf
attribute [local go_sem] Oper.semAt_some Go.Pol.wide_fn Go.Pol.wide_depth Go.Pol.wide_fn' Go.Pol.wide_depth'

/-- the place of a byte, or none -/
def whP (b : Nat) (V : Vm) (a : Int) : Option Addr := if whF V a = 0 then some ⟨b, 1 + (a / 64).toNat * 66 + 2 + (a % 64).toNat, none⟩ else none
theorem where_any (b : Nat) (a : Int) (V : Vm) (w : World) (hV : SysIs w b V) :
    Calls Tryz.prog 149 #[.pointer (some ⟨b, 0, none⟩), .int .i64 a] w fun e w' => e = .returned (.tuple #[.pointer (whP b V a), .int .i64 (whF V a)]) ∧ w' = w := by
  have HI := Lib.hid (is_any b V w hV)
  unfold whP
  obtain ⟨R, hR⟩ : ∃ R, whF V a = R := ⟨_, rfl⟩
  rw [hR]
  unfold whF at hR
  by_cases c1 : a < 0
  · have d1 : decide (a < 0) = true := by simpa using c1
    rw [if_pos (.inl c1)] at hR
    subst hR
    rw [if_neg (by omega)]
    go_enter Tryz.func149, Tryz.ntmps149
    go_wp2_with fail
    refine HI.out.mono ?_
    rintro e9 w9 ⟨rfl, hw9⟩
    replace hw9 := hw9.symm
    subst hw9
    go_wp2_with fail
    go_ret2
    exact ⟨rfl, rfl⟩
  have d1 : decide (a < 0) = false := by simpa using c1
  by_cases c2 : 65536 ≤ a
  · have d2 : decide (65536 ≤ a) = true := by simpa using c2
    rw [if_pos (.inr c2)] at hR
    subst hR
    rw [if_neg (by omega)]
    go_enter Tryz.func149, Tryz.ntmps149
    go_wp2_with fail
    refine HI.out.mono ?_
    rintro e9 w9 ⟨rfl, hw9⟩
    replace hw9 := hw9.symm
    subst hw9
    go_wp2_with fail
    go_ret2
    exact ⟨rfl, rfl⟩
  have d2 : decide (65536 ≤ a) = false := by simpa using c2
  rw [if_neg (by omega)] at hR
  obtain ⟨q, k, rfl, hq, hk⟩ : ∃ q k : Nat, a = ((q * 64 + k : Nat) : Int) ∧ q < 1024 ∧ k < 64 := ⟨(a / 64).toNat, (a % 64).toNat, by omega, by omega, by omega⟩
  have e1 : (((q * 64 + k : Nat) : Int) / 64).toNat = q := by omega
  have e2 : (((q * 64 + k : Nat) : Int) % 64).toNat = k := by omega
  rw [e1] at hR ⊢
  rw [e2]
  clear e1 e2
  have h0 : (0 : Int) ≤ ((q * 64 + k : Nat) : Int) := by omega
  have hdv : Int.tdiv ((q * 64 + k : Nat) : Int) 64 = (q : Int) := by rw [Int.tdiv_eq_ediv_of_nonneg h0]; omega
  have hmd : Int.tmod ((q * 64 + k : Nat) : Int) 64 = (k : Int) := by rw [Int.tmod_eq_emod_of_nonneg h0]; omega
  have hwq : wrap64 (q : Int) = (q : Int) := by unfold wrap64; omega
  have hql : (q : Int) < 1024 := by omega
  have hkl : (k : Int) < 64 := by omega
  generalize ((q * 64 + k : Nat) : Int) = a at *
  obtain ⟨cs, A, n, cap, hkb, hc, _⟩ := hV.ex
  have c0 := (hkb.cell (1 + q * 66)).trans (hc.kind hq)
  by_cases hkd : (V.pg q).kind = 2
  · rw [if_neg (by simpa using hkd)] at hR
    subst hR
    rw [if_pos rfl]
    rw [hkd] at c0
    clear hkd hkb hc hV
    go_enter Tryz.func149, Tryz.ntmps149
    go_wp2_with fail
    refine HI.out.mono ?_
    rintro e9 w9 ⟨rfl, hw9⟩
    replace hw9 := hw9.symm
    subst hw9
    go_wp2_with fail
    go_ret2
    exact ⟨rfl, rfl⟩
  · rw [if_pos hkd] at hR
    subst hR
    rw [if_neg (by omega)]
    generalize (V.pg q).kind = kd at *
    have hkd' : (kd != 2) = true := by simpa using hkd
    clear hkb hc hV
    go_enter Tryz.func149, Tryz.ntmps149
    go_wp2_with fail
    refine HI.out.mono ?_
    rintro e9 w9 ⟨rfl, hw9⟩
    replace hw9 := hw9.symm
    subst hw9
    go_wp2_with fail
    go_ret2
    exact ⟨rfl, rfl⟩
theorem write_any (b : Nat) (a v : Int) (V : Vm) (w : World) (hV : SysIs w b V) :
    Calls Tryz.prog 89 #[.pointer (some ⟨b, 0, none⟩), .int .i64 a, .int .u8 v] w fun e w' => e = .returned (.int .i64 (whF V a)) ∧ SysTo b (writeF V a v) w w' := by
  have HW := Lib.hid (where_any b a V w hV)
  have hV' := Lib.hid hV
  unfold SysTo
  obtain ⟨P, hP⟩ : ∃ P, writeF V a v = P := ⟨_, rfl⟩
  rw [hP]
  unfold writeF at hP
  unfold whP at HW
  obtain ⟨R, hR⟩ : ∃ R, whF V a = R := ⟨_, rfl⟩
  rw [hR] at hP HW ⊢
  by_cases c0 : R = 0
  · subst c0
    rw [if_pos rfl] at hP HW
    have ha : ¬ (a < 0 ∨ 65536 ≤ a) := fun hc => by unfold whF at hR; rw [if_pos hc] at hR; omega
    have hq : (a / 64).toNat < 1024 := by omega
    have hk : (a % 64).toNat < 64 := by omega
    generalize (a / 64).toNat = q at *
    generalize (a % 64).toNat = k at *
    have hset := hV.setByte hq hk v
    rw [hP] at hset
    have hset' := Lib.hid hset
    obtain ⟨cs, A, n, cap, hkb, hc, _⟩ := hV.ex
    have e1 := (hkb.cell (1 + q * 66 + (k + 2))).trans (hc.byte hq hk)
    rw [show 1 + q * 66 + (k + 2) = 1 + q * 66 + 2 + k by omega] at e1
    have f1 := hkb.frozen
    clear hkb hc hV hP hset hR ha
    go_enter Tryz.func89, Tryz.ntmps89
    go_wp2_with fail
    refine HW.out.mono ?_
    rintro e9 w9 ⟨rfl, hw9⟩
    replace hw9 := hw9.symm
    subst hw9
    go_wp2_with fail
    go_ret
    exact ⟨rfl, hset'.out.1, hset'.out.2⟩
  · rw [if_neg c0] at hP HW
    subst hP
    have d0 : (R == 0) = false := by simpa using c0
    clear hR hV
    go_enter Tryz.func89, Tryz.ntmps89
    go_wp2_with fail
    refine HW.out.mono ?_
    rintro e9 w9 ⟨rfl, hw9⟩
    replace hw9 := hw9.symm
    subst hw9
    go_wp2_with fail
    go_ret
    exact ⟨rfl, hV'.out, Far.refl _ _⟩
end Go.Proofs.YtpabnbhbcphfiaaGreat
namespace Go.Pol
open Go Go.RowKit
/-- the cells of the reference's system -/
structure RefC (cs : Array Value) (v : Value) (V : Vm) : Prop where
  size : cs.size = 66639
  kind : ∀ p, p < 1024 → cs[p]? = some (.int .i64 (V.pg p).kind)
  huge : ∀ p, p < 1024 → cs[1024 + p / 16]? = some (.bool (V.pg p).huge)
  byt : ∀ p, p < 1024 → ∀ k, k < 64 → cs[1088 + p * 64 + k]? = some (.int .u8 ((V.pg p).byt k))
  rf : ∀ i, i < 15 → cs[66624 + i]? = (rfC v V.rf.calls V.rf.hits)[i]?
/-- the reference's system in memory; its rules lie below B -/
structure RefIs (w : World) (B b : Nat) (V : Vm) : Prop where
  ex : ∃ (cs : Array Value) (A : Option Addr) (n cap : Nat), Blk w b 142 cs ∧ RefC cs (.slice A n cap) V ∧ (V.rf.rules.length = n ∧ (A = none → cap = 0)) ∧ Rd w B A (fl ruC V.rf.rules) ∧ B ≤ b ∧ RfOk V.rf
theorem RefIs.lt {w : World} {B b : Nat} {V : Vm} (h : RefIs w B b V) : b < w.heap.size := by
  obtain ⟨cs, A, n, cap, hk, _⟩ := h.ex
  exact hk.lt
theorem RefIs.base {w : World} {B b : Nat} {V : Vm} (h : RefIs w B b V) : B ≤ b := by
  obtain ⟨cs, A, n, cap, _, _, _, _, h, _⟩ := h.ex
  exact h
theorem RefIs.ok {w : World} {B b : Nat} {V : Vm} (h : RefIs w B b V) : RfOk V.rf := by
  obtain ⟨cs, A, n, cap, _, _, _, _, _, h⟩ := h.ex
  exact h
/-- rules below a bound are kept by what turns nothing there -/
theorem Rd.keepB {T : Nat → Prop} {w w' : World} {B : Nat} {A : Option Addr} {xs : List Value} (h : Rd w B A xs) (hF : Far T w w') (hT : ∀ k, T k → B ≤ k) : Rd w' B A xs := fun k hk => by
  obtain ⟨b, o, e, hb, hc⟩ := h k hk
  exact ⟨b, o, e, hb, hF.cell hc (fun ht => by have := hT _ ht; simp only at this; omega)⟩
theorem RefIs.far {w w' : World} {B b : Nat} {V : Vm} {T : Nat → Prop} (h : RefIs w B b V) (hF : Far T w w') (hT : ∀ k, T k → B ≤ k ∧ k ≠ b) : RefIs w' B b V := by
  obtain ⟨cs, A, n, cap, h1, h2, h3, h4, h5, h6⟩ := h.ex
  exact ⟨cs, A, n, cap, hF.blk h1 (fun ht => (hT _ ht).2 rfl), h2, h3, h4.keepB hF (fun k hk => (hT k hk).1), h5, h6⟩
theorem RefIs.call {w w' : World} {B b : Nat} {V : Vm} (h : RefIs w B b V) (hb : Below w.heap.size w w') : RefIs w' B b V :=
  h.far (T := fun _ => False) (Far.of_below hb) (fun _ h => h.elim)
/-- a page's kind put anew, and its bytes -/
theorem RefC.put {cs : Array Value} {v : Value} {V : Vm} (h : RefC cs v V) {p : Nat} (hp : p < 1024) (hh : (V.pg p).huge = false) (tk : Int) :
    RefC (putA (cs.setIfInBounds p (.int .i64 tk)) (1088 + p * 64) (List.replicate 64 (.int .u8 0))) v (V.setP p (newPg tk)) := by
  have hs := h.size
  have hl : (List.replicate 64 (Value.int .u8 0)).length = 64 := by simp
  have hg := putA_get (List.replicate 64 (Value.int .u8 0)) (cs.setIfInBounds p (.int .i64 tk)) (1088 + p * 64) (by rw [hl, Array.size_setIfInBounds]; omega)
  have hg2 : ∀ i, (cs.setIfInBounds p (.int .i64 tk))[i]? = if p = i then some (.int .i64 tk) else cs[i]? := fun i => by
    rw [Array.getElem?_setIfInBounds]
    by_cases e : p = i
    · subst e; rw [if_pos rfl, if_pos rfl, if_pos (by omega)]
    · rw [if_neg e, if_neg e]
  have hpg : ∀ q, (V.setP p (newPg tk)).pg q = if q = p then newPg tk else V.pg q := fun q => rfl
  refine ⟨by rw [putA_size, Array.size_setIfInBounds]; exact hs, fun q hq => ?_, fun q hq => ?_, fun q hq k hk => ?_, fun i hi => ?_⟩
  · rw [hg, if_neg (by omega), hg2, hpg]
    by_cases e : q = p
    · subst e; rw [if_pos rfl, if_pos rfl]; rfl
    · rw [if_neg (fun h => e h.symm), if_neg e]; exact h.kind q hq
  · rw [hg, if_neg (by omega), hg2, if_neg (by omega), h.huge q hq, hpg]
    by_cases e : q = p
    · subst e; rw [if_pos rfl, hh]; rfl
    · rw [if_neg e]
  · rw [hg, hl, hpg]
    by_cases e : q = p
    · subst e
      rw [if_pos (by omega), if_pos rfl, List.getElem?_replicate, if_pos (by omega)]; rfl
    · rw [if_neg (by omega), hg2, if_neg (by omega), if_neg e]; exact h.byt q hq k hk
  · rw [hg, if_neg (by rw [hl]; omega), hg2, if_neg (by omega)]; exact h.rf i hi
theorem RefC.putRf {cs : Array Value} {v : Value} {V : Vm} (h : RefC cs v V) (u : Value) (S : Rf) : RefC (putA cs 66624 (rfC u S.calls S.hits)) u { V with rf := S } := by
  have hs := h.size
  have hl : (rfC u S.calls S.hits).length = 15 := rfl
  have hg := putA_get (rfC u S.calls S.hits) cs 66624 (by rw [hl]; omega)
  refine ⟨by rw [putA_size]; exact hs, fun q hq => ?_, fun q hq => ?_, fun q hq k hk => ?_, fun i hi => ?_⟩
  · rw [hg, if_neg (by omega)]; exact h.kind q hq
  · rw [hg, if_neg (by omega)]; exact h.huge q hq
  · rw [hg, if_neg (by omega)]; exact h.byt q hq k hk
  · rw [hg, if_pos (by omega), show 66624 + i - 66624 = i by omega]
theorem RefIs.put {w : World} {B b : Nat} {V : Vm} (h : RefIs w B b V) {p : Nat} (hp : p < 1024) (hh : (V.pg p).huge = false) (tk : Int) :
    RefIs ((w.setCell ⟨b, p, none⟩ (.int .i64 tk)).setCells b (1088 + p * 64) (List.replicate 64 (.int .u8 0))) B b (V.setP p (newPg tk)) ∧ Far (fun k => k = b) w ((w.setCell ⟨b, p, none⟩ (.int .i64 tk)).setCells b (1088 + p * 64) (List.replicate 64 (.int .u8 0))) := by
  obtain ⟨cs, A, n, cap, h1, h2, h3, h4, h5, h6⟩ := h.ex
  have hF1 : Far (fun k => k = b) w (w.setCell ⟨b, p, none⟩ (.int .i64 tk)) := Far.setCell (T := fun k => k = b) (p := ⟨b, p, none⟩) (Far.refl _ _) (fun _ => rfl) _
  have hF := Far.puts (T := fun k => k = b) rfl (List.replicate 64 (Value.int .u8 0)) (1088 + p * 64) w _ hF1
  exact ⟨⟨_, A, n, cap, Blk.puts (w := w) (cs := #[]) (List.replicate 64 (Value.int .u8 0)) (1088 + p * 64) _ _ (h1.set_ _ _), h2.put hp hh tk, h3, h4.keepB hF (fun k e => by omega), h5, h6⟩, hF⟩
theorem RefIs.putRf {w w' : World} {B b : Nat} {V : Vm} (h : RefIs w B b V) (S : Rf) (A : Option Addr) (n cap : Nat) (hB : Below w.heap.size w w') (hn : S.rules.length = n) (hz : A = none → cap = 0) (hr : Rd w' B A (fl ruC S.rules)) (hS : RfOk S) :
    RefIs (w'.setCells b 66624 (rfC (.slice A n cap) S.calls S.hits)) B b { V with rf := S } ∧ Far (fun k => k = b) w (w'.setCells b 66624 (rfC (.slice A n cap) S.calls S.hits)) := by
  have hlt := h.lt
  obtain ⟨cs, A0, n0, cap0, h1, h2, _, _, h5, _⟩ := h.ex
  have k1 := h1.call hB
  have hF := Far.puts (T := fun k => k = b) rfl (rfC (.slice A n cap) S.calls S.hits) 66624 w' w' (Far.refl _ _)
  exact ⟨⟨_, A, n, cap, Blk.puts (w := w) (cs := #[]) (rfC (.slice A n cap) S.calls S.hits) 66624 w' cs k1, h2.putRf _ S, ⟨hn, hz⟩, hr.keepB hF (fun k e => by omega), h5, hS⟩, (Far.of_below hB).trans hF⟩
/-! the zero cells -/
def zB : Value → Bool
  | .bool b => !b
  | _ => false
end Go.Pol
namespace Go.Proofs.YtpabnbhbcphfiaaGreat
open Go Go.Proofs Go.RowKit Go.Pol
theorem infoKinds : (Tryz.prog.info? 85).map (·.size) = some 64 := by kernel_rfl
end Go.Proofs.YtpabnbhbcphfiaaGreat
namespace Go.Pol
open Go Go.RowKit
/-- pages of huge groups are committed; pages that are not have no bytes; kinds are kinds -/
structure GoodV (V : Vm) : Prop where
  kinds : KindOk V
  hug : ∀ p, p < 1024 → (V.pg p).huge = true → (V.pg p).kind = 2
  byt : ∀ p, p < 1024 → (V.pg p).kind ≠ 2 → ∀ k, (V.pg p).byt k = 0
theorem GoodV.of_pg {V U : Vm} (h : GoodV V) (e : U.pg = V.pg) : GoodV U := ⟨fun p hp => by rw [e]; exact h.kinds p hp, fun p hp => by rw [e]; exact h.hug p hp, fun p hp => by rw [e]; exact h.byt p hp⟩
theorem GoodV.eachP {V : Vm} (h : GoodV V) (a n : Nat) (f : Pg → Pg) (hk : ∀ p, p < 1024 → a ≤ p → p < a + n → 0 ≤ (f (V.pg p)).kind ∧ (f (V.pg p)).kind ≤ 3 ∧ ((f (V.pg p)).huge = true → (f (V.pg p)).kind = 2) ∧ ((f (V.pg p)).kind ≠ 2 → ∀ k, (f (V.pg p)).byt k = 0)) : GoodV (V.eachP a n f) := by
  have e : ∀ p, (V.eachP a n f).pg p = if a ≤ p ∧ p < a + n then f (V.pg p) else V.pg p := fun p => rfl
  refine ⟨fun p hp => ?_, fun p hp => ?_, fun p hp => ?_⟩
  · rw [e]
    split
    · rename_i h1; exact ⟨(hk p hp h1.1 h1.2).1, (hk p hp h1.1 h1.2).2.1⟩
    · exact h.kinds p hp
  · rw [e]
    split
    · rename_i h1; exact (hk p hp h1.1 h1.2).2.2.1
    · exact h.hug p hp
  · rw [e]
    split
    · rename_i h1; exact (hk p hp h1.1 h1.2).2.2.2
    · exact h.byt p hp
theorem GoodV.make {V : Vm} (h : GoodV V) (a n : Int) (call : Nat) (pr : Pg → Bool) (f : Pg → Pg) (hf : ∀ p, p < 1024 → pr (V.pg p) = true → 0 ≤ (f (V.pg p)).kind ∧ (f (V.pg p)).kind ≤ 3 ∧ ((f (V.pg p)).huge = true → (f (V.pg p)).kind = 2) ∧ ((f (V.pg p)).kind ≠ 2 → ∀ k, (f (V.pg p)).byt k = 0)) :
    GoodV (makeF V a n call pr f).2 := by
  unfold makeF
  split
  · exact h
  · split
    · exact h
    · rename_i hp
      rw [Bool.not_eq_false] at hp
      split
      · exact h.of_pg rfl
      · exact (h.of_pg (U := V.ref call) rfl).eachP _ _ _ (fun p hp2 h1 h2 => hf p hp2 (allP_iff.1 hp p h1 h2))
theorem GoodV.bec {V : Vm} (h : GoodV V) (a n : Int) (call : Nat) (fr tk : Int) (ht : 0 ≤ tk ∧ tk ≤ 3) : GoodV (bec V a n call fr tk).2 :=
  h.make a n call _ _ (fun p _ _ => ⟨ht.1, ht.2, fun h => (by cases h), fun _ _ => rfl⟩)
theorem GoodV.join {V : Vm} (h : GoodV V) (p : Int) : GoodV (Go.Pol.joinF V p).2 := by
  unfold Go.Pol.joinF
  split
  · exact h
  · split
    · exact h
    · refine h.make _ _ _ _ _ (fun q hq hk => ?_)
      have h2 : (V.pg q).kind = 2 := by simpa using hk
      have hg : ((V.pg q).hugeP true).kind = 2 := h2
      rw [hg]
      exact ⟨by omega, by omega, fun _ => rfl, fun h => absurd rfl h⟩
theorem GoodV.split {V : Vm} (h : GoodV V) (p : Int) : GoodV (splitF V p).2 := by
  unfold splitF
  split
  · exact h
  · refine h.make _ _ _ _ _ (fun q hq hk => ?_)
    have hb := h.kinds q hq
    exact ⟨hb.1, hb.2, fun h => (by cases h), h.byt q hq⟩
theorem GoodV.write {V : Vm} (h : GoodV V) (a v : Int) : GoodV (writeF V a v) := by
  unfold writeF
  by_cases c : whF V a = 0
  · rw [if_pos c]
    have hk : (V.pg (a / 64).toNat).kind = 2 := by
      unfold whF at c
      split at c
      · omega
      · split at c
        · omega
        · rename_i h; simpa using h
    have e : ∀ q, (V.setP (a / 64).toNat ((V.pg (a / 64).toNat).byteP (a % 64).toNat v)).pg q = if q = (a / 64).toNat then (V.pg (a / 64).toNat).byteP (a % 64).toNat v else V.pg q := fun q => rfl
    have e2 : ((V.pg (a / 64).toNat).byteP (a % 64).toNat v).kind = 2 := hk
    refine ⟨fun q hq => ?_, fun q hq => ?_, fun q hq => ?_⟩
    · rw [e]
      split
      · rw [e2]; omega
      · exact h.kinds q hq
    · rw [e]
      split
      · intro _; exact e2
      · exact h.hug q hq
    · rw [e]
      split
      · intro hc; exact absurd e2 hc
      · exact h.byt q hq
  · rw [if_neg c]; exact h
theorem GoodV.new : GoodV newVm := ⟨fun p _ => by show (0 : Int) ≤ 0 ∧ (0 : Int) ≤ 3; omega, fun p _ h => (by cases h), fun p _ _ k => rfl⟩
theorem GoodV.plan {V : Vm} (h : GoodV V) (l : List Ru) : GoodV (planF V l) := by
  unfold planF
  split
  · exact h.of_pg rfl
  · exact h
end Go.Pol
namespace Go.Pol
open Go Go.RowKit
/-- a span reserved and committed -/
def layS (V : Vm) (x : Int × Int) : Vm := if (bec V x.1 x.2 0 0 1).1 = 0 then (bec (bec V x.1 x.2 0 0 1).2 x.1 x.2 2 1 2).2 else (bec V x.1 x.2 0 0 1).2
def hugS (V : Vm) (g : Int) : Vm := if 0 ≤ g ∧ g < 64 then (joinF V (g * 16)).2 else V
/-- a byte to be written -/
def wrC (x : Int × Int) : List Value := [.int .i64 x.1, .int .u8 x.2]
theorem wrC_len (x : Int × Int) : (wrC x).length = 2 := rfl
/-- what the laws make a system of -/
def sysF (us : List (Int × Int)) (hs : List Int) (ws : List (Int × Int)) (l : List Ru) : Vm := planF (hs.foldl hugS (ws.foldl (fun V x => writeF V x.1 x.2) (us.foldl layS newVm))) l
theorem z_take {α : Type} (d : α) (l : List α) {k : Nat} (hk : k < l.length) : l.take (k + 1) = l.take k ++ [l.getD k d] := by
  rw [List.take_succ_eq_append_getElem hk, List.getD_eq_getElem?_getD, List.getElem?_eq_getElem hk]
  rfl
/-- a system is handed back, made of this -/
def SysO (V : Vm) (w : World) (e : Ending) (w' : World) : Prop := ∃ b, e = .returned (.pointer (some ⟨b, 0, none⟩)) ∧ SysIs w' b V ∧ w.heap.size ≤ b ∧ Below w.heap.size w w'
end Go.Pol
namespace Go.Proofs.YtpabnbhbcphfiaaGreat
open Go Go.Proofs Go.RowKit Go.Pol Go.Shelf
attribute [local go_sem] Oper.semAt_some Go.Pol.wide_fn Go.Pol.wide_depth Go.Pol.wide_fn' Go.Pol.wide_depth'

set_option maxRecDepth 100000 in
set_option maxHeartbeats 3200000 in
theorem sys13_any (As Ah Aw Ar : Option Addr) (ns cs nh ch nw cw nr cr : Nat) (us : List (Int × Int)) (hs : List Int) (ws : List (Int × Int)) (l : List Ru) (w : World)
    (hus : us.length = ns) (hhs : hs.length = nh) (hws : ws.length = nw) (hl : l.length = nr) (hm : ns ≤ 1000 ∧ nh ≤ 1000 ∧ nw ≤ 1000 ∧ nr ≤ 1000) (hz : Ar = none → cr = 0)
    (ru : RU w w.heap.size As us) (ri : RI w w.heap.size Ah hs) (rb : Rd w w.heap.size Aw (fl wrC ws)) (rr : Rd w w.heap.size Ar (fl ruC l)) :
    Calls Tryz.prog 39 #[.agg #[.slice As ns cs, .slice Ah nh ch, .slice Aw nw cw, .slice Ar nr cr]] w (SysO (sysF us hs ws l) w) := by
  obtain ⟨hm1, hm2, hm3, hm4⟩ := hm
  obtain ⟨P, hP⟩ : ∃ P, sysF us hs ws l = P := ⟨_, rfl⟩
  rw [hP]
  have hP' : Hid (planF (hs.foldl hugS (ws.foldl (fun V x => writeF V x.1 x.2) (us.foldl layS newVm))) l = P) := Lib.hid hP
  clear hP
  have HN := Lib.hid (fun W => new_any W)
  have hb0 := (Below.refl w.heap.size w).alloc (Nat.le_refl _) (.cells #[.slice As ns cs, .slice Ah nh ch, .slice Aw nw cw, .slice Ar nr cr] 90)
  have k0 := Blk.new w 90 #[.slice As ns cs, .slice Ah nh ch, .slice Aw nw cw, .slice Ar nr cr]
  have ru0 := Lib.hid (ru.below hb0)
  have ri0 := Lib.hid (ri.below hb0)
  have rb0 := Lib.hid (rb.below hb0)
  have rr0 := Lib.hid (rr.below hb0)
  obtain ⟨s, hs0⟩ : ∃ s, w.heap.size = s := ⟨_, rfl⟩
  have hsz0 : (w.alloc (.cells #[.slice As ns cs, .slice Ah nh ch, .slice Aw nw cw, .slice Ar nr cr] 90)).heap.size = s + 1 := by rw [World.size_alloc, hs0]
  rw [hs0] at k0 hb0 ru0 ri0 rb0 rr0
  clear ru ri rb rr
  go_enter Tryz.func39, Tryz.ntmps39
  go_upto_region 1 with fail
  generalize w.alloc _ = w0 at *
  go_wp2_with fail
  unfold NewO at HN
  refine (HN.out w0).mono ?_
  rintro e w1 ⟨b, rfl, V1, hbb, hb1⟩
  rw [hsz0] at hb1 hbb
  go_wp2_with fail
  go_loopw [5] (fun u wr => ∃ k : Nat, k ≤ ns ∧ u = .int .i64 k ∧ Below (s + 1) w0 wr ∧ Hid (SysIs wr b ((us.take k).foldl layS newVm))) (fun u _ => ns - (intOf u).toNat)
  case atStart => exact ⟨0, by omega, rfl, hb1, Lib.hid (by simpa using V1)⟩
  case round =>
    clear V1 hb1 HN
    obtain ⟨k, hk, rfl, hB, hV⟩ := hrel
    have kb := k0.below hB (by omega)
    by_cases hlt : k < ns
    · have hlt' : decide ((k : Int) < (ns : Int)) = true := by simpa using hlt
      have hstep : (us.take (k + 1)).foldl layS newVm = layS ((us.take k).foldl layS newVm) (us.getD k (0, 0)) := by
        rw [z_take (0, 0) us (by omega), List.foldl_append]
        rfl
      have hstep' := Lib.hid hstep
      obtain ⟨ub, uo, rfl, hub, hc, hd⟩ := (ru0.out.below (hB.mono (by omega))).at_' (k := k) (by omega)
      have hget := Lib.hid (fun (W : World) (h : Below (s + 1) w0 W) => (ru0.out.below (h.mono (by omega))).at_' (k := k) (by omega))
      generalize us.getD k (0, 0) = x at *
      generalize (us.take k).foldl layS newVm = V at *
      obtain ⟨xa, xn⟩ := x
      simp only at hc hd
      have e0 := fun x : Ext wr => (x.blk kb).cell
      have e1 := fun x : Ext wr => x.cell hc
      have e2 := fun x : Ext wr => x.cell hd
      clear hstep hc hd
      have c0 := kb.cell
      go_upto_region 7 with fail
      clear c0
      refine region_ext_tail 13 (by kernel_rfl) (by kernel_rfl) ?_
      simp only [List.take_succ_cons, List.take_zero, List.drop_succ_cons, List.drop_zero]
      repeat (go_big_quiet_step (fail))
      refine wpQuiet_nil ?_
      intro z
      go_wp2_with fail
      refine (reserve_any b xa xn V z.w (hV.out.call z.le)).mono ?_
      rintro e w2 ⟨rfl, V2, F2⟩
      have hB2 := (hB.trans (z.le.mono (by have := hB.size; omega))).trans (F2.below (by have := hB.size; have := z.le.size; omega) (fun k hk e => by omega))
      have hst : Hid ((us.take (k + 1)).foldl layS newVm = if (bec V xa xn 0 0 1).1 = 0 then (bec (bec V xa xn 0 0 1).2 xa xn 2 1 2).2 else (bec V xa xn 0 0 1).2) := hstep'
      generalize bec V xa xn 0 0 1 = R at *
      obtain ⟨r, U⟩ := R
      simp only at V2 hst
      have hst' := hst.out
      have V2' := Lib.hid V2
      clear hstep' e0 e1 e2 hV F2 V2 hst
      by_cases hr : r = 0
      · rw [if_pos hr] at hst'
        have hst2 := Lib.hid hst'
        subst hr
        have kb2 := k0.below hB2 (by omega)
        obtain ⟨ub2, uo2, hu2, _, hc, hd⟩ := hget.out w2 hB2
        cases hu2
        try simp only at hc hd
        have e0 := fun x : Ext w2 => (x.blk kb2).cell
        have e1 := fun x : Ext w2 => x.cell hc
        have e2 := fun x : Ext w2 => x.cell hd
        clear hst' hc hd
        go_upto_region 8 with fail
        refine region_ext_tail 13 (by kernel_rfl) (by kernel_rfl) ?_
        simp only [List.take_succ_cons, List.take_zero, List.drop_succ_cons, List.drop_zero]
        repeat (go_big_quiet_step (fail))
        refine wpQuiet_nil ?_
        intro z2
        go_wp2_with fail
        refine (commit_any b xa xn U z2.w (V2'.out.call z2.le)).mono ?_
        rintro e w3 ⟨rfl, V3, F3⟩
        have hB3 := (hB2.trans (z2.le.mono (by have := hB2.size; omega))).trans (F3.below (by have := hB2.size; have := z2.le.size; omega) (fun k hk e => by omega))
        have V3' := Lib.hid V3
        clear e0 e1 e2 V3 F3
        go_wp2_with fail
        go_roundw
        case rel => exact ⟨k + 1, by omega, by go_num, hB3, Lib.hid (by rw [hst2.out]; exact V3'.out)⟩
        case measure => simp [intOf]; omega
      · rw [if_neg hr] at hst'
        have hr' : (r == 0) = false := by simpa using hr
        have hst2 := Lib.hid hst'
        clear hst'
        go_wp2_with fail
        go_roundw
        case rel => exact ⟨k + 1, by omega, by go_num, hB2, Lib.hid (by rw [hst2.out]; exact V2'.out)⟩
        case measure => simp [intOf]; omega
    · obtain rfl : k = ns := by omega
      have hlt' : decide ((k : Int) < (k : Int)) = false := by simp
      have hV2 : Hid (SysIs wr b (us.foldl layS newVm)) := Lib.hid (by have := hV.out; rwa [← hus, List.take_length] at this)
      have c0 := kb.cell
      generalize us.foldl layS newVm = V0 at *
      clear hV ru0 hus
      go_wp2_with fail
      clear hlt' c0
      have hB0 := hB
      have hV0 := hV2
      clear hB hV2 kb
      go_loopw [6] (fun u wr => ∃ k : Nat, k ≤ nw ∧ u = .int .i64 k ∧ Below (s + 1) w0 wr ∧ Hid (SysIs wr b ((ws.take k).foldl (fun V x => writeF V x.1 x.2) V0))) (fun u _ => nw - (intOf u).toNat)
      case atStart => exact ⟨0, by omega, rfl, hB0, by simpa using hV0⟩
      case round =>
        clear hV0 hB0
        obtain ⟨k, hk, rfl, hB, hV⟩ := hrel
        have kb := k0.below hB (by omega)
        have c0 := kb.cell
        by_cases hlt : k < nw
        · have hlt' : decide ((k : Int) < (nw : Int)) = true := by simpa using hlt
          have hstep : (ws.take (k + 1)).foldl (fun V x => writeF V x.1 x.2) V0 = writeF ((ws.take k).foldl (fun V x => writeF V x.1 x.2) V0) (ws.getD k (0, 0)).1 (ws.getD k (0, 0)).2 := by
            rw [z_take (0, 0) ws (by omega), List.foldl_append]
            rfl
          have hstep' := Lib.hid hstep
          obtain ⟨ub, uo, rfl, hub, hc⟩ := (rb0.out.below (hB.mono (by omega))).elem wrC_len (by omega) (0, 0) (k := k) (by omega)
          generalize ws.getD k (0, 0) = x at *
          generalize (ws.take k).foldl _ V0 = V at *
          obtain ⟨xa, xv⟩ := x
          have hc0 : wr.cell? ⟨ub, uo + k * 2, none⟩ = some (.int .i64 xa) := hc 0 _ rfl
          have hc1 : wr.cell? ⟨ub, uo + k * 2 + 1, none⟩ = some (.int .u8 xv) := hc 1 _ rfl
          have e0 := fun x : Ext wr => (x.blk kb).cell
          have e1 := fun x : Ext wr => x.cell hc0
          have e2 := fun x : Ext wr => x.cell hc1
          clear hstep hc hc0 hc1
          go_upto_region 12 with fail
          clear c0
          refine region_ext_tail 13 (by kernel_rfl) (by kernel_rfl) ?_
          simp only [List.take_succ_cons, List.take_zero, List.drop_succ_cons, List.drop_zero]
          repeat (go_big_quiet_step (fail))
          refine wpQuiet_nil ?_
          intro z
          go_wp2_with fail
          refine (write_any b xa xv V z.w (hV.out.call z.le)).mono ?_
          rintro e w2 ⟨rfl, V2, F2⟩
          have hB2 := (hB.trans (z.le.mono (by have := hB.size; omega))).trans (F2.below (by have := hB.size; have := z.le.size; omega) (fun k hk e => by omega))
          have V2' := Lib.hid V2
          clear e0 e1 e2 hV F2 V2
          go_wp2_with fail
          go_roundw
          case rel => exact ⟨k + 1, by omega, by go_num, hB2, Lib.hid (by rw [hstep'.out]; exact V2'.out)⟩
          case measure => simp [intOf]; omega
        · obtain rfl : k = nw := by omega
          have hlt' : decide ((k : Int) < (k : Int)) = false := by simp
          have hV2 : Hid (SysIs wr b (ws.foldl (fun V x => writeF V x.1 x.2) V0)) := Lib.hid (by have := hV.out; rwa [← hws, List.take_length] at this)
          generalize ws.foldl (fun V x => writeF V x.1 x.2) V0 = V1 at *
          clear hV rb0 hws
          go_wp2_with fail
          clear hlt' c0
          have hB0 := hB
          have hV0 := hV2
          clear hB hV2 kb
          go_loopw [7] (fun u wr => ∃ k : Nat, k ≤ nh ∧ u = .int .i64 k ∧ Below (s + 1) w0 wr ∧ Hid (SysIs wr b ((hs.take k).foldl hugS V1))) (fun u _ => nh - (intOf u).toNat)
          case atStart => exact ⟨0, by omega, rfl, hB0, by simpa using hV0⟩
          case round =>
            clear hV0 hB0
            obtain ⟨k, hk, rfl, hB, hV⟩ := hrel
            have kb := k0.below hB (by omega)
            have c0 := kb.cell
            by_cases hlt : k < nh
            · have hlt' : decide ((k : Int) < (nh : Int)) = true := by simpa using hlt
              have hstep : (hs.take (k + 1)).foldl hugS V1 = hugS ((hs.take k).foldl hugS V1) (hs.getD k 0) := by
                rw [z_take 0 hs (by omega), List.foldl_append]
                rfl
              obtain ⟨ub, uo, rfl, hub, hc⟩ := (ri0.out.below (hB.mono (by omega))).at_ (k := k) (by omega)
              generalize hs.getD k 0 = x at *
              generalize (hs.take k).foldl hugS V1 = V at *
              have hstep' : Hid ((hs.take (k + 1)).foldl hugS V1 = if 0 ≤ x ∧ x < 64 then (Go.Pol.joinF V (x * 16)).2 else V) := Lib.hid hstep
              clear hstep
              by_cases c1 : 0 ≤ x
              · have d1 : decide (0 ≤ x) = true := by simpa using c1
                by_cases c2 : x < 64
                · have d2 : decide (x < 64) = true := by simpa using c2
                  have hst := hstep'.out
                  rw [if_pos ⟨c1, c2⟩] at hst
                  have hst' := Lib.hid hst
                  have hw16 : wrap64 (x * 16) = x * 16 := by unfold wrap64; omega
                  have HJ := Lib.hid (vjoin_any b (x * 16) V wr hV.out)
                  clear hst hstep'
                  go_wp2_with fail
                  refine HJ.out.mono ?_
                  rintro e w2 ⟨rfl, V2, F2⟩
                  have hB2 := hB.trans (F2.below (by have := hB.size; omega) (fun k hk e => by omega))
                  have V2' := Lib.hid V2
                  clear hV F2 V2 HJ
                  go_wp2_with fail
                  go_roundw
                  case rel => exact ⟨k + 1, by omega, by go_num, hB2, Lib.hid (by rw [hst'.out]; exact V2'.out)⟩
                  case measure => simp [intOf]; omega
                · have d2 : decide (x < 64) = false := by simpa using c2
                  have hst := hstep'.out
                  rw [if_neg (fun h => c2 h.2)] at hst
                  have hst' := Lib.hid hst
                  clear hst hstep'
                  go_wp2_with fail
                  go_roundw
                  case rel => exact ⟨k + 1, by omega, by go_num, hB, Lib.hid (by rw [hst'.out]; exact hV.out)⟩
                  case measure => simp [intOf]; omega
              · have d1 : decide (0 ≤ x) = false := by simpa using c1
                have hst := hstep'.out
                rw [if_neg (fun h => c1 h.1)] at hst
                have hst' := Lib.hid hst
                clear hst hstep'
                go_wp2_with fail
                go_roundw
                case rel => exact ⟨k + 1, by omega, by go_num, hB, Lib.hid (by rw [hst'.out]; exact hV.out)⟩
                case measure => simp [intOf]; omega
            · obtain rfl : k = nh := by omega
              have hlt' : decide ((k : Int) < (k : Int)) = false := by simp
              have hV2 : Hid (SysIs wr b (hs.foldl hugS V1)) := Lib.hid (by have := hV.out; rwa [← hhs, List.take_length] at this)
              have HP := Lib.hid (plan_any b Ar nr cr l _ wr hV2.out hl (by omega) hz ((rr0.out.below (hB.mono (by omega))).more (by have := hB.size; omega)))
              go_wp2_with fail
              refine HP.out.mono ?_
              rintro e w2 ⟨rfl, V2, F2⟩
              have hB2 := hb0.trans ((hB.trans (F2.below (by have := hB.size; omega) (fun k hk e => by omega))).mono (by omega))
              have V2' := Lib.hid V2
              clear HP hV2 F2 V2 hB
              go_wp2_with fail
              go_ret
              exact ⟨b, rfl, by rw [← hP'.out]; exact V2'.out, by omega, by rw [hs0]; exact hB2⟩
end Go.Proofs.YtpabnbhbcphfiaaGreat
namespace Go.Pol
open Go Go.RowKit
theorem GoodV.lay {V : Vm} (h : GoodV V) (x : Int × Int) : GoodV (layS V x) := by
  unfold layS
  split
  · exact (h.bec _ _ _ _ _ (by omega)).bec _ _ _ _ _ (by omega)
  · exact h.bec _ _ _ _ _ (by omega)
theorem GoodV.hugS {V : Vm} (h : GoodV V) (g : Int) : GoodV (Go.Pol.hugS V g) := by
  unfold Go.Pol.hugS
  split
  · exact h.join _
  · exact h
end Go.Pol
namespace Go.Pol
open Go
def greatP (ns nh nw nr : Nat) : Bool := decide (60 < ns) || decide (70 < nh) || decide (100 < nw) || decide (55 < nr)
end Go.Pol
namespace Go.Proofs.YtpabnbhbcphfiaaGreat
open Go Go.Proofs Go.RowKit Go.Pol Go.Shelf
attribute [local go_sem] Oper.semAt_some Go.Pol.wide_fn Go.Pol.wide_depth Go.Pol.wide_fn' Go.Pol.wide_depth'

theorem great13_any (As Ah Aw Ar : Option Addr) (ns cs nh ch nw cw nr cr : Nat) (w : World) :
    Calls Tryz.prog 37 #[.agg #[.slice As ns cs, .slice Ah nh ch, .slice Aw nw cw, .slice Ar nr cr]] w fun e w' => e = .returned (.bool (greatP ns nh nw nr)) ∧ Below w.heap.size w w' := by
  have hb0 := (Below.refl w.heap.size w).alloc (Nat.le_refl _) (.cells #[.slice As ns cs, .slice Ah nh ch, .slice Aw nw cw, .slice Ar nr cr] 90)
  have hG := Lib.hid (show greatP ns nh nw nr = (decide (60 < ns) || decide (70 < nh) || decide (100 < nw) || decide (55 < nr)) from rfl)
  generalize greatP ns nh nw nr = R at *
  by_cases h1 : 60 < ns
  · have d1 : decide ((60 : Int) < (ns : Int)) = true := by rw [decide_eq_true_eq]; omega
    have hR : Hid (true = R) := Lib.hid (by rw [hG.out, decide_eq_true h1]; simp)
    clear h1
    go_enter Tryz.func37, Tryz.ntmps37
    go_wp2_with fail
    go_ret
    exact ⟨z_ret_bool hR.out, hb0⟩
  have d1 : decide ((60 : Int) < (ns : Int)) = false := by rw [decide_eq_false_iff_not]; omega
  by_cases h2 : 70 < nh
  · have d2 : decide ((70 : Int) < (nh : Int)) = true := by rw [decide_eq_true_eq]; omega
    have hR : Hid (true = R) := Lib.hid (by rw [hG.out, decide_eq_true h2]; simp)
    clear h1 h2
    go_enter Tryz.func37, Tryz.ntmps37
    go_wp2_with fail
    go_ret
    exact ⟨z_ret_bool hR.out, hb0⟩
  have d2 : decide ((70 : Int) < (nh : Int)) = false := by rw [decide_eq_false_iff_not]; omega
  by_cases h3 : 100 < nw
  · have d3 : decide ((100 : Int) < (nw : Int)) = true := by rw [decide_eq_true_eq]; omega
    have hR : Hid (true = R) := Lib.hid (by rw [hG.out, decide_eq_true h3]; simp)
    clear h1 h2 h3
    go_enter Tryz.func37, Tryz.ntmps37
    go_wp2_with fail
    go_ret
    exact ⟨z_ret_bool hR.out, hb0⟩
  have d3 : decide ((100 : Int) < (nw : Int)) = false := by rw [decide_eq_false_iff_not]; omega
  by_cases h4 : 55 < nr
  · have d4 : decide ((55 : Int) < (nr : Int)) = true := by rw [decide_eq_true_eq]; omega
    have hR : Hid (true = R) := Lib.hid (by rw [hG.out, decide_eq_true h4]; simp)
    clear h1 h2 h3 h4
    go_enter Tryz.func37, Tryz.ntmps37
    go_wp2_with fail
    go_ret
    exact ⟨z_ret_bool hR.out, hb0⟩
  · have d4 : decide ((55 : Int) < (nr : Int)) = false := by rw [decide_eq_false_iff_not]; omega
    have hR : Hid (false = R) := Lib.hid (by rw [hG.out, decide_eq_false h1, decide_eq_false h2, decide_eq_false h3, decide_eq_false h4]; rfl)
    clear h1 h2 h3 h4
    go_enter Tryz.func37, Tryz.ntmps37
    go_wp2_with fail
    go_ret
    exact ⟨z_ret_bool hR.out, hb0⟩
end Go.Proofs.YtpabnbhbcphfiaaGreat
namespace Go.Pol
open Go Go.Proofs Go.RowKit Go.ChangeShapes Go.WideShapes Go.Deep
theorem Rd.of_elem {α : Type} {enc : α → List Value} {sz : Nat} {w : World} {B b o : Nat} (hlen : ∀ x, (enc x).length = sz) (h0 : 0 < sz) (d : α) (us : List α) (hb : us ≠ [] → b < B)
    (h : ∀ k, k < us.length → ∀ (j : Nat) (v : Value), (enc (us.getD k d))[j]? = some v → w.cell? ⟨b, o + k * sz + j, none⟩ = some v) : Rd w B (some ⟨b, o, none⟩) (fl enc us) := fun i hi => by
  have hl := fl_len hlen us
  have hk : i / sz < us.length := Nat.div_lt_of_lt_mul (by rw [Nat.mul_comm, ← hl]; exact hi)
  have hj : i % sz < sz := Nat.mod_lt _ h0
  have hi2 : i / sz * sz + i % sz = i := Nat.div_add_mod' i sz
  have e := fl_at hlen d us (i / sz) hk (i % sz) hj
  rw [hi2] at e
  refine ⟨b, o, rfl, hb (fun h => by rw [h] at hk; simp at hk), ?_⟩
  have := h (i / sz) hk (i % sz) _ (e.symm.trans (List.getElem?_eq_getElem hi))
  rwa [Nat.add_assoc, hi2] at this
section
variable {H : Type} {enc : TypeId × Value → H} {P : Program} {w : World} {base : Nat} {held : Bool}
/-- bytes to be written that came in -/
theorem openW {t e : TypeId} {f0 f1 : Field} {fuel : Nat} {v : Value} {x : DataW H × List MemPlace} (ht : P.underlying t = some (.slice e)) (he : P.underlying e = some (.struct #[f0, f1])) (hone : oneCellFields P #[f0, f1] = true) (hC : P.cellsOf e = 2)
    (h0 : P.underlying f0.type = some (.int .i64)) (h1 : P.underlying f1.type = some (.int .u8))
    (h : DataW.trod enc P w base (fun _ => true) held fuel t [v] = some x) : ∃ (A : Option Addr) (n cap : Nat) (us : List (Int × Int)), v = .slice A n cap ∧ us.length = n ∧ n ≤ maxLen ∧ Rd w w.heap.size A (fl wrC us) := by
  rcases open_slice_fields ht he hone hC h with ⟨hcs, _⟩ | ⟨a, len, cap, m, D, Pl, hcs, _, hl, hm, hmm, _, hi⟩
  · simp only [List.cons.injEq, and_true] at hcs
    exact ⟨none, 0, 0, [], hcs, rfl, by unfold maxLen; omega, fun k hk => absurd hk (by simp [fl])⟩
  · simp only [List.cons.injEq, and_true] at hcs
    simp only [if_true] at hmm
    have each : ∀ i, i < len → ∃ p q : Int, w.cell? (a.add (i * 2)) = some (.int .i64 p) ∧ w.cell? (a.add (i * 2 + 1)) = some (.int .u8 q) := by
      intro i hil
      obtain ⟨ys, n, _, _, _, hf⟩ := hi i (by omega)
      obtain ⟨v0, y0, c0, _, t0⟩ := hf 0 f0 rfl
      obtain ⟨v1, y1, c1, _, t1⟩ := hf 1 f1 rfl
      obtain ⟨p, e0, _⟩ := DataW.trod_int h0 t0
      obtain ⟨q, e1, _⟩ := DataW.trod_int h1 t1
      simp only [List.cons.injEq, and_true] at e0 e1
      subst e0; subst e1
      exact ⟨p, q, c0, c1⟩
    obtain ⟨f, hf⟩ := Classical.axiomOfChoice (r := fun (i : Nat) (pq : Int × Int) => i < len → w.cell? (a.add (i * 2)) = some (.int .i64 pq.1) ∧ w.cell? (a.add (i * 2 + 1)) = some (.int .u8 pq.2)) (fun i => by
      by_cases hil : i < len
      · obtain ⟨p, q, c0, c1⟩ := each i hil
        exact ⟨(p, q), fun _ => ⟨c0, c1⟩⟩
      · exact ⟨(0, 0), fun h => absurd h hil⟩)
    by_cases hz : len = 0
    · subst hz
      exact ⟨some a, 0, cap, [], hcs, rfl, by omega, fun k hk => absurd hk (by simp [fl])⟩
    · obtain ⟨b, off, spot⟩ := a
      have hspot : spot = none := by
        obtain ⟨c0', _⟩ := hf 0 (by omega)
        simpa [Addr.add] using World.cell?_spot c0'
      subst hspot
      refine ⟨_, len, cap, (List.range len).map f, hcs, by simp, by omega, Rd.of_elem wrC_len (by omega) (0, 0) _ (fun _ => ?_) (fun k hk j v hj => ?_)⟩
      · obtain ⟨c0', _⟩ := hf 0 (by omega)
        rw [add_plain] at c0'
        exact World.block_lt_of_cell? _ _ c0'
      · have hk' : k < len := by simpa using hk
        obtain ⟨c0, c1⟩ := hf k hk'
        have e : ((List.range len).map f).getD k (0, 0) = f k := by simp [List.getD_eq_getElem?_getD, hk']
        rw [e] at hj
        rw [add_plain] at c0 c1
        match j, hj with
        | 0, hj => cases hj; exact c0
        | 1, hj => cases hj; rw [Nat.add_assoc]; exact c1
/-- rules that came in -/
theorem openR {t e : TypeId} {f0 f1 f2 f3 : Field} {fuel : Nat} {v : Value} {x : DataW H × List MemPlace} (ht : P.underlying t = some (.slice e)) (he : P.underlying e = some (.struct #[f0, f1, f2, f3])) (hone : oneCellFields P #[f0, f1, f2, f3] = true) (hC : P.cellsOf e = 4)
    (h0 : P.underlying f0.type = some (.int .i64)) (h1 : P.underlying f1.type = some (.int .i64)) (h2 : P.underlying f2.type = some (.int .i64)) (h3 : P.underlying f3.type = some (.int .i64))
    (h : DataW.trod enc P w base (fun _ => true) held fuel t [v] = some x) : ∃ (A : Option Addr) (n cap : Nat) (us : List Ru), v = .slice A n cap ∧ us.length = n ∧ n ≤ maxLen ∧ Rd w w.heap.size A (fl ruC us) ∧ (A = none → cap = 0) := by
  rcases open_slice_fields ht he hone hC h with ⟨hcs, _⟩ | ⟨a, len, cap, m, D, Pl, hcs, _, hl, hm, hmm, _, hi⟩
  · simp only [List.cons.injEq, and_true] at hcs
    exact ⟨none, 0, 0, [], hcs, rfl, by unfold maxLen; omega, fun k hk => absurd hk (by simp [fl]), fun _ => rfl⟩
  · simp only [List.cons.injEq, and_true] at hcs
    simp only [if_true] at hmm
    have each : ∀ i, i < len → ∃ p q r s : Int, w.cell? (a.add (i * 4)) = some (.int .i64 p) ∧ w.cell? (a.add (i * 4 + 1)) = some (.int .i64 q) ∧ w.cell? (a.add (i * 4 + 2)) = some (.int .i64 r) ∧ w.cell? (a.add (i * 4 + 3)) = some (.int .i64 s) := by
      intro i hil
      obtain ⟨ys, n, _, _, _, hf⟩ := hi i (by omega)
      obtain ⟨v0, y0, c0, _, t0⟩ := hf 0 f0 rfl
      obtain ⟨v1, y1, c1, _, t1⟩ := hf 1 f1 rfl
      obtain ⟨v2, y2, c2, _, t2⟩ := hf 2 f2 rfl
      obtain ⟨v3, y3, c3, _, t3⟩ := hf 3 f3 rfl
      obtain ⟨p, e0, _⟩ := DataW.trod_int h0 t0
      obtain ⟨q, e1, _⟩ := DataW.trod_int h1 t1
      obtain ⟨r, e2, _⟩ := DataW.trod_int h2 t2
      obtain ⟨s, e3, _⟩ := DataW.trod_int h3 t3
      simp only [List.cons.injEq, and_true] at e0 e1 e2 e3
      subst e0; subst e1; subst e2; subst e3
      exact ⟨p, q, r, s, c0, c1, c2, c3⟩
    obtain ⟨f, hf⟩ := Classical.axiomOfChoice (r := fun (i : Nat) (x : Ru) => i < len → w.cell? (a.add (i * 4)) = some (.int .i64 x.1) ∧ w.cell? (a.add (i * 4 + 1)) = some (.int .i64 x.2.1) ∧ w.cell? (a.add (i * 4 + 2)) = some (.int .i64 x.2.2.1) ∧ w.cell? (a.add (i * 4 + 3)) = some (.int .i64 x.2.2.2)) (fun i => by
      by_cases hil : i < len
      · obtain ⟨p, q, r, s, c⟩ := each i hil
        exact ⟨(p, q, r, s), fun _ => c⟩
      · exact ⟨(0, 0, 0, 0), fun h => absurd h hil⟩)
    by_cases hz : len = 0
    · subst hz
      exact ⟨some a, 0, cap, [], hcs, rfl, by omega, fun k hk => absurd hk (by simp [fl]), fun h => (by cases h)⟩
    · obtain ⟨b, off, spot⟩ := a
      have hspot : spot = none := by
        obtain ⟨c0', _⟩ := hf 0 (by omega)
        simpa [Addr.add] using World.cell?_spot c0'
      subst hspot
      refine ⟨_, len, cap, (List.range len).map f, hcs, by simp, by omega, Rd.of_elem ruC_len (by omega) ru0 _ (fun _ => ?_) (fun k hk j v hj => ?_), fun h => (by cases h)⟩
      · obtain ⟨c0', _⟩ := hf 0 (by omega)
        rw [add_plain] at c0'
        exact World.block_lt_of_cell? _ _ c0'
      · have hk' : k < len := by simpa using hk
        obtain ⟨c0, c1, c2, c3⟩ := hf k hk'
        have e : ((List.range len).map f).getD k ru0 = f k := by simp [List.getD_eq_getElem?_getD, hk']
        rw [e] at hj
        rw [add_plain] at c0 c1 c2 c3
        match j, hj with
        | 0, hj => cases hj; exact c0
        | 1, hj => cases hj; rw [Nat.add_assoc]; exact c1
        | 2, hj => cases hj; rw [Nat.add_assoc]; exact c2
        | 3, hj => cases hj; rw [Nat.add_assoc]; exact c3
end
end Go.Pol
namespace Go.Proofs.YtpabnbhbcphfiaaGreat
open Go Go.Proofs Go.RowKit Go.Pol Go.ChangeShapes Go.WideShapes Go.Deep

theorem putStruct : ∃ f0 f1 : Field, Tryz.prog.underlying 185 = some (.struct #[f0, f1]) ∧ oneCellFields Tryz.prog #[f0, f1] = true ∧ f0.type = 2 ∧ f1.type = 5 := ⟨_, _, Tryz.underlying185, by kernel_rfl, rfl, rfl⟩
theorem ruStruct : ∃ f0 f1 f2 f3 : Field, Tryz.prog.underlying 136 = some (.struct #[f0, f1, f2, f3]) ∧ oneCellFields Tryz.prog #[f0, f1, f2, f3] = true ∧ f0.type = 3 ∧ f1.type = 3 ∧ f2.type = 3 ∧ f3.type = 3 := ⟨_, _, _, _, Tryz.underlying136, by kernel_rfl, rfl, rfl, rfl, rfl⟩
theorem mdCells : Tryz.prog.cellsOf 90 = 4 := by kernel_rfl
theorem putsCells : Tryz.prog.cellsOf 88 = 1 := by kernel_rfl
theorem rusCells : Tryz.prog.cellsOf 23 = 1 := by kernel_rfl
theorem plCells : Tryz.prog.cellsOf 25 = 1 := by kernel_rfl
section
variable {H : Type} {enc : TypeId × Value → H} {w : World} {base b0 : Nat} {held : Bool} {r : Reach} {v : Value} {d : DataW H} {p : List MemPlace}
set_option maxRecDepth 100000 in
/-- what a system is made of, as it came in -/
theorem openMade (hv : Value.okWide Tryz.prog w r b0 90 v) (h : DataW.Trod enc Tryz.prog w base (fun _ => true) held 90 v d p) :
    ∃ (A1 A2 A3 A4 : Option Addr) (n1 c1 n2 c2 n3 c3 n4 c4 : Nat) (us : List (Int × Int)) (hs : List Int) (ws : List (Int × Int)) (l : List Ru), v = .agg #[.slice A1 n1 c1, .slice A2 n2 c2, .slice A3 n3 c3, .slice A4 n4 c4] ∧ us.length = n1 ∧ RU w w.heap.size A1 us ∧
      hs.length = n2 ∧ RI w w.heap.size A2 hs ∧ ws.length = n3 ∧ Rd w w.heap.size A3 (fl wrC ws) ∧ l.length = n4 ∧ Rd w w.heap.size A4 (fl ruC l) ∧ (A4 = none → c4 = 0) := by
  obtain ⟨f0, f1, hs, hone, t0, t1⟩ := spStruct
  obtain ⟨p0, p1, hp, hpone, pt0, pt1⟩ := putStruct
  obtain ⟨r0, r1, r2, r3, hru, hrone, rt0, rt1, rt2, rt3⟩ := ruStruct
  obtain ⟨cs, rfl, hsz⟩ := okWide_struct Tryz.underlying90 hv
  obtain ⟨l⟩ := cs
  obtain ⟨fuel, hf⟩ := h
  obtain ⟨xs, m, _, hx, hl, hlen, hg⟩ := DataW.trod_struct Tryz.underlying90 hf
  rw [mdCells] at hsz
  match l, hsz with
  | [c0, c1, c2, c3], _ =>
    have g0 : DataW.trod enc Tryz.prog w base (fun _ => true) held m 22 [c0] = xs[0]? := by have := hg 0 _ rfl; simpa [Value.cells, spsCells] using this
    have g1 : DataW.trod enc Tryz.prog w base (fun _ => true) held m 47 [c1] = xs[1]? := by have := hg 1 _ rfl; simpa [Value.cells, spsCells, insCells] using this
    have g2 : DataW.trod enc Tryz.prog w base (fun _ => true) held m 88 [c2] = xs[2]? := by have := hg 2 _ rfl; simpa [Value.cells, spsCells, insCells, putsCells] using this
    have g3 : DataW.trod enc Tryz.prog w base (fun _ => true) held m 25 [c3] = xs[3]? := by have := hg 3 _ rfl; simpa [Value.cells, spsCells, insCells, putsCells, plCells] using this
    match xs, hlen with
    | [y0, y1, y2, y3], _ =>
      obtain ⟨A1, n1, k1, C, rfl, a1, a2, a3⟩ := openU Tryz.underlying22 hs hone (by kernel_rfl) (by rw [t0]; exact Tryz.underlying3) (by rw [t1]; exact Tryz.underlying3) (g0.trans rfl)
      obtain ⟨A2, n2, k2, Hu, rfl, d1, d2, d3, _⟩ := openI Tryz.underlying47 Tryz.underlying3 intCells (g1.trans rfl)
      obtain ⟨A3, n3, k3, W, rfl, e1, e2, e3⟩ := openW Tryz.underlying88 hp hpone (by kernel_rfl) (by rw [pt0]; exact Tryz.underlying2) (by rw [pt1]; exact Tryz.underlying5) (g2.trans rfl)
      have g3' : DataW.trod enc Tryz.prog w base (fun _ => true) held m 25 [c3] = some y3 := g3.trans rfl
      obtain ⟨zs, m2, _, hx2, hl2, hlen2, hg2⟩ := DataW.trod_struct Tryz.underlying25 g3'
      have g4 : DataW.trod enc Tryz.prog w base (fun _ => true) held m2 23 [c3] = zs[0]? := by have := hg2 0 _ rfl; simpa [Value.cells, rusCells] using this
      match zs, hlen2 with
      | [z0], _ =>
        obtain ⟨A4, n4, k4, L, rfl, u1, u2, u3, u4⟩ := openR Tryz.underlying23 hru hrone (by kernel_rfl) (by rw [rt0]; exact Tryz.underlying3) (by rw [rt1]; exact Tryz.underlying3) (by rw [rt2]; exact Tryz.underlying3) (by rw [rt3]; exact Tryz.underlying3) (g4.trans rfl)
        exact ⟨A1, A2, A3, A4, n1, k1, n2, k2, n3, k3, n4, k4, C, Hu, W, L, rfl, a1, a3, d1, d3, e1, e3, u1, u3, u4⟩
end
end Go.Proofs.YtpabnbhbcphfiaaGreat
namespace Go.Pol
open Go Go.RowKit
/-- a run: its first page, its pages, their kind -/
abbrev Rn := Int × Int × Int
def rnC (x : Rn) : List Value := [.int .i64 x.1, .int .i64 x.2.1, .int .i64 x.2.2]
abbrev rnV (x : Rn) : Value := .agg #[.int .i64 x.1, .int .i64 x.2.1, .int .i64 x.2.2]
abbrev rnA (x : Rn) : Array Value := #[rnV x]
def bumpR (l : List Rn) : List Rn := match l.reverse with
  | [] => []
  | x :: r => r.reverse ++ [(x.1, x.2.1 + 1, x.2.2)]
theorem bumpR_snoc (l : List Rn) (x : Rn) : bumpR (l ++ [x]) = l ++ [(x.1, x.2.1 + 1, x.2.2)] := by simp [bumpR]
theorem bumpR_len (l : List Rn) : (bumpR l).length = l.length := by
  unfold bumpR
  split
  · rename_i h; rw [List.reverse_eq_nil_iff] at h; rw [h]
  · rename_i x r h
    have : l = r.reverse ++ [x] := by rw [← List.reverse_reverse l, h, List.reverse_cons]
    rw [this]; simp
theorem bumpR_app (a t : List Rn) (ht : t ≠ []) : bumpR (a ++ t) = a ++ bumpR t ∧ bumpR t ≠ [] := by
  obtain ⟨l, x, rfl⟩ : ∃ l x, t = l ++ [x] := ⟨t.dropLast, t.getLast ht, (List.dropLast_concat_getLast ht).symm⟩
  rw [← List.append_assoc, bumpR_snoc, bumpR_snoc, List.append_assoc]
  exact ⟨rfl, by simp⟩
/-- the runs of the first pages -/
def vrunsL (V : Vm) : Nat → List Rn
  | 0 => []
  | k + 1 => if (V.pg k).kind = 0 then vrunsL V k else if 0 < k ∧ (V.pg (k - 1)).kind = (V.pg k).kind then bumpR (vrunsL V k) else vrunsL V k ++ [((k : Int), 1, (V.pg k).kind)]
theorem vrunsL_succ (V : Vm) (k : Nat) : vrunsL V (k + 1) = if (V.pg k).kind = 0 then vrunsL V k else if 0 < k ∧ (V.pg (k - 1)).kind = (V.pg k).kind then bumpR (vrunsL V k) else vrunsL V k ++ [((k : Int), 1, (V.pg k).kind)] := rfl
theorem vrunsL_len (V : Vm) : ∀ k, (vrunsL V k).length ≤ k
  | 0 => Nat.le_refl _
  | k + 1 => by
    have := vrunsL_len V k
    unfold vrunsL
    split
    · omega
    · split
      · rw [bumpR_len]; omega
      · rw [List.length_append, List.length_singleton]; omega
/-- a page where no run goes on -/
def bdy (V : Vm) (p : Nat) : Prop := p = 0 ∨ (V.pg (p - 1)).kind ≠ (V.pg p).kind ∨ 1024 ≤ p
theorem vruns_same {V : Vm} {p : Nat} {c : Int} (hb : p = 0 ∨ (V.pg (p - 1)).kind ≠ (V.pg p).kind) (hc : c ≠ 0) : ∀ m, (∀ q, p ≤ q → q < p + (m + 1) → (V.pg q).kind = c) → vrunsL V (p + (m + 1)) = vrunsL V p ++ [((p : Int), ((m + 1 : Nat) : Int), c)]
  | 0, h => by
    have h0 := h p (by omega) (by omega)
    rw [Nat.zero_add, vrunsL_succ, if_neg (by rw [h0]; exact hc), if_neg (by
      rintro ⟨h1, h2⟩
      rcases hb with h3 | h3
      · omega
      · exact h3 h2), h0]
    rfl
  | m + 1, h => by
    have ih := vruns_same hb hc m (fun q h1 h2 => h q h1 (by omega))
    have h0 := h (p + (m + 1)) (by omega) (by omega)
    have h1 := h (p + (m + 1) - 1) (by omega) (by omega)
    rw [show p + (m + 1 + 1) = p + (m + 1) + 1 by omega, vrunsL_succ, if_neg (by rw [h0]; exact hc), if_pos ⟨by omega, by rw [h0, h1]⟩, ih, bumpR_snoc]
    have e : ((m + 1 : Nat) : Int) + 1 = ((m + 1 + 1 : Nat) : Int) := by omega
    rw [← e]
theorem vruns_free {V : Vm} {p : Nat} : ∀ m, (∀ q, p ≤ q → q < p + m → (V.pg q).kind = 0) → vrunsL V (p + m) = vrunsL V p
  | 0, _ => rfl
  | m + 1, h => by
    rw [← Nat.add_assoc, vrunsL_succ, if_pos (h (p + m) (by omega) (by omega))]
    exact vruns_free m (fun q h1 h2 => h q h1 (by omega))
theorem vruns_pre {V : Vm} {q : Nat} (hb : q = 0 ∨ (V.pg (q - 1)).kind ≠ (V.pg q).kind) : ∀ m, ∃ t, vrunsL V (q + m) = vrunsL V q ++ t ∧ (0 < m → (V.pg (q + m - 1)).kind ≠ 0 → t ≠ [])
  | 0 => ⟨[], by simp, fun h => absurd h (by omega)⟩
  | m + 1 => by
    obtain ⟨t, h1, h2⟩ := vruns_pre hb m
    have e : q + (m + 1) - 1 = q + m := by omega
    rw [e]
    rw [← Nat.add_assoc, vrunsL_succ]
    by_cases hk : (V.pg (q + m)).kind = 0
    · rw [if_pos hk]
      exact ⟨t, h1, fun _ h => absurd hk h⟩
    · rw [if_neg hk]
      by_cases hs : 0 < q + m ∧ (V.pg (q + m - 1)).kind = (V.pg (q + m)).kind
      · rw [if_pos hs]
        have hm : 0 < m := by
          rcases Nat.eq_zero_or_pos m with h | h
          · subst h
            rcases hb with h3 | h3
            · omega
            · exact absurd hs.2 h3
          · exact h
        have ht := h2 hm (by rw [hs.2]; exact hk)
        obtain ⟨b1, b2⟩ := bumpR_app (vrunsL V q) t ht
        exact ⟨bumpR t, by rw [h1, b1], fun _ _ => b2⟩
      · rw [if_neg hs]
        exact ⟨t ++ [(((q + m : Nat) : Int), 1, (V.pg (q + m)).kind)], by rw [h1, List.append_assoc], fun _ _ => by simp⟩
theorem vruns_prefix {V : Vm} {q : Nat} (hb : bdy V q) (hq : q ≤ 1024) : vrunsL V q <+: vrunsL V 1024 := by
  by_cases h : q = 1024
  · rw [h]; exact List.prefix_refl _
  · obtain ⟨t, ht, _⟩ := vruns_pre (V := V) (q := q) (hb.elim .inl (fun h => h.elim .inr (fun h => by omega))) (1024 - q)
    rw [show q + (1024 - q) = 1024 by omega] at ht
    exact ⟨t, ht.symm⟩
/-- the first pages of huge groups -/
def hugL (V : Vm) : Nat → List Int
  | 0 => []
  | k + 1 => if k % 16 = 0 ∧ (V.pg k).huge = true then hugL V k ++ [(k : Int)] else hugL V k
theorem hugL_len (V : Vm) : ∀ k, (hugL V k).length ≤ k
  | 0 => Nat.le_refl _
  | k + 1 => by
    have := hugL_len V k
    unfold hugL
    split
    · rw [List.length_append, List.length_singleton]; omega
    · omega
/-- does a page have a byte that is not zero? -/
def nzB (g : Pg) : Bool := (List.range 64).any fun k => g.byt k != 0
/-- the pages with bytes -/
def datL (V : Vm) : Nat → List Nat
  | 0 => []
  | k + 1 => if nzB (V.pg k) = true then datL V k ++ [k] else datL V k
theorem datL_len (V : Vm) : ∀ k, (datL V k).length ≤ k
  | 0 => Nat.le_refl _
  | k + 1 => by
    have := datL_len V k
    unfold datL
    split
    · rw [List.length_append, List.length_singleton]; omega
    · omega
def bytL (g : Pg) : List Value := (List.range 64).map fun k => .int .u8 (g.byt k)
theorem bytL_len (g : Pg) : (bytL g).length = 64 := by simp [bytL]
def daC (V : Vm) (p : Nat) : List Value := .int .i64 p :: bytL (V.pg p)
theorem daC_len (V : Vm) (p : Nat) : (daC V p).length = 65 := by simp [daC, bytL_len]
theorem bytL_one (g : Pg) : ∀ x ∈ bytL g, x.oneCell' = true := by
  intro x hx
  simp only [bytL, List.mem_map] at hx
  obtain ⟨k, _, rfl⟩ := hx
  rfl
theorem daC_one (V : Vm) (us : List Nat) : ∀ u ∈ fl (daC V) us, u.oneCell' = true := by
  intro u hu
  simp only [fl, List.mem_flatMap, daC, List.mem_cons] at hu
  obtain ⟨x, _, rfl | h⟩ := hu
  · rfl
  · exact bytL_one _ u h
end Go.Pol
namespace Go.Proofs.YtpabnbhbcphfiaaGreat
open Go Go.Proofs Go.RowKit Go.Pol Go.Shelf
attribute [local go_sem] Oper.semAt_some Go.Pol.wide_fn Go.Pol.wide_depth Go.Pol.wide_fn' Go.Pol.wide_depth'

theorem vruns_any (b : Nat) (w : World) :
    Calls Tryz.prog 69 #[.pointer (some ⟨b, 0, none⟩)] w fun e w' => e = .returned (.func (.func 133) #[] #[.pointer (some ⟨w.heap.size, 0, none⟩)]) ∧ w' = w.alloc (.cells #[.pointer (some ⟨b, 0, none⟩)] 34) := by
  go_enter Tryz.func69, Tryz.ntmps69
  go_wp2
  go_ret
  exact ⟨by simp, rfl⟩
theorem vruns1_enters : ∀ args w, (callFunc 133 args).run Tryz.prog w = .ok (.enter 133 args) w := enters_of Tryz.func133 (by kernel_rfl) rfl
set_option maxRecDepth 100000 in
set_option maxHeartbeats 1600000 in
theorem vruns1_seq (b B1 : Nat) (V : Vm) (cs : Array Value) (v : Value) (K : Nat → Prop) (w : World) (hKb : K b) (hK1 : K B1)
    (k1 : Blk w B1 34 #[.pointer (some ⟨b, 0, none⟩)]) (kS : Blk w b 133 cs) (hc : SysC cs v V) :
    SeqX Tryz.prog 133 #[.pointer (some ⟨B1, 0, none⟩)] rnA (fun _ => False) K (vrunsL V 1024) w := by
  intro m l J Jx W hW hJ hJx hnew hY h0
  have kB1 := hW.blk k1 (by simpa using hK1)
  have kbS := hW.blk kS (by simpa using hKb)
  have hkd := Lib.hid (fun (wr : World) (h : Blk wr b 133 cs) p (hp : p < 1024) => (h.cell (1 + p * 66)).trans (hc.kind hp))
  refine callsIn_of_wp Tryz.func133 rfl trivial ?_ rfl
  simp only [Tryz.ntmps133, List.size_toArray, List.length_cons, List.length_nil, Nat.reduceAdd, Nat.reduceSub, Array.replicate_succ, Array.replicate_zero, List.push_toArray, List.append_toArray, List.nil_append, List.cons_append]
  clear hW k1 kS hc
  gi_wp2_with fail
  gi_loopw [3] (fun u wr => ∃ p : Nat, p ≤ 1024 ∧ u = .int .i64 p ∧ W.heap.size ≤ wr.heap.size ∧ J (fun _ => False) (vrunsL V p) wr ∧ Blk wr B1 34 #[.pointer (some ⟨b, 0, none⟩)] ∧ Blk wr b 133 cs ∧ Hid (bdy V p)) (fun u _ => 1024 - (intOf u).toNat)
  case atStart => exact ⟨0, by omega, rfl, Nat.le_refl _, h0, kB1, kbS, Lib.hid (.inl rfl)⟩
  case round =>
    clear h0 kB1 kbS
    obtain ⟨p, hp, rfl, hwz, hJs, kB1, kbS, hbd⟩ := hrel
    by_cases hlt : p < 1024
    · have hlt' : decide ((p : Int) < 1024) = true := by rw [decide_eq_true_eq]; omega
      have hpl : (p : Int) < 1024 := by omega
      have hcell := hkd.out wr kbS p hlt
      have c1 := kB1.cell
      obtain ⟨kd, hkdp⟩ : ∃ kd, (V.pg p).kind = kd := ⟨_, rfl⟩
      rw [hkdp] at hcell
      have kX := Blk.new wr 122 #[.int .i64 p, .int .i64 0, .int .i64 kd]
      have hfa : Far (fun _ => False) wr (wr.alloc (.cells #[.int .i64 p, .int .i64 0, .int .i64 kd] 122)) := (Far.refl _ wr).alloc _
      have hJ2 := hJ _ _ _ _ (hnew _ (fun k => k = wr.heap.size) _ wr hJs (fun j hj => .inr (by omega))) (hfa.mono fun _ _ h => h.elim)
      have kB1b := kB1.alloc (.cells #[.int .i64 p, .int .i64 0, .int .i64 kd] 122)
      have kbSb := kbS.alloc (.cells #[.int .i64 p, .int .i64 0, .int .i64 kd] 122)
      have hszb : W.heap.size ≤ (wr.alloc (.cells #[.int .i64 p, .int .i64 0, .int .i64 kd] 122)).heap.size := by simp; omega
      have hbx0 : wr.heap.size < (wr.alloc (.cells #[.int .i64 p, .int .i64 0, .int .i64 kd] 122)).heap.size := by simp
      have hne1 : B1 ≠ wr.heap.size := Nat.ne_of_lt kB1.lt
      have hneb : b ≠ wr.heap.size := Nat.ne_of_lt kbS.lt
      have hkdp' := Lib.hid hkdp
      clear hkdp
      gi_wp2_with fail
      generalize wr.alloc (.cells #[.int .i64 p, .int .i64 0, .int .i64 kd] 122) = wa at *
      generalize wr.heap.size = bx at *
      clear hJs kB1 kbS hfa hwz hcell c1 hlt'
      gi_loopw [3] (fun u wr => ∃ q : Nat, p ≤ q ∧ q ≤ 1024 ∧ u = .int .i64 q ∧ W.heap.size ≤ wr.heap.size ∧ bx < wr.heap.size ∧ J (fun k => k = bx) (vrunsL V p) wr ∧ Blk wr B1 34 #[.pointer (some ⟨b, 0, none⟩)] ∧ Blk wr b 133 cs ∧ Blk wr bx 122 #[.int .i64 p, .int .i64 ((q - p : Nat) : Int), .int .i64 kd] ∧ Hid (∀ r, p ≤ r → r < q → (V.pg r).kind = kd)) (fun u _ => 1024 - (intOf u).toNat)
      case atStart => exact ⟨p, by omega, by omega, rfl, hszb, hbx0, hJ2, kB1b, kbSb, by rw [Nat.sub_self]; exact kX, Lib.hid (fun r h1 h2 => by omega)⟩
      case round =>
        clear hJ2 kB1b kbSb kX hszb hbx0
        obtain ⟨q, hq0, hq1, rfl, hwz, hbx, hJs, kB1, kbS, kX, hall⟩ := hrel
        by_cases hq : q < 1024
        · have hq' : decide ((q : Int) < 1024) = true := by rw [decide_eq_true_eq]; omega
          have hql : (q : Int) < 1024 := by omega
          have e1 := fun z : Ext wr => (z.blk kB1).cell
          have e2 := fun z : Ext wr => (z.blk kX).cell
          have hcell := hkd.out wr kbS q hq
          have e3 := fun z : Ext wr => z.cell hcell
          generalize hgk : (V.pg q).kind = kq at *
          gi_upto_region 3 with fail
          refine wpIn_wide.2 ?_
          by_cases hkq : kq = kd
          · have hkq' : (kq == kd) = true := by simpa using hkq
            have hall2 : Hid (∀ r, p ≤ r → r < q + 1 → (V.pg r).kind = kd) := Lib.hid (fun r h1 h2 => by
              by_cases e : r = q
              · rw [e, hgk, hkq]
              · exact hall.out r h1 (by omega))
            clear hkq hgk hall
            refine region_ext (by kernel_rfl) (by kernel_rfl) ?_
            repeat (go_big_quiet_step (fail))
            refine wpQuiet_nil ?_
            rintro w3 ⟨⟨_, hw3⟩, rfl⟩
            have kX3 := kX.call hw3
            have J3 := hJ _ _ wr w3 hJs (.of_below hw3)
            have hwz3 := Nat.le_trans hwz hw3.size
            have hbx3 := Nat.lt_of_lt_of_le hbx hw3.size
            have kB13 := kB1.call hw3
            have kbS3 := kbS.call hw3
            have cX := kX3.cell
            have fX := kX3.frozen
            have F4 : Far (fun k => k = bx) w3 (w3.setCell ⟨bx, 1, none⟩ (.int .i64 ((q - p + 1 : Nat) : Int))) := Far.setCell (T := fun k => k = bx) (p := ⟨bx, 1, none⟩) (Far.refl _ w3) (fun _ => rfl) _
            have kX4 := kX3.set_ 1 (.int .i64 ((q - p + 1 : Nat) : Int))
            have hcs1 : ((q - p : Nat) : Int) + 1 = ((q - p + 1 : Nat) : Int) := by omega
            have J4 := hJ _ _ w3 _ J3 (F4.mono fun _ _ h => .inr h)
            have kB14 := F4.blk kB13 hne1
            have kbS4 := F4.blk kbS3 hneb
            have hs4 := F4.size
            have hql2 : ((q - p : Nat) : Int) < 2000 := by omega
            have hq0' : q - p + 1 = q + 1 - p := by omega
            rw [hq0'] at kX4
            clear e1 e2 e3 hJs kB1 kbS kX J3 kB13 kbS3 kX3 hw3 F4 hcell
            gi_wp2_with fail
            rw [hq0'] at J4 kB14 kbS4 hs4
            go_roundw
            case rel => exact ⟨q + 1, by omega, by omega, by go_num, by omega, by omega, J4, kB14, kbS4, kX4, hall2⟩
            case measure => simp [intOf]; omega
          · have hkq' : (kq == kd) = false := by simpa using hkq
            have hqp : Hid (p < q) := Lib.hid (by
              rcases Nat.lt_or_ge p q with h | h
              · exact h
              · exfalso
                have : q = p := by omega
                rw [this] at hgk
                exact hkq (hgk.symm.trans hkdp'.out))
            have hbq : Hid (bdy V q) := Lib.hid (.inr (.inl (by
              have := hqp.out
              rw [hgk, hall.out (q - 1) (by omega) (by omega)]
              exact fun h => hkq h.symm)))
            clear hkq hgk hq
            refine region_ext (by kernel_rfl) (by kernel_rfl) ?_
            repeat (go_big_quiet_step (fail))
            refine wpQuiet_nil ?_
            rintro w3 ⟨⟨_, hw3⟩, rfl⟩
            have kX3 := kX.call hw3
            have J3 := hJ _ _ wr w3 hJs (.of_below hw3)
            have hwz3 := Nat.le_trans hwz hw3.size
            have hbx3 := Nat.lt_of_lt_of_le hbx hw3.size
            have kB13 := kB1.call hw3
            have kbS3 := kbS.call hw3
            have cX := kX3.cell
            clear e1 e2 e3 hJs kB1 kbS kX hw3 hcell
            by_cases hk0 : kd = 0
            · subst hk0
              have hR : Hid (vrunsL V q = vrunsL V p) := Lib.hid (by
                have := vruns_free (V := V) (p := p) (q - p) (fun r h1 h2 => hall.out r h1 (by have := hqp.out; omega))
                rwa [show p + (q - p) = q by have := hqp.out; omega] at this)
              have J4 := hnew _ (fun _ => False) _ _ J3 (fun _ h => h.elim)
              rw [← hR.out] at J4
              have hqp2 := hqp.out
              gi_wp2_with fail
              go_roundw
              case rel => exact ⟨q, by omega, rfl, hwz3, J4, kB13, kbS3, hbq⟩
              case measure => simp [intOf]; omega
            · have hk0' : (kd != 0) = true := by simpa using hk0
              have hR : Hid (vrunsL V q = vrunsL V p ++ [((p : Int), ((q - p : Nat) : Int), kd)]) := Lib.hid (by
                have h1 := hqp.out
                have h2 := vruns_same (V := V) (p := p) (c := kd) (hbd.out.elim .inl (fun h => h.elim .inr (fun h => by omega))) hk0 (q - p - 1) (fun r a1 a2 => hall.out r a1 (by omega))
                rw [show q - p - 1 + 1 = q - p by omega, show p + (q - p) = q by omega] at h2
                exact h2)
              have hpre : Hid (vrunsL V p ++ [((p : Int), ((q - p : Nat) : Int), kd)] <+: vrunsL V 1024) := Lib.hid (by
                rw [← hR.out]
                exact vruns_prefix hbq.out (by omega))
              have hqp2 := hqp.out
              obtain ⟨fn, tmps, assign, body, hy, hRd⟩ := hY (m - 1) (fun k => k = bx) (vrunsL V p) ((p : Int), ((q - p : Nat) : Int), kd) w3 J3 (fun k hk => by rw [hk]; exact hbx3) hpre.out
              clear hY hk0
              gi_wp2_with fail
              refine hRd.mono ?_
              rintro e W4 (⟨rfl, hJ4, hF4⟩ | ⟨rfl, hJx4⟩)
              · have J5 := hnew _ (fun _ => False) _ _ hJ4 (fun _ h => h.elim)
                rw [← hR.out] at J5
                gi_wp2_with fail
                go_roundw
                case rel => exact ⟨q, by omega, rfl, Nat.le_trans hwz3 hF4.size, J5, hF4.blk kB13 (fun h => h (.inl hK1)), hF4.blk kbS3 (fun h => h (.inl hKb)), hbq⟩
                case measure => simp [intOf]; omega
              · gi_wp2_with fail
                refine bodyPost_ret (results_none rfl _ _ _) rfl ?_
                exact ⟨⟨_, rfl⟩, .inr ⟨_, _, hpre.out, hJx4⟩⟩
        · obtain rfl : q = 1024 := by omega
          have hq' : decide (((1024 : Nat) : Int) < 1024) = false := by decide
          have hqp : Hid (p < 1024) := Lib.hid hlt
          have hbq : Hid (bdy V 1024) := Lib.hid (.inr (.inr (Nat.le_refl _)))
          have e1 := fun z : Ext wr => (z.blk kB1).cell
          have e2 := fun z : Ext wr => (z.blk kX).cell
          have e3 : True := trivial
          have hcell : True := trivial
          gi_upto_region 3 with fail
          refine wpIn_wide.2 ?_
          refine region_ext (by kernel_rfl) (by kernel_rfl) ?_
          repeat (go_big_quiet_step (fail))
          refine wpQuiet_nil ?_
          rintro w3 ⟨⟨_, hw3⟩, rfl⟩
          have kX3 := kX.call hw3
          have J3 := hJ _ _ wr w3 hJs (.of_below hw3)
          have hwz3 := Nat.le_trans hwz hw3.size
          have hbx3 := Nat.lt_of_lt_of_le hbx hw3.size
          have kB13 := kB1.call hw3
          have kbS3 := kbS.call hw3
          have cX := kX3.cell
          clear e1 e2 e3 hJs kB1 kbS kX hw3 hcell
          by_cases hk0 : kd = 0
          · subst hk0
            have hR : Hid (vrunsL V 1024 = vrunsL V p) := Lib.hid (by
              have := vruns_free (V := V) (p := p) (1024 - p) (fun r h1 h2 => hall.out r h1 (by have := hqp.out; omega))
              rwa [show p + (1024 - p) = 1024 by have := hqp.out; omega] at this)
            have J4 := hnew _ (fun _ => False) _ _ J3 (fun _ h => h.elim)
            rw [← hR.out] at J4
            have hqp2 := hqp.out
            gi_wp2_with fail
            go_roundw
            case rel => exact ⟨1024, by omega, rfl, hwz3, J4, kB13, kbS3, hbq⟩
            case measure => simp [intOf]; omega
          · have hk0' : (kd != 0) = true := by simpa using hk0
            have hR : Hid (vrunsL V 1024 = vrunsL V p ++ [((p : Int), ((1024 - p : Nat) : Int), kd)]) := Lib.hid (by
              have h1 := hqp.out
              have h2 := vruns_same (V := V) (p := p) (c := kd) (hbd.out.elim .inl (fun h => h.elim .inr (fun h => by omega))) hk0 (1024 - p - 1) (fun r a1 a2 => hall.out r a1 (by omega))
              rw [show 1024 - p - 1 + 1 = 1024 - p by omega, show p + (1024 - p) = 1024 by omega] at h2
              exact h2)
            have hpre : Hid (vrunsL V p ++ [((p : Int), ((1024 - p : Nat) : Int), kd)] <+: vrunsL V 1024) := Lib.hid (by
              rw [← hR.out]
              exact vruns_prefix hbq.out (by omega))
            have hqp2 := hqp.out
            obtain ⟨fn, tmps, assign, body, hy, hRd⟩ := hY (m - 1) (fun k => k = bx) (vrunsL V p) ((p : Int), ((1024 - p : Nat) : Int), kd) w3 J3 (fun k hk => by rw [hk]; exact hbx3) hpre.out
            clear hY hk0
            gi_wp2_with fail
            refine hRd.mono ?_
            rintro e W4 (⟨rfl, hJ4, hF4⟩ | ⟨rfl, hJx4⟩)
            · have J5 := hnew _ (fun _ => False) _ _ hJ4 (fun _ h => h.elim)
              rw [← hR.out] at J5
              gi_wp2_with fail
              go_roundw
              case rel => exact ⟨1024, by omega, rfl, Nat.le_trans hwz3 hF4.size, J5, hF4.blk kB13 (fun h => h (.inl hK1)), hF4.blk kbS3 (fun h => h (.inl hKb)), hbq⟩
              case measure => simp [intOf]; omega
            · gi_wp2_with fail
              refine bodyPost_ret (results_none rfl _ _ _) rfl ?_
              exact ⟨⟨_, rfl⟩, .inr ⟨_, _, hpre.out, hJx4⟩⟩
    · obtain rfl : p = 1024 := by omega
      have hlt' : decide (((1024 : Nat) : Int) < 1024) = false := by decide
      gi_wp2_with fail
      go_end0
      exact ⟨⟨_, rfl⟩, .inl ⟨_, hJs⟩⟩
end Go.Proofs.YtpabnbhbcphfiaaGreat
namespace Go.Pol
open Go Go.RowKit
theorem rnC_snoc (bs : List Rn) (x : Rn) : fl rnC (bs ++ [x]) = fl rnC bs ++ [.int .i64 x.1, .int .i64 x.2.1, .int .i64 x.2.2] := by rw [fl_append]; simp [fl, rnC]
theorem news_rn {w : World} {g : Nat} {t : TypeId} {a b c : Int} (h : Blk w g t #[.int .i64 a, .int .i64 b, .int .i64 c]) : ∀ (j : Nat) (u : Value), [Value.int .i64 a, Value.int .i64 b, Value.int .i64 c][j]? = some u → w.cell? ((⟨g, 0, none⟩ : Addr).add j) = some u := by
  intro j u hu
  rw [addr_add0, Nat.zero_add]
  rw [h.cell]
  simpa using hu
theorem news_oneR {a b c : Int} : ∀ u ∈ [Value.int .i64 a, Value.int .i64 b, Value.int .i64 c], u.oneCell' = true := by
  intro u hu
  simp only [List.mem_cons, List.not_mem_nil, or_false] at hu
  rcases hu with rfl | rfl | rfl <;> rfl
/-- a loop over runs whose variable lies in a box -/
theorem rangeXR {P : Program} {g : Operand} {ps : Array Tmp} {assign body : Code} {Q : Exit → Act → World → Prop} {a : Act} {w : World} (ib pb : Nat) (tE : TypeId)
    {gf : Nat} {lb : Array Value} (hg : a.eval g = .func (.func gf) #[] lb) (eg : ∀ args w, (callFunc gf args).run P w = .ok (.enter gf args) w)
    {T K : Nat → Prop} {xs : List Rn} (hseq : SeqX P gf lb rnA T K xs w) (hps : ps = #[pb])
    (hT : ∀ k, T k → k < w.heap.size) (hK : ∀ k, K k → k < w.heap.size)
    (I : (Nat → Prop) → List Rn → World → Prop) (Ix : Code → (Nat → Prop) → List Rn → World → Prop)
    (hI : ∀ X pre A B, I X pre A → Far (fun k => T k ∨ X k ∨ k = w.heap.size ∨ k = w.heap.size + 1) A B → I X pre B)
    (hIx : ∀ c X pre A B, Ix c X pre A → Far (fun k => T k ∨ X k ∨ k = w.heap.size ∨ k = w.heap.size + 1) A B → Ix c X pre B)
    (hnew : ∀ X X' pre A, I X pre A → (∀ k, X' k → X k ∨ A.heap.size ≤ k) → I X' pre A)
    (h0 : I (fun _ => False) [] w)
    (hassign : ∀ (m l : Nat) (x : Rn) (W : World) (C : Act → World → Prop),
      C { tmps := (a.tmps.setIfInBounds pb (rnV x)).setIfInBounds ib (.pointer (some ⟨W.heap.size, 0, none⟩)), defers := [] } (W.alloc (.cells #[.int .i64 x.1, .int .i64 x.2.1, .int .i64 x.2.2] tE)) →
      assign.wpIn (Fence.wide.inRound l) m P (Exit.then C (fun _ _ _ => False)) { tmps := a.tmps.setIfInBounds pb (rnV x), defers := [] } W)
    (hbody : ∀ (m l : Nat) (X : Nat → Prop) (pre : List Rn) (x : Rn) (Bx : Nat) (Wa W : World), w.heap.size + 2 ≤ W.heap.size → (∀ k, X k → k < Wa.heap.size ∧ k ≠ w.heap.size ∧ k ≠ w.heap.size + 1) → I X pre W → pre ++ [x] <+: xs → w.heap.size + 2 ≤ Bx → Blk W Bx tE #[.int .i64 x.1, .int .i64 x.2.1, .int .i64 x.2.2] → Wa.heap.size ≤ Bx →
      body.wpIn (Fence.wide.inRound l) m P (xPost w.heap.size K X I Ix (pre ++ [x]) W) { tmps := (a.tmps.setIfInBounds pb (rnV x)).setIfInBounds ib (.pointer (some ⟨Bx, 0, none⟩)), defers := [] } W)
    (hdone : ∀ (X : Nat → Prop) (W : World), w.heap.size + 2 ≤ W.heap.size → I X xs W → W.heap[w.heap.size]? = some (.deferred (some [])) → Q .normal { a with defers := markOf w.heap.size :: a.defers } W)
    (hstop : ∀ (c : Code) (X : Nat → Prop) (pre : List Rn) (W : World), w.heap.size + 2 ≤ W.heap.size → pre <+: xs → Ix c X pre W → W.heap[w.heap.size]? = some (.deferred (some [])) → c.wp P Q { a with defers := markOf w.heap.size :: a.defers } W) :
    (Code.rangeFunc g ps assign body).wp P Q a w := by
  subst hps
  refine rangeX hg eg hseq (fun _ => rfl) hT hK I Ix hI hIx hnew h0
    (fun N x a' W => ∃ Bx, N ≤ Bx ∧ w.heap.size + 2 ≤ Bx ∧ Blk W Bx tE #[.int .i64 x.1, .int .i64 x.2.1, .int .i64 x.2.2] ∧ a' = { tmps := (a.tmps.setIfInBounds pb (rnV x)).setIfInBounds ib (.pointer (some ⟨Bx, 0, none⟩)), defers := [] })
    (fun N x a' A B ⟨Bx, h0, h1, h2, h3⟩ hf => ⟨Bx, h0, h1, hf.blk h2 (by omega), h3⟩) ?_ ?_ hdone hstop
  · intro m l x W C hs hC
    have e : (#[pb].zip (rnA x)).foldl (fun t (p, v) => t.setIfInBounds p v) a.tmps = a.tmps.setIfInBounds pb (rnV x) := by simp [rnA]
    rw [e]
    exact hassign m l x W C (hC _ _ ((Far.refl _ W).alloc _) ⟨W.heap.size, Nat.le_refl _, hs, Blk.new _ _ _, rfl⟩)
  · rintro m l X pre x a' Wa W hs hX hi ⟨Bx, h0, h1, h2, rfl⟩ hpre _ _
    exact hbody m l X pre x Bx Wa W hs hX hi hpre h1 h2 h0
end Go.Pol
namespace Go.Proofs.YtpabnbhbcphfiaaGreat
open Go Go.Proofs Go.RowKit Go.Pol Go.Shelf
attribute [local go_sem] Oper.semAt_some Go.Pol.wide_fn Go.Pol.wide_depth Go.Pol.wide_fn' Go.Pol.wide_depth'

theorem infoRn : (Tryz.prog.info? 122).map (fun i => (i.zero, i.size, i.bytes)) = some (some (.agg #[.int .i64 0, .int .i64 0, .int .i64 0]), 3, 24) := by kernel_rfl
theorem infoRn_parts : ∃ i0, Tryz.prog.info? 122 = some i0 ∧ i0.zero = some (.agg #[.int .i64 0, .int .i64 0, .int .i64 0]) ∧ i0.size = 3 ∧ i0.bytes = 24 := by
  obtain ⟨i0, h⟩ := info_parts infoRn
  exact ⟨i0, h⟩
set_option maxRecDepth 100000 in
set_option maxHeartbeats 3200000 in
theorem appendSeqR_any (g : Nat) (lb : Array Value) (K : Nat → Prop) (xs : List Rn) (w : World) (hxs : xs.length ≤ 1000000)
    (hseq : SeqX Tryz.prog g lb rnA (fun _ => False) K xs w) (eg : ∀ args w, (callFunc g args).run Tryz.prog w = .ok (.enter g args) w) (hK : ∀ k, K k → k < w.heap.size) :
    Calls Tryz.prog 132 #[.slice none 0 0, .func (.func g) #[] lb] w fun e w' => ∃ v, e = .returned v ∧ w'.ownsRow w.heap.size 122 3 v xs.length (fl rnC xs) ∧ Below w.heap.size w w' := by
  obtain ⟨i0, hi, hz0, hz1, hz2⟩ := infoRn_parts
  obtain ⟨s, hs⟩ : ∃ s, w.heap.size = s := ⟨_, rfl⟩
  obtain ⟨W0, hW0⟩ : ∃ W0, w.alloc (.cells #[.slice none 0 0] 46) = W0 := ⟨_, rfl⟩
  have hs0 : W0.heap.size = s + 1 := by rw [← hW0, ← hs]; simp
  have kO : Blk W0 s 46 #[.slice none 0 0] := by rw [← hW0, ← hs]; exact Blk.new _ _ _
  have hb0 : Below s w W0 := by rw [← hW0, ← hs]; exact (Below.refl w.heap.size w).alloc (Nat.le_refl _) _
  have hF0 : Far (fun _ => False) w W0 := .of_below (by rw [hs]; exact hb0)
  have hW1 := Lib.hid hW0
  clear hW0
  refine calls_of_marks Tryz.func132 rfl ?_
  simp only [Tryz.ntmps132, List.size_toArray, List.length_cons, List.length_nil, Nat.reduceAdd, Nat.reduceSub, Array.replicate_succ, Array.replicate_zero, List.push_toArray, List.append_toArray, List.nil_append, List.cons_append]
  go_wp2_with fail
  rw [hW1.out]
  clear hW1
  have ls1 := kO.lt
  have hlen : ∀ (pre : List Rn) (x : Rn), pre ++ [x] <+: xs → pre.length < 1000000 := fun pre x h => by
    have := h.length_le
    simp at this
    omega
  refine rangeXR 5 7 122 (gf := g) (lb := lb) rfl eg (hseq.later (hF0.mono fun _ _ h => h.elim)) rfl (fun _ h => h.elim) (fun k h => by have := hK k h; omega)
    (fun X pre W => BoxX X W s 46 122 (s + 3) 3 pre.length (fl rnC pre) ∧ Below s w W ∧ ∀ k, X k → s ≤ k)
    (fun _ _ _ _ => False)
    (fun X pre A B h hf => ⟨h.1.far hf (by rintro (h | h | h | h) <;> first | exact h | exact h.elim | omega) (fun g hg => by rintro (h | h | h | h) <;> first | exact h | exact h.elim | omega),
      h.2.1.trans (hf.below (by rw [← hs]; exact h.2.1.size) (fun k hk => by rintro (h' | h' | h' | h'); exact h'; have := h.2.2 k h'; omega; omega; omega)), h.2.2⟩)
    (fun _ _ _ _ _ h _ => h.elim)
    (fun X X' pre A h hX => ⟨h.1.new hX, h.2.1, fun k hk => (hX _ hk).elim (h.2.2 k) (fun h' => by have := h.2.1.size; omega)⟩)
    ⟨⟨_, kO, World.ownsRow_nil _ _ _ _, id, fun _ _ => id⟩, hb0, fun _ h => h.elim⟩ ?assign ?body ?done (fun _ _ _ _ _ _ h _ => h.elim)
  case assign =>
    intro m l x W C hC
    obtain ⟨xn, xc, xl⟩ := x
    simp only [rnV, List.setIfInBounds_toArray, List.set_cons_succ, List.set_cons_zero] at hC ⊢
    gi_wp2
    exact hC
  case body =>
    rintro m l X pre x Bx Wa W hsz hXlt ⟨hbox, hB, hXs⟩ hpre hBx kx hBa
    simp only [List.setIfInBounds_toArray, List.set_cons_succ, List.set_cons_zero]
    have hlt := hlen pre x hpre
    obtain ⟨v, hv, hrow, hXB, hXg⟩ := hbox.ex
    obtain ⟨A', cap', rfl, _⟩ := own_Rd hrow
    obtain ⟨pl, hpl⟩ : ∃ pl, pre.length = pl := ⟨_, rfl⟩
    obtain ⟨xa, xo, xl⟩ := x
    dsimp only at kx
    have cx := kx.cell
    have cv := hv.cell
    have fv := hv.frozen
    have kN := Blk.new W 122 #[.int .i64 xa, .int .i64 xo, .int .i64 xl]
    have hXl2 : ∀ k, X k → k < W.heap.size := fun k hk => by have := (hXlt k hk).1; have := kx.lt; omega
    rw [hpl] at hrow hv cv hlt hXg
    gi_wp2_with (gi_at_builtin; refine wpListIn_append_x _ rfl (.tmp 8) (.tmp 10) 46 rfl (s + 3) 122 i0 (.agg #[.int .i64 0, .int .i64 0, .int .i64 0]) 3 24 Tryz.underlying46 hi hz0 hz1 hz2 rfl (by decide) _ pl (fl rnC pre) rfl (hrow.alloc _) ⟨W.heap.size, 0, none⟩ 1 1 [.int .i64 xa, .int .i64 xo, .int .i64 xl] rfl rfl (news_rn kN) news_oneR (by unfold maxLen; omega) (by omega) (by simp; omega) ?_; intro v' w1 hown' hgrow hblk; rw [← rnC_snoc pre (xa, xo, xl)] at hown'; obtain ⟨hv1, hb2, hf2⟩ := BoxX.appended hv (by decide) hrow hXB hXg hown' hgrow hblk hXl2; obtain ⟨A2, cap2, rfl, _⟩ := own_Rd hown'; have cv1 := hv1.cell; have fv1 := hv1.frozen)
    have hgx : ∀ g, (Value.slice A' pl cap').ownBlock = some g → s + 3 ≤ g ∧ ¬ X g := fun g hg => ⟨(hrow.lt g hg).1, hXg g hg⟩
    have hf3 := hf2 (fun k => k = s ∨ (Value.slice A' pl cap').ownBlock = some k) (.inl rfl) (fun g hg => .inr hg)
    refine ⟨hf3.mono fun k _ h => ?_, ?_, hB.trans (hf3.below (by have := hB.size; omega) fun k hk => ?_), hXs⟩
    · rintro (h' | h' | h' | h')
      · have := hK k h'
        rcases h with h | h
        · omega
        · have := hgx k h; omega
      · rcases h with h | h
        · exact hXB (h ▸ h')
        · exact (hgx k h).2 h'
      · rcases h with h | h
        · omega
        · have := hgx k h; omega
      · rcases h with h | h
        · omega
        · have := hgx k h; omega
    · rw [List.length_append, List.length_singleton, hpl]; exact hb2
    · rintro (h | h)
      · omega
      · have := hgx _ h; omega
  case done =>
    rintro X W hsz ⟨hbox, hB, hXs⟩ hd
    obtain ⟨v, hv, hrow, hXB, hXg⟩ := hbox.ex
    have cv := hv.cell
    obtain ⟨A', cap', rfl, _⟩ := own_Rd hrow
    rw [hs0] at hd hsz
    go_wp2_with fail
    rw [hs0]
    have hfp : Far (fun k => k = s + 1) W (W.putObj (s + 1) (.deferred none)) := Far.putObj (T := fun k => k = s + 1) (Far.refl _ _) (fun _ => rfl) _
    have hrow3 := ownsRow_far hrow hfp (fun g hg h => by have := (hrow.lt g hg).1; omega)
    exact leave_mark (v := .slice A' xs.length cap') hd (by simp [results, Tryz.results132, go_sem]) ⟨_, rfl, ownsRow_base hrow3 (by omega), by rw [hs]; exact hB.trans (hfp.below (by have := hB.size; omega) (fun k hk => by omega))⟩

theorem collectR_any (g : Nat) (lb : Array Value) (K : Nat → Prop) (xs : List Rn) (w : World) (hxs : xs.length ≤ 1000000)
    (hseq : SeqX Tryz.prog g lb rnA (fun _ => False) K xs w) (eg : ∀ args w, (callFunc g args).run Tryz.prog w = .ok (.enter g args) w) (hK : ∀ k, K k → k < w.heap.size) :
    Calls Tryz.prog 68 #[.func (.func g) #[] lb] w fun e w' => ∃ v, e = .returned v ∧ w'.ownsRow w.heap.size 122 3 v xs.length (fl rnC xs) ∧ Below w.heap.size w w' := by
  have HA := Lib.hid (appendSeqR_any g lb K xs w hxs hseq eg hK)
  go_enter Tryz.func68, Tryz.ntmps68
  go_wp2_with (go_at_call 132; refine (HA.out).mono ?_; rintro e w1 ⟨v, rfl, hown, hf⟩)
  go_ret
  exact ⟨v, rfl, hown, hf⟩
end Go.Proofs.YtpabnbhbcphfiaaGreat
namespace Go.Proofs.YtpabnbhbcphfiaaGreat
open Go Go.Proofs Go.RowKit Go.Pol

theorem wp_valU {P : Program} {o : Oper} {a : Act} {w w' : World} {v : Value} {K : Act → World → Prop} {Q : Exit → Act → World → Prop} (h : (execOp a.eval o).run P w = .ok (.value v) w') (hK : K (a.put o.dst v) w') : o.wp P a w K Q := by
  unfold Oper.wp; rw [h]; exact hK
theorem wp_skipU {P : Program} {o : Oper} {a : Act} {w w' : World} {K : Act → World → Prop} {Q : Exit → Act → World → Prop} (hd : o.dst = none) (h : (execOp a.eval o).run P w = .ok .skip w') (hK : K a w') : o.wp P a w K Q := by
  unfold Oper.wp; rw [h]; show K (a.put o.dst undef) w'; rw [hd]; exact hK
theorem wp_enterU {P : Program} {o : Oper} {a : Act} {w w1 : World} {f : FuncId} {args : Array Value} {v : Value} {C : World → Prop} {K : Act → World → Prop} {Q : Exit → Act → World → Prop} (h : (execOp a.eval o).run P w = .ok (.enter f args) w1)
    (hC : Calls P f args w1 fun e w' => e = .returned v ∧ C w') (hK : ∀ w', C w' → K (a.put o.dst v) w') : o.wp P a w K Q := by
  unfold Oper.wp; rw [h]
  show Calls P f args w1 _
  refine hC.mono ?_
  rintro e w' ⟨rfl, hw⟩
  exact hK w' hw
theorem step_plainU {P : Program} {ops : Array Oper} {o : Oper} {a : Act} {w : World} {K : Act → World → Prop} {Q : Exit → Act → World → Prop} {E : Prop} (hg : o.guard = none) (h : o.wp P a w K Q) :
    if Region.wanted o (yielded ops a.tmps) = true then o.wp P a w K Q else E := by
  rw [if_pos (by simp [Region.wanted, hg])]; exact h
theorem putU (a : Act) (t : Nat) (x y : Value) : (a.put (some t) x).put (some t) y = a.put (some t) y := by simp [Act.put]
theorem swapU (a : Act) (t u : Nat) (x y : Value) (h : t ≠ u) : (a.put (some t) x).put (some u) y = (a.put (some u) y).put (some t) x := Act.put_comm a x y (fun d hd he => by cases hd; cases he; exact h rfl)
theorem evalU_same (a : Act) (t : Nat) (x : Value) (h : t < a.tmps.size) : (a.put (some t) x).eval (.tmp t) = x := by simp [Act.eval, Act.put, h]
theorem evalU_ne (a : Act) (t u : Nat) (x : Value) (h : t ≠ u) : (a.put (some t) x).eval (.tmp u) = a.eval (.tmp u) := Act.eval_put (fun d hd he => by cases hd; cases he; exact h rfl)
theorem sizeU (a : Act) (t : Nat) (x : Value) : (a.put (some t) x).tmps.size = a.tmps.size := by simp [Act.put]
/-- the operations of a region of a body, by its number -/
def regOpsU (n : Nat) : Code → Option (Array Oper)
  | .region id ops _ => if id = n then some ops else none
  | .seq a b => match regOpsU n a with
    | some l => some l
    | none => regOpsU n b
  | .block _ c => regOpsU n c
  | .loop c => regOpsU n c
  | .scope c => regOpsU n c
  | .cond _ a b => match regOpsU n a with
    | some l => some l
    | none => regOpsU n b
  | _ => none
/-- a call whose value depends on the world -/
theorem wp_enterV {P : Program} {o : Oper} {a : Act} {w w1 : World} {f : FuncId} {args : Array Value} {C : Value → World → Prop} {K : Act → World → Prop} {Q : Exit → Act → World → Prop} (h : (execOp a.eval o).run P w = .ok (.enter f args) w1)
    (hC : Calls P f args w1 fun e w' => ∃ v, e = .returned v ∧ C v w') (hK : ∀ v w', C v w' → K (a.put o.dst v) w') : o.wp P a w K Q := by
  unfold Oper.wp; rw [h]
  show Calls P f args w1 _
  refine hC.mono ?_
  rintro e w' ⟨v, rfl, hw⟩
  exact hK v w' hw
end Go.Proofs.YtpabnbhbcphfiaaGreat
