/- Walks of layer 12 (commit): Grow. -/
import Derived.Test.YtjmmgoijnhnnaaaGreatT7
namespace Go.Pol
open Go Go.RowKit
theorem own_fn {w : World} {base n : Nat} {e : TypeId} {v : Value} {fv : Nat → Value} (h : w.ownsRow base e 1 v n ((List.range n).map fv)) :
  ∃ (Au : Option Addr) (cap : Nat), v = .slice Au n cap ∧ FnAt w Au (fun k => ∃ o, Au = some ⟨k, o, none⟩) fv n ∧ ∀ g o, Au = some ⟨g, o, none⟩ → ∃ cs, Blk w g e cs := by
 rcases h.2 with ⟨hv, hn⟩ | ⟨g, cap, cur, hv, _, hk, _, _, hsz, ht⟩
 ·subst hn
  exact ⟨none, 0, hv, fun i hi => absurd hi (by omega), fun g o e => (by cases e)⟩
 ·refine ⟨some ⟨g, 0, none⟩, cap, hv, fun i hi => ⟨g, rfl, ⟨0, rfl⟩, ?_⟩, fun g' o e => ?_⟩
  ·have hk' : Blk w g e cur := hk
   rw [hk'.cell]
   have h1 : (cur.toList.take (n * 1))[i]? = some (fv i) := by
    rw [ht, List.getElem?_map, List.getElem?_range hi]; rfl
   rw [List.getElem?_take, if_pos (by omega)] at h1
   simpa using h1
  ·cases e
   exact ⟨cur, hk⟩
theorem leave_mark_call {P : Program} {fn : Func} {tmps : Array Value} {R : Ending → World → Prop} {D : Nat} {d : Deferred} {fv : Fn} {cap : Array Value} {f : FuncId} {args : Array Value} {w wf : World} {Q : World → Prop}
  (htk : (Instr.takeDeferred D).run P w = .ok [] wf) (ht : d.target = .fn fv cap) (hi : (invoke d.target d.args).run P wf = .ok (.enter f args) wf)
  (hG : CallsDIn Fence.wide (0 - 1) P f args .returning wf fun e u' w' => u' = .returning ∧ e = .returned (.tuple #[]) ∧ Q w')
  (hR : ∀ w', Q w' → ∃ v, (results fn tmps).run P w' = .ok v w' ∧ R (.returned v) w') :
  bodyPostM Fence.wide 0 P fn R .ret { tmps := tmps, defers := [markOf D, d] } w := by
 refine ⟨by simp, .inl ⟨_, _, rfl, htk, by simp, .inr ⟨fun h => (by cases h), fv, cap, f, args, ht, hi, fun g _ => trivial, hG.mono ?_⟩⟩⟩
 rintro e u' w' ⟨rfl, rfl, hq⟩
 obtain ⟨v, h1, h2⟩ := hR w' hq
 exact ⟨v, h1, h2⟩
theorem own_typed {w : World} {base sz n g : Nat} {e : TypeId} {v : Value} {xs : List Value} (h : w.ownsRow base e sz v n xs) (hv : v.ownBlock = some g) : ∃ cs, Blk w g e cs := by
 rcases h.2 with ⟨e, _⟩ | ⟨g', cap', cur, e, _, hk, _⟩
 ·rw [e] at hv; cases hv
 ·rw [e] at hv
  cases hv
  exact ⟨cur, hk⟩
theorem range_snoc {α : Type} (f : Nat → α) (g : Nat → α) (n : Nat) (h : ∀ i, i < n → g i = f i) : (List.range (n + 1)).map g = (List.range n).map f ++ [g n] := by
 rw [List.range_succ, List.map_append]
 congr 1
 exact List.map_congr_left (fun i hi => h i (List.mem_range.1 hi))
theorem ownsRow_ty {base size n : Nat} {A B : World} {T : Nat → Prop} {e : TypeId} {v : Value} {xs : List Value} (h : A.ownsRow base e size v n xs) (hF : Far T A B) (hT : ∀ g cs, Blk A g e cs → ¬ T g) : B.ownsRow base e size v n xs := by
 refine ownsRow_far h hF (fun g hg ht => ?_)
 rcases h.2 with ⟨hv, _⟩ | ⟨g', cap', cur, hv, _, hk, _⟩
 ·rw [hv] at hg; cases hg
 ·rw [hv] at hg
  cases hg
  exact hT _ _ hk ht
theorem ownsRow_soft {N base size n : Nat} {A B : World} {e : TypeId} {v : Value} {xs : List Value} (h : A.ownsRow base e size v n xs) (hs : Soft N A B) : B.ownsRow base e size v n xs := by
 obtain ⟨T, hF, _, hB⟩ := hs
 refine ownsRow_far h hF (fun g hg ht => ?_)
 rcases h.2 with ⟨hv, _⟩ | ⟨g', cap', cur, hv, _, hk, _⟩
 ·rw [hv] at hg; cases hg
 ·rw [hv] at hg
  cases hg
  exact hB _ _ _ hk ht
end Go.Pol
namespace Go.Proofs.YtjmmgoijnhnnaaaGreat
open Go Go.Proofs Go.RowKit Go.Pol Go.Shelf
attribute [local go_sem] Oper.semAt_some Go.Pol.wide_fn Go.Pol.wide_depth Go.Pol.wide_fn' Go.Pol.wide_depth'
theorem grow1_enters : ∀ args w, (callFunc 55 args).run Tryz.prog w = .ok (.enter 55 args) w := enters_of Tryz.func55 (by kernel_rfl) rfl
theorem infoFn : (Tryz.prog.info? 1).map (fun i => (i.zero, i.size, i.bytes)) = some (some .nilFunc, 1, 8) := by kernel_rfl
theorem infoFn_parts : ∃ i0, Tryz.prog.info? 1 = some i0 ∧ i0.zero = some .nilFunc ∧ i0.size = 1 ∧ i0.bytes = 8 := by
 obtain ⟨i0, h⟩ := info_parts infoFn
 exact ⟨i0, h⟩
set_option maxRecDepth 100000 in
set_option maxHeartbeats 3200000 in
theorem cmGrow_any (bs bb : Nat) (V : Vm) (L : List Nd) (r : Cr) (tt : Int) (A : Option Addr) (cap : Nat) (w : World) (hV : SysIs w bs V) (hKd : KindOk V) (hB : BudIs w bb L) (hO : BudOk L) (hnl : chkCm r = 0 → r.node.toNat < L.length) (hcap : r.kept.length ≤ cap) (hcm : cap ≤ maxLen) (hk : KeptAt w A r.kept) :
  Calls Tryz.prog 19 #[.pointer (some ⟨bs, 0, none⟩), .pointer (some ⟨bb, 0, none⟩), .agg (crC r (.slice A r.kept.length cap)), .int .i64 tt] w fun e w' => ∃ v, e = .returned (.tuple #[v, .int .i64 (growC V L r tt).2.1]) ∧ CrV (growC V L r tt).1 w' v ∧ BothTo bs bb (growC V L r tt).2.2.1 (growC V L r tt).2.2.2 w w' := by
 have hr := hk.ru
 have HK := Lib.hid (fun W (h1 : SysIs W bs V) (h2 : BudIs W bb L) (h3 : RU W W.heap.size A r.kept) => ready_any bs bb V L r A cap W h1 hKd h2 hO hcap hcm h3)
 have HCn := Lib.hid (fun W => count_any r.pg r.n r.f r.bk r.ev W)
 rw [countF_us] at HCn
 obtain ⟨R, hR⟩ : ∃ R, growC V L r tt = R := ⟨_, rfl⟩
 rw [hR]
 unfold growC at hR
 have hz := @chkCm_zero r
 have hZ : chkCm r = 0 → CrOk r := hz.1
 clear hz
 generalize chkCm r = ck at *
 generalize hUs : usC r = us at *
 obtain ⟨pg, n, f, bk, ev, node, live, K, cl⟩ := r
 simp only at hcap hcm hr hk hR hZ HK HCn hnl ⊢
 generalize (countF pg n f bk ev).2 = V2 at *
 generalize chkG pg n f bk ev = cg at *
 obtain ⟨m, hm0⟩ : ∃ m, K.length = m := ⟨_, rfl⟩
 rw [hm0] at hcap HK ⊢
 have hm := Lib.hid hm0
 obtain ⟨w0, hw0, hb0, k1, k2, k3, k4, k5⟩ := boxes5 44 45 43 43 36 #[.pointer (some ⟨bs, 0, none⟩)] #[.pointer (some ⟨bb, 0, none⟩)] (crC ⟨pg, n, f, bk, ev, node, live, K, cl⟩ (.slice A m cap)) (crC cr0 (.slice none 0 0)) #[.int .i64 0] w
 have hr0 := Lib.hid (hr.on hb0)
 have hrH := Lib.hid hk
 dsimp only [crC, cr0] at k3 k4 hw0 HK ⊢
 clear hm0 hr hk
 by_cases h0 : ck = 0
 case neg =>
  have h0' : (ck != 0) = true := by simpa using h0
  rw [if_pos h0] at hR
  subst hR
  clear h0 hZ
  refine calls_of_marks Tryz.func19 rfl ?_
  simp only [Tryz.ntmps19, List.size_toArray, List.length_cons, List.length_nil, Nat.reduceAdd, Nat.reduceSub, Array.replicate_succ, Array.replicate_zero, List.push_toArray, List.append_toArray, List.nil_append, List.cons_append]
  go_upto_region 1 with fail
  rw [← hw0]
  have c1 := k1.cell
  have c2 := k2.cell
  have c3 := k3.cell
  clear hw0
  go_wp2_with fail
  refine (HK.out _ (hV.call hb0) (hB.call hb0) hr0.out).mono ?_
  rintro e w1 ⟨rfl, hb1⟩
  have k11 := k1.call hb1
  have k21 := k2.call hb1
  have k31 := k3.call hb1
  have k41 := k4.call hb1
  have k51 := k5.call hb1
  have B1 := hb0.trans (hb1.mono hb0.size)
  have c11 := k11.cell
  have c21 := k21.cell
  have c31 := k31.cell
  have c41 := k41.cell
  have f41 := k41.frozen
  have c51 := k51.cell
  have f51 := k51.frozen
  clear HK k1 k2 k3 k4 k5 hb0 hr0 hb1 c1 c2 c3
  go_wp2_with fail
  change bodyPostM _ _ _ _ _ _ _ ((put9 w1 (w.heap.size + 3) ⟨pg, n, f, bk, ev, node, live, K, cl⟩ (.slice A m cap)).setCell ⟨w.heap.size + 4, 0, none⟩ (.int .i64 ck))
  have kR9 := put9_blk k41 ⟨pg, n, f, bk, ev, node, live, K, cl⟩ (.slice A m cap)
  have F9 := put9_far w1 (w.heap.size + 3) ⟨pg, n, f, bk, ev, node, live, K, cl⟩ (.slice A m cap)
  have kE9 := F9.blk k51 (by show ¬ w.heap.size + 4 = w.heap.size + 3; omega)
  have kR10 := kR9.far (p := ⟨w.heap.size + 4, 0, none⟩) (by show w.heap.size + 3 ≠ w.heap.size + 4; omega) (.int .i64 ck)
  have kE10 := kE9.set_ 0 (.int .i64 ck)
  have F10 := ((F9.mono (fun _ _ h => .inl h) : Far (fun k => k = w.heap.size + 3 ∨ k = w.heap.size + 4) _ _)).setCell (p := ⟨w.heap.size + 4, 0, none⟩) (fun _ => .inr rfl) (.int .i64 ck)
  have T9 := (BothTo.below hV hB B1).fresh F10 (fun k hk => by rcases hk with rfl | rfl <;> omega) (fun k hk => by rcases hk with rfl | rfl; exact ⟨_, _, k41, by decide, by decide, by decide, by decide⟩; exact ⟨_, _, k51, by decide, by decide, by decide, by decide⟩)
  generalize (put9 w1 (w.heap.size + 3) ⟨pg, n, f, bk, ev, node, live, K, cl⟩ (.slice A m cap)).setCell ⟨w.heap.size + 4, 0, none⟩ (.int .i64 ck) = w9 at *
  dsimp only [crC] at kR10
  simp only [List.setIfInBounds_toArray, List.set_cons_zero] at kE10
  have cR9 := kR10.cell
  have cE9 := kE10.cell
  refine leave_none (v := .tuple #[.agg (crC ⟨pg, n, f, bk, ev, node, live, K, cl⟩ (.slice A m cap)), .int .i64 ck]) (by simp [results, Tryz.results19, go_sem, cR9, cE9, crC]) ?_
  exact ⟨_, rfl, ⟨A, cap, by rw [hm.out], by rw [hm.out]; exact hcap, hcm, T9.kept hV hrH.out⟩, T9⟩
 subst h0
 rw [if_neg (by simp)] at hR
 by_cases h1 : cl = true
 case pos =>
  subst h1
  rw [if_pos rfl] at hR
  subst hR
  clear hZ
  refine calls_of_marks Tryz.func19 rfl ?_
  simp only [Tryz.ntmps19, List.size_toArray, List.length_cons, List.length_nil, Nat.reduceAdd, Nat.reduceSub, Array.replicate_succ, Array.replicate_zero, List.push_toArray, List.append_toArray, List.nil_append, List.cons_append]
  go_upto_region 1 with fail
  rw [← hw0]
  have c1 := k1.cell
  have c2 := k2.cell
  have c3 := k3.cell
  clear hw0
  go_wp2_with fail
  refine (HK.out _ (hV.call hb0) (hB.call hb0) hr0.out).mono ?_
  rintro e w1 ⟨rfl, hb1⟩
  have k11 := k1.call hb1
  have k21 := k2.call hb1
  have k31 := k3.call hb1
  have k41 := k4.call hb1
  have k51 := k5.call hb1
  have B1 := hb0.trans (hb1.mono hb0.size)
  have c11 := k11.cell
  have c21 := k21.cell
  have c31 := k31.cell
  have c41 := k41.cell
  have f41 := k41.frozen
  have c51 := k51.cell
  have f51 := k51.frozen
  clear HK k1 k2 k3 k4 k5 hb0 hr0 hb1 c1 c2 c3
  go_wp2_with fail
  change bodyPostM _ _ _ _ _ _ _ ((put9 w1 (w.heap.size + 3) ⟨pg, n, f, bk, ev, node, live, K, true⟩ (.slice A m cap)).setCell ⟨w.heap.size + 4, 0, none⟩ (.int .i64 9))
  have kR9 := put9_blk k41 ⟨pg, n, f, bk, ev, node, live, K, true⟩ (.slice A m cap)
  have F9 := put9_far w1 (w.heap.size + 3) ⟨pg, n, f, bk, ev, node, live, K, true⟩ (.slice A m cap)
  have kE9 := F9.blk k51 (by show ¬ w.heap.size + 4 = w.heap.size + 3; omega)
  have kR10 := kR9.far (p := ⟨w.heap.size + 4, 0, none⟩) (by show w.heap.size + 3 ≠ w.heap.size + 4; omega) (.int .i64 9)
  have kE10 := kE9.set_ 0 (.int .i64 9)
  have F10 := ((F9.mono (fun _ _ h => .inl h) : Far (fun k => k = w.heap.size + 3 ∨ k = w.heap.size + 4) _ _)).setCell (p := ⟨w.heap.size + 4, 0, none⟩) (fun _ => .inr rfl) (.int .i64 9)
  have T9 := (BothTo.below hV hB B1).fresh F10 (fun k hk => by rcases hk with rfl | rfl <;> omega) (fun k hk => by rcases hk with rfl | rfl; exact ⟨_, _, k41, by decide, by decide, by decide, by decide⟩; exact ⟨_, _, k51, by decide, by decide, by decide, by decide⟩)
  generalize (put9 w1 (w.heap.size + 3) ⟨pg, n, f, bk, ev, node, live, K, true⟩ (.slice A m cap)).setCell ⟨w.heap.size + 4, 0, none⟩ (.int .i64 9) = w9 at *
  dsimp only [crC] at kR10
  simp only [List.setIfInBounds_toArray, List.set_cons_zero] at kE10
  have cR9 := kR10.cell
  have cE9 := kE10.cell
  refine leave_none (v := .tuple #[.agg (crC ⟨pg, n, f, bk, ev, node, live, K, true⟩ (.slice A m cap)), .int .i64 9]) (by simp [results, Tryz.results19, go_sem, cR9, cE9, crC]) ?_
  exact ⟨_, rfl, ⟨A, cap, by rw [hm.out], by rw [hm.out]; exact hcap, hcm, T9.kept hV hrH.out⟩, T9⟩
 have h1' : cl = false := by simpa using h1
 subst h1'
 rw [if_neg (by simp)] at hR
 by_cases h2 : tt < live
 case pos =>
  have h2' : decide (tt < live) = true := by simpa using h2
  rw [if_pos (.inl h2)] at hR
  subst hR
  clear h2 hZ
  refine calls_of_marks Tryz.func19 rfl ?_
  simp only [Tryz.ntmps19, List.size_toArray, List.length_cons, List.length_nil, Nat.reduceAdd, Nat.reduceSub, Array.replicate_succ, Array.replicate_zero, List.push_toArray, List.append_toArray, List.nil_append, List.cons_append]
  go_upto_region 1 with fail
  rw [← hw0]
  have c1 := k1.cell
  have c2 := k2.cell
  have c3 := k3.cell
  clear hw0
  go_wp2_with fail
  refine (HK.out _ (hV.call hb0) (hB.call hb0) hr0.out).mono ?_
  rintro e w1 ⟨rfl, hb1⟩
  have k11 := k1.call hb1
  have k21 := k2.call hb1
  have k31 := k3.call hb1
  have k41 := k4.call hb1
  have k51 := k5.call hb1
  have B1 := hb0.trans (hb1.mono hb0.size)
  have c11 := k11.cell
  have c21 := k21.cell
  have c31 := k31.cell
  have c41 := k41.cell
  have f41 := k41.frozen
  have c51 := k51.cell
  have f51 := k51.frozen
  clear HK k1 k2 k3 k4 k5 hb0 hr0 hb1 c1 c2 c3
  go_wp2_with fail
  refine (HCn.out _).mono ?_
  rintro e w2 ⟨rfl, hb2⟩
  have k12 := k11.call hb2
  have k22 := k21.call hb2
  have k32 := k31.call hb2
  have k42 := k41.call hb2
  have k52 := k51.call hb2
  have B2 := B1.trans (hb2.mono B1.size)
  have c12 := k12.cell
  have c22 := k22.cell
  have c32 := k32.cell
  have c42 := k42.cell
  have f42 := k42.frozen
  have c52 := k52.cell
  have f52 := k52.frozen
  clear HCn k11 k21 k31 k41 k51 B1 hb2 c11 c21 c31 c41 f41 c51 f51
  go_wp2_with fail
  change bodyPostM _ _ _ _ _ _ _ ((put9 w2 (w.heap.size + 3) ⟨pg, n, f, bk, ev, node, live, K, false⟩ (.slice A m cap)).setCell ⟨w.heap.size + 4, 0, none⟩ (.int .i64 7))
  have kR9 := put9_blk k42 ⟨pg, n, f, bk, ev, node, live, K, false⟩ (.slice A m cap)
  have F9 := put9_far w2 (w.heap.size + 3) ⟨pg, n, f, bk, ev, node, live, K, false⟩ (.slice A m cap)
  have kE9 := F9.blk k52 (by show ¬ w.heap.size + 4 = w.heap.size + 3; omega)
  have kR10 := kR9.far (p := ⟨w.heap.size + 4, 0, none⟩) (by show w.heap.size + 3 ≠ w.heap.size + 4; omega) (.int .i64 7)
  have kE10 := kE9.set_ 0 (.int .i64 7)
  have F10 := ((F9.mono (fun _ _ h => .inl h) : Far (fun k => k = w.heap.size + 3 ∨ k = w.heap.size + 4) _ _)).setCell (p := ⟨w.heap.size + 4, 0, none⟩) (fun _ => .inr rfl) (.int .i64 7)
  have T9 := (BothTo.below hV hB B2).fresh F10 (fun k hk => by rcases hk with rfl | rfl <;> omega) (fun k hk => by rcases hk with rfl | rfl; exact ⟨_, _, k42, by decide, by decide, by decide, by decide⟩; exact ⟨_, _, k52, by decide, by decide, by decide, by decide⟩)
  generalize (put9 w2 (w.heap.size + 3) ⟨pg, n, f, bk, ev, node, live, K, false⟩ (.slice A m cap)).setCell ⟨w.heap.size + 4, 0, none⟩ (.int .i64 7) = w9 at *
  dsimp only [crC] at kR10
  simp only [List.setIfInBounds_toArray, List.set_cons_zero] at kE10
  have cR9 := kR10.cell
  have cE9 := kE10.cell
  refine leave_none (v := .tuple #[.agg (crC ⟨pg, n, f, bk, ev, node, live, K, false⟩ (.slice A m cap)), .int .i64 7]) (by simp [results, Tryz.results19, go_sem, cR9, cE9, crC]) ?_
  exact ⟨_, rfl, ⟨A, cap, by rw [hm.out], by rw [hm.out]; exact hcap, hcm, T9.kept hV hrH.out⟩, T9⟩
 have h2' : decide (tt < live) = false := by simpa using h2
 by_cases h3 : us < tt
 case pos =>
  have h3' : decide (us < tt) = true := by simpa using h3
  rw [if_pos (.inr h3)] at hR
  subst hR
  clear h2 h3 hZ
  refine calls_of_marks Tryz.func19 rfl ?_
  simp only [Tryz.ntmps19, List.size_toArray, List.length_cons, List.length_nil, Nat.reduceAdd, Nat.reduceSub, Array.replicate_succ, Array.replicate_zero, List.push_toArray, List.append_toArray, List.nil_append, List.cons_append]
  go_upto_region 1 with fail
  rw [← hw0]
  have c1 := k1.cell
  have c2 := k2.cell
  have c3 := k3.cell
  clear hw0
  go_wp2_with fail
  refine (HK.out _ (hV.call hb0) (hB.call hb0) hr0.out).mono ?_
  rintro e w1 ⟨rfl, hb1⟩
  have k11 := k1.call hb1
  have k21 := k2.call hb1
  have k31 := k3.call hb1
  have k41 := k4.call hb1
  have k51 := k5.call hb1
  have B1 := hb0.trans (hb1.mono hb0.size)
  have c11 := k11.cell
  have c21 := k21.cell
  have c31 := k31.cell
  have c41 := k41.cell
  have f41 := k41.frozen
  have c51 := k51.cell
  have f51 := k51.frozen
  clear HK k1 k2 k3 k4 k5 hb0 hr0 hb1 c1 c2 c3
  go_wp2_with fail
  refine (HCn.out _).mono ?_
  rintro e w2 ⟨rfl, hb2⟩
  have k12 := k11.call hb2
  have k22 := k21.call hb2
  have k32 := k31.call hb2
  have k42 := k41.call hb2
  have k52 := k51.call hb2
  have B2 := B1.trans (hb2.mono B1.size)
  have c12 := k12.cell
  have c22 := k22.cell
  have c32 := k32.cell
  have c42 := k42.cell
  have f42 := k42.frozen
  have c52 := k52.cell
  have f52 := k52.frozen
  clear HCn k11 k21 k31 k41 k51 B1 hb2 c11 c21 c31 c41 f41 c51 f51
  go_wp2_with fail
  change bodyPostM _ _ _ _ _ _ _ ((put9 w2 (w.heap.size + 3) ⟨pg, n, f, bk, ev, node, live, K, false⟩ (.slice A m cap)).setCell ⟨w.heap.size + 4, 0, none⟩ (.int .i64 7))
  have kR9 := put9_blk k42 ⟨pg, n, f, bk, ev, node, live, K, false⟩ (.slice A m cap)
  have F9 := put9_far w2 (w.heap.size + 3) ⟨pg, n, f, bk, ev, node, live, K, false⟩ (.slice A m cap)
  have kE9 := F9.blk k52 (by show ¬ w.heap.size + 4 = w.heap.size + 3; omega)
  have kR10 := kR9.far (p := ⟨w.heap.size + 4, 0, none⟩) (by show w.heap.size + 3 ≠ w.heap.size + 4; omega) (.int .i64 7)
  have kE10 := kE9.set_ 0 (.int .i64 7)
  have F10 := ((F9.mono (fun _ _ h => .inl h) : Far (fun k => k = w.heap.size + 3 ∨ k = w.heap.size + 4) _ _)).setCell (p := ⟨w.heap.size + 4, 0, none⟩) (fun _ => .inr rfl) (.int .i64 7)
  have T9 := (BothTo.below hV hB B2).fresh F10 (fun k hk => by rcases hk with rfl | rfl <;> omega) (fun k hk => by rcases hk with rfl | rfl; exact ⟨_, _, k42, by decide, by decide, by decide, by decide⟩; exact ⟨_, _, k52, by decide, by decide, by decide, by decide⟩)
  generalize (put9 w2 (w.heap.size + 3) ⟨pg, n, f, bk, ev, node, live, K, false⟩ (.slice A m cap)).setCell ⟨w.heap.size + 4, 0, none⟩ (.int .i64 7) = w9 at *
  dsimp only [crC] at kR10
  simp only [List.setIfInBounds_toArray, List.set_cons_zero] at kE10
  have cR9 := kR10.cell
  have cE9 := kE10.cell
  refine leave_none (v := .tuple #[.agg (crC ⟨pg, n, f, bk, ev, node, live, K, false⟩ (.slice A m cap)), .int .i64 7]) (by simp [results, Tryz.results19, go_sem, cR9, cE9, crC]) ?_
  exact ⟨_, rfl, ⟨A, cap, by rw [hm.out], by rw [hm.out]; exact hcap, hcm, T9.kept hV hrH.out⟩, T9⟩
 have h3' : decide (us < tt) = false := by simpa using h3
 rw [if_neg (by omega)] at hR
 have hOk := hZ rfl
 have hlv := hOk.live0
 have hlv1 := Int.le_trans hOk.live1 (usC_le hOk.plan)
 have hus1 := usC_le hOk.plan
 rw [hUs] at hus1
 have hp := hOk.plan
 have hKC := hOk.can
 have hnd := hOk.node
 simp only at hlv hlv1 hKC hnd hp
 obtain ⟨nd, rfl⟩ : ∃ nd : Nat, node = nd := ⟨node.toNat, by omega⟩
 have hnl2 := hnl rfl
 rw [Int.toNat_natCast] at hR hnl2
 have hBC : Go.Pol.Can (belC live tt) := belC_can hlv (by omega)
 have hAC := Can.common hBC (hKC.gaps (i := (0, 1024)) (by decide)).1
 have HB := Lib.hid (fun W => below_any live tt W (by omega) (by omega))
 have HM := Lib.hid (fun W (A2 : Option Addr) (c2 : Nat) h1 h2 h3 h4 => minusY_any A2 A (belC live tt).length c2 m cap (belC live tt) K W rfl h1 h2 h3 hm.out hcap hcm h4 hBC hKC)
 have hB2C : Go.Pol.Can (belC 0 tt) := belC_can (Int.le_refl _) (by omega)
 have HB2 := Lib.hid (fun W => below_any 0 tt W (by omega) (by omega))
 have HM2 := Lib.hid (fun W (A1 A2 : Option Addr) (c1 c2 : Nat) (h0 : m ≤ c1 ∧ c1 ≤ maxLen) h1 h2 h3 h4 => minusY_any A1 A2 m c1 (belC 0 tt).length c2 K (belC 0 tt) W hm.out h0.1 h0.2 h4 rfl h1 h2 h3 hKC hB2C)
 unfold SpansY at HM2
 have hMF := more_facts (live := live) (tt := tt) hp hKC hlv (by
  have e : us = sumS (runsL pg n f bk ev) := by rw [← hUs]; unfold usC; rw [if_pos (chkG_zero.2 hp)]
  omega)
 generalize commonF (belC live tt) (gapsF K (0, 1024)) = more at *
 generalize belC live tt = L2 at *
 have hvR := runsC_ok hAC hp
 have hal512 := hAC.len
 obtain ⟨al, hal0⟩ : ∃ al, more.length = al := ⟨_, rfl⟩
 have hal := Lib.hid hal0
 rw [hal0] at hal512
 unfold SpansY at HM
 rw [hal0] at HM
 have hMF := Lib.hid hMF
 clear hal0 hBC hnl hZ hOk h2 h3
 refine calls_of_marks Tryz.func19 rfl ?_
 simp only [Tryz.ntmps19, List.size_toArray, List.length_cons, List.length_nil, Nat.reduceAdd, Nat.reduceSub, Array.replicate_succ, Array.replicate_zero, List.push_toArray, List.append_toArray, List.nil_append, List.cons_append]
 go_upto_region 1 with fail
 rw [← hw0]
 have c1 := k1.cell
 have c2 := k2.cell
 have c3 := k3.cell
 clear hw0
 go_wp2_with fail
 refine (HK.out _ (hV.call hb0) (hB.call hb0) hr0.out).mono ?_
 rintro e w1 ⟨rfl, hb1⟩
 have k11 := k1.call hb1
 have k21 := k2.call hb1
 have k31 := k3.call hb1
 have k41 := k4.call hb1
 have k51 := k5.call hb1
 have B1 := hb0.trans (hb1.mono hb0.size)
 have c11 := k11.cell
 have c21 := k21.cell
 have c31 := k31.cell
 have c41 := k41.cell
 have f41 := k41.frozen
 have c51 := k51.cell
 have f51 := k51.frozen
 clear HK k1 k2 k3 k4 k5 hb0 hr0 hb1 c1 c2 c3
 go_wp2_with fail
 refine (HCn.out _).mono ?_
 rintro e w2 ⟨rfl, hb2⟩
 have k12 := k11.call hb2
 have k22 := k21.call hb2
 have k32 := k31.call hb2
 have k42 := k41.call hb2
 have k52 := k51.call hb2
 have B2 := B1.trans (hb2.mono B1.size)
 have c12 := k12.cell
 have c22 := k22.cell
 have c32 := k32.cell
 have c42 := k42.cell
 have f42 := k42.frozen
 have c52 := k52.cell
 have f52 := k52.frozen
 clear HCn k11 k21 k31 k41 k51 B1 hb2 c11 c21 c31 c41 f41 c51 f51
 go_upto_region 9 with fail
 have hS : CrS (w.heap.size + 2) live (.slice A m cap) w2 := ⟨k32.cell 6, k32.cell 7⟩
 have hbd := (Below.refl w2.heap.size w2).drew
 have k1d := k12.call hbd
 have k2d := k22.call hbd
 have k3d := k32.call hbd
 have k4d := k42.call hbd
 have k5d := k52.call hbd
 have B2d := B2.trans (hbd.mono B2.size)
 have hS := hS.call hbd
 refine wp_noPanic ?_
 refine wp_region_T (CrS (w.heap.size + 2) live (.slice A m cap)) [] (by kernel_rfl) ?_
 generalize w2.drew = wd at *
 clear k12 k22 k32 k42 k52 B2 c12 c22 c32 c42 f42 c52 f52 hbd
 refine tkQ 0 hS ?_
 try simp only [Act.put, qsA, qsB, qsC]
 refine tkQ 1 hS ?_
 try simp only [Act.put, qsA, qsB, qsC]
 refine tkQ 2 hS ?_
 try simp only [Act.put, qsA, qsB, qsC]
 refine tkQ 4 hS ?_
 try simp only [Act.put, qsA, qsB, qsC]
 refine tkQ 5 hS ?_
 try simp only [Act.put, qsA, qsB, qsC]
 refine tkR 3 fun K hK => ?_
 go_simp
 refine (HB.out wd).mono ?_
 rintro (e w3 ⟨A2, c2, rfl, hru3, hl3, hc3, _, hb3⟩)
 refine hK.out _ _ (fun _ => hS.call hb3) (fun hS => ?_)
 clear hK K
 replace hS := hS rfl
 try simp only [Act.put, qsA, qsB, qsC]
 have k13 := k1d.call hb3
 have k23 := k2d.call hb3
 have k33 := k3d.call hb3
 have k43 := k4d.call hb3
 have k53 := k5d.call hb3
 have B3 := B2d.trans (hb3.mono B2d.size)
 refine tkR 6 fun K hK => ?_
 go_simp
 refine ((HM.out w3 A2 c2 hl3 hc3 hru3 (hrH.out.call B3).ru)).mono ?_
 rintro (e w4 ⟨A4, c4', rfl, hk4, hl4, hcm4, hb4⟩)
 refine hK.out _ _ (fun _ => hS.call hb4) (fun hS => ?_)
 clear hK K
 replace hS := hS rfl
 try simp only [Act.put, qsA, qsB, qsC]
 have k14 := k13.call hb4
 have k24 := k23.call hb4
 have k34 := k33.call hb4
 have k44 := k43.call hb4
 have k54 := k53.call hb4
 have B4 := B3.trans (hb4.mono B3.size)
 clear HB HM hru3 hl3 k1d k2d k3d k4d k5d B2d k13 k23 k33 k43 k53 B3 hb3 hb4
 refine tkQ 7 hS ?_
 try simp only [Act.put, qsA, qsB, qsC]
 refine tkQ 8 hS ?_
 try simp only [Act.put, qsA, qsB, qsC]
 refine tkQ 9 hS ?_
 try simp only [Act.put, qsA, qsB, qsC]
 refine tkQ 10 hS ?_
 try simp only [Act.put, qsA, qsB, qsC]
 refine tkQ 11 hS ?_
 try simp only [Act.put, qsA, qsB, qsC]
 refine wpAnyT_done (by kernel_rfl) ?_ _
 refine noPanic_normal ?_
 clear hS
 go_wp2_with fail
 have hk4r := hk4
 have HCt := Lib.hid (countS_any A4 al c4' more w4 hal.out (Nat.le_trans hl4 hcm4) hk4.ru)
 rw [chkS_zero.2 hAC, if_pos rfl] at HCt
 obtain ⟨many, hmany⟩ : ∃ many, sumS more = many := ⟨_, rfl⟩
 rw [hmany] at HCt hR
 have hmany9 := Lib.hid hmany
 clear hmany
 refine HCt.out.mono ?_
 rintro e w5 ⟨rfl, hb5⟩
 have km := Blk.new w5 3 #[.int .i64 many]
 have hba := hb5.trans (((Below.refl w5.heap.size w5).alloc (Nat.le_refl _) (.cells #[.int .i64 many] 3)).mono hb5.size)
 have k16 := k14.call hba
 have k26 := k24.call hba
 have k36 := k34.call hba
 have k46 := k44.call hba
 have k56 := k54.call hba
 have B6 := B4.trans (hba.mono B4.size)
 have hk6 := hk4.call hba
 have hgs : w.heap.size + 5 ≤ w5.heap.size := by have := (k54.call hb5).lt; omega
 obtain ⟨gm, hgm⟩ : ∃ gm, w5.heap.size = gm := ⟨_, rfl⟩
 rw [hgm] at km hgs
 go_upto_region 11 with fail
 generalize w5.alloc _ = w6 at *
 clear k14 k24 k34 k44 k54 B4 hk4 hk4r hba hb5 HCt
 have T6 := BothTo.below hV hB B6
 have HCh := Lib.hid (chargeB_any bb nd many L w6 T6.bud hO hnl2)
 obtain ⟨c, hc⟩ : ∃ c, chargeB L nd many = c := ⟨_, rfl⟩
 rw [hc] at HCh hR
 have k36' : Blk w6 (w.heap.size + 1 + 1) 43 _ := k36
 have c26 := k26.cell
 have c36 := k36'.cell
 have cm6 := km.cell
 go_wp2_with fail
 refine HCh.out.mono ?_
 rintro e w7 ⟨rfl, h7⟩
 have S7 := BothTo.byBud T6.sys h7
 have T7 := T6.trans S7
 have k17 := S7.blk T6.sys k16 (by decide) (by decide)
 have k27 := S7.blk T6.sys k26 (by decide) (by decide)
 have k37 := S7.blk T6.sys k36' (by decide) (by decide)
 have k47 := S7.blk T6.sys k46 (by decide) (by decide)
 have k57 := S7.blk T6.sys k56 (by decide) (by decide)
 have km7 := S7.blk T6.sys km (by decide) (by decide)
 have hk7 := S7.kept T6.sys hk6
 have hkK7 := T7.kept hV hrH.out
 clear k16 k26 k36 k36' k46 k56 km hk6 h7 T6 S7 HCh c26 c36 cm6 B6
 have c37 := k37.cell
 have c47 := k47.cell
 have f47 := k47.frozen
 have c57 := k57.cell
 have f57 := k57.frozen
 obtain ⟨ce, cL⟩ := c
 simp only at hR T7
 have hcO : BudOk cL := by have := chargeB_ok hO hnl2 many; rw [hc] at this; exact this
 have hcl2 : nd < cL.length := by have := chargeB_len L nd many; rw [hc] at this; simp only at this; omega
 clear hc
 by_cases h4 : ce = 0
 case neg =>
  have h4' : (ce != 0) = true := by simpa using h4
  rw [if_pos h4] at hR
  have hR9 := Lib.hid hR.symm
  clear hR h4
  go_wp2_with fail
  change bodyPostM _ _ _ _ _ _ _ ((put9 w7 (w.heap.size + 3) ⟨pg, n, f, bk, ev, nd, live, K, false⟩ (.slice A m cap)).setCell ⟨w.heap.size + 4, 0, none⟩ (.int .i64 ce))
  have kR9 := put9_blk k47 ⟨pg, n, f, bk, ev, nd, live, K, false⟩ (.slice A m cap)
  have F9 := put9_far w7 (w.heap.size + 3) ⟨pg, n, f, bk, ev, nd, live, K, false⟩ (.slice A m cap)
  have kE9 := F9.blk k57 (by show ¬ w.heap.size + 4 = w.heap.size + 3; omega)
  have kR10 := kR9.far (p := ⟨w.heap.size + 4, 0, none⟩) (by show w.heap.size + 3 ≠ w.heap.size + 4; omega) (.int .i64 ce)
  have kE10 := kE9.set_ 0 (.int .i64 ce)
  have F10 := ((F9.mono (fun _ _ h => .inl h) : Far (fun k => k = w.heap.size + 3 ∨ k = w.heap.size + 4) _ _)).setCell (p := ⟨w.heap.size + 4, 0, none⟩) (fun _ => .inr rfl) (.int .i64 ce)
  have T9 := (T7).fresh F10 (fun k hk => by rcases hk with rfl | rfl <;> omega) (fun k hk => by rcases hk with rfl | rfl; exact ⟨_, _, k47, by decide, by decide, by decide, by decide⟩; exact ⟨_, _, k57, by decide, by decide, by decide, by decide⟩)
  generalize (put9 w7 (w.heap.size + 3) ⟨pg, n, f, bk, ev, nd, live, K, false⟩ (.slice A m cap)).setCell ⟨w.heap.size + 4, 0, none⟩ (.int .i64 ce) = w9 at *
  dsimp only [crC] at kR10
  simp only [List.setIfInBounds_toArray, List.set_cons_zero] at kE10
  have cR9 := kR10.cell
  have cE9 := kE10.cell
  refine leave_none (v := .tuple #[.agg (crC ⟨pg, n, f, bk, ev, nd, live, K, false⟩ (.slice A m cap)), .int .i64 ce]) (by simp [results, Tryz.results19, go_sem, cR9, cE9, crC]) ?_
  rw [hR9.out]
  exact ⟨_, rfl, ⟨A, cap, by rw [hm.out], by rw [hm.out]; exact hcap, hcm, T9.kept hV hrH.out⟩, T9⟩
 subst h4
 rw [if_neg (by simp)] at hR
 go_upto_region 15 with fail
 have kN := put9_blk k47 ⟨pg, n, f, bk, ev, nd, live, K, false⟩ (.slice A m cap)
 have FN := put9_far w7 (w.heap.size + 3) ⟨pg, n, f, bk, ev, nd, live, K, false⟩ (.slice A m cap)
 have k18 := FN.blk k17 (by show ¬ w.heap.size = w.heap.size + 3; omega)
 have k28 := FN.blk k27 (by show ¬ w.heap.size + 1 = w.heap.size + 3; omega)
 have k38 := FN.blk k37 (by show ¬ w.heap.size + 1 + 1 = w.heap.size + 3; omega)
 have k58 := FN.blk k57 (by show ¬ w.heap.size + 4 = w.heap.size + 3; omega)
 have km8 := FN.blk km7 (by show ¬ gm = w.heap.size + 3; omega)
 have hk8 := hk7.far FN (fun g cs hg e => by subst e; exact k47.ne hg (by decide))
 have hkK8 := hkK7.far FN (fun g cs hg e => by subst e; exact k47.ne hg (by decide))
 have T8 := T7.fresh FN (fun k hk => by rw [hk]; omega) (fun k hk => by rw [hk]; exact ⟨_, _, k47, by decide, by decide, by decide, by decide⟩)
 change Code.wp _ _ _ _ (put9 w7 (w.heap.size + 3) ⟨pg, n, f, bk, ev, nd, live, K, false⟩ (.slice A m cap))
 generalize put9 w7 (w.heap.size + 3) ⟨pg, n, f, bk, ev, nd, live, K, false⟩ (.slice A m cap) = w8 at *
 dsimp only [crC] at kN
 clear k17 k27 k37 k47 k57 km7 hk7 hkK7 T7 FN c37 c47 f47 c57 f57
 have ku := Blk.new w8 129 #[.slice none 0 0]
 have hba := (Below.refl w8.heap.size w8).alloc (Nat.le_refl _) (.cells #[.slice none 0 0] 129)
 have k19 := k18.call hba
 have k29 := k28.call hba
 have k39 := k38.call hba
 have kN9 := kN.call hba
 have k59 := k58.call hba
 have km9 := km8.call hba
 have hk9 := hk8.call hba
 have hkK9 := hkK8.call hba
 have T9 := T8.thenBelow hba
 obtain ⟨gu, hgu⟩ : ∃ gu, w8.heap.size = gu := ⟨_, rfl⟩
 rw [hgu] at ku
 have hgu5 : gm < gu := by have := km8.lt; omega
 go_upto_region 17 with fail
 generalize w8.alloc _ = w9 at *
 clear k18 k28 k38 kN k58 km8 hk8 hkK8 T8 hba
 have k39' : Blk w9 (w.heap.size + 1 + 1) 43 _ := k39
 have c39 := k39'.cell
 have hb10 := below_alloc2 ((Below.refl w9.heap.size w9).alloc (Nat.le_refl _) (.cells (crC ⟨pg, n, f, bk, ev, nd, live, K, false⟩ (.slice A m cap)) 43)) (.cells #[.slice A4 al c4'] 41)
 have kB1 := (Blk.new w9 43 (crC ⟨pg, n, f, bk, ev, nd, live, K, false⟩ (.slice A m cap))).alloc2 (.cells #[.slice A4 al c4'] 41)
 have kB2 := Blk.new2 w9 (.cells (crC ⟨pg, n, f, bk, ev, nd, live, K, false⟩ (.slice A m cap)) 43) 41 #[.slice A4 al c4']
 have HRn := Lib.hid (cmRuns_any _ (.slice A m cap) ⟨pg, n, f, bk, ev, nd, live, K, false⟩ w9 rfl A4 al c4')
 dsimp only [crC] at hb10 kB1 kB2 HRn
 go_wp2_with (go_at_call 58; refine HRn.out.mono ?_; rintro e w10 ⟨rfl, hw10⟩)
 rw [← hw10] at hb10 kB1 kB2 ⊢
 obtain ⟨B1, hB1⟩ : ∃ B1, w9.heap.size = B1 := ⟨_, rfl⟩
 rw [hB1] at kB1 kB2
 simp only [hB1]
 have k10 := k19.call hb10
 have k20 := k29.call hb10
 have k30 := k39'.call hb10
 have kN10 := kN9.call hb10
 have k50 := k59.call hb10
 have km10 := km9.call hb10
 have ku10 := ku.call hb10
 have hk10 := hk9.call hb10
 have hkK10 := hkK9.call hb10
 have T10 := T9.thenBelow hb10
 have hguB : gu < B1 := by have := ku.lt; omega
 have hbsB : bs < B1 := by have := hV.lt; omega
 have HSq := Lib.hid (cmRuns1_seq ⟨pg, n, f, bk, ev, nd, live, K, false⟩ (.slice A m cap) B1 (B1 + 1) A4 al c4' more (fun k => k = B1 ∨ k = B1 + 1 ∨ (more ≠ [] ∧ ∃ o, A4 = some ⟨k, o, none⟩)) w10 hp hAC hal.out hl4 hcm4 (.inl rfl) (.inr (.inl rfl)) (fun hn g o e => .inr (.inr ⟨hn, o, e⟩)) kB1 kB2 hk10.ru)
 have hKlt : ∀ k, (k = B1 ∨ k = B1 + 1 ∨ (more ≠ [] ∧ ∃ o, A4 = some ⟨k, o, none⟩)) → k < w10.heap.size := fun k hk => by
  rcases hk with rfl | rfl | ⟨hn, o, e⟩
  ·exact kB1.lt
  ·exact kB2.lt
  ·obtain ⟨cs, hc⟩ := hk10.block hn e
   exact hc.lt
 clear k19 k29 k39 k39' kN9 k59 km9 ku hk9 hkK9 T9 hw10 c39 HRn
 simp only at HSq
 obtain ⟨XS, hXS⟩ : ∃ XS, runsC more 0 (runsL pg n f bk ev) = XS := ⟨_, rfl⟩
 rw [hXS] at HSq hR hvR
 have hMF := hMF.out
 rw [hXS, hmany9.out] at hMF
 obtain ⟨mf1, mf2, mf3, mf4⟩ := hMF
 clear hXS hmany9
 have hcr : CrAt w10 (w.heap.size + 3) ⟨pg, n, f, bk, ev, nd, live, K, false⟩ := ⟨A, cap, by simp only; rw [hm.out]; exact kN10, hkK10, by simp only; rw [hm.out]; exact hcap, hcm⟩
 have hN10 : w.heap.size ≤ w10.heap.size := T10.size
 refine rangeBR 20 79 137 (by rfl) cmRuns1_enters HSq.out rfl hKlt
  (fun pre W => ∃ (U : Vm) (v : Value) (bx : Nat → Nat), Hid (∀ rest, pre ++ rest = XS → comL XS [] V = comL rest pre U) ∧ BothTo bs bb U cL w W ∧ Blk W w.heap.size 44 #[.pointer (some ⟨bs, 0, none⟩)] ∧ Blk W (w.heap.size + 1) 45 #[.pointer (some ⟨bb, 0, none⟩)] ∧ Blk W (w.heap.size + 1 + 1) 43 #[.int .i64 pg, .int .i64 n, .int .i64 f, .int .i64 bk, .int .i64 ev, .int .i64 nd, .int .i64 live, .slice A m cap, .bool false] ∧ CrAt W (w.heap.size + 3) ⟨pg, n, f, bk, ev, nd, live, K, false⟩ ∧ Blk W (w.heap.size + 4) 36 #[.int .i64 0] ∧ Blk W gm 3 #[.int .i64 many] ∧ Blk W gu 129 #[v] ∧
   W.ownsRow w.heap.size 1 1 v pre.length ((List.range pre.length).map (fun i => unV w.heap.size (w.heap.size + 3) gm (bx i))) ∧ (∀ i, i < pre.length → Blk W (bx i) 137 (rnTC (pre.getD i rnT0))) ∧ (∃ cs, Blk W B1 43 cs) ∧ (∃ cs, Blk W (B1 + 1) 41 cs) ∧ KeptAt W A4 more)
  (fun c pre W => c = .ret ∧ ∃ (U : Vm) (v : Value) (bx : Nat → Nat) (er : Int), er ≠ 0 ∧ Hid (comL XS [] V = (er, U, pre.dropLast)) ∧ BothTo bs bb U cL w W ∧ Blk W w.heap.size 44 #[.pointer (some ⟨bs, 0, none⟩)] ∧ Blk W (w.heap.size + 1) 45 #[.pointer (some ⟨bb, 0, none⟩)] ∧ Blk W (w.heap.size + 1 + 1) 43 #[.int .i64 pg, .int .i64 n, .int .i64 f, .int .i64 bk, .int .i64 ev, .int .i64 nd, .int .i64 live, .slice A m cap, .bool false] ∧ CrAt W (w.heap.size + 3) ⟨pg, n, f, bk, ev, nd, live, K, false⟩ ∧ Blk W (w.heap.size + 4) 36 #[.int .i64 er] ∧ Blk W gm 3 #[.int .i64 many] ∧ Blk W gu 129 #[v] ∧
   W.ownsRow w.heap.size 1 1 v pre.dropLast.length ((List.range pre.dropLast.length).map (fun i => unV w.heap.size (w.heap.size + 3) gm (bx i))) ∧ (∀ i, i < pre.dropLast.length → Blk W (bx i) 137 (rnTC (pre.dropLast.getD i rnT0))))
  ?hI ?hIx ?h0 ?assign ?body ?done ?stop
 case hI =>
  rintro pre WA WB ⟨U, v, bx, h1, h2, h3, h4, h5, h6, h7, h8, h9, h10, h11, ⟨c12, h12⟩, ⟨c13, h13⟩, h14⟩ hs
  exact ⟨U, v, bx, h1, h2.soft hN10 hs, hs.blk h3, hs.blk h4, hs.blk h5, h6.soft hs, hs.blk h7, hs.blk h8, hs.blk h9, ownsRow_soft h10 hs, fun i hi => hs.blk (h11 i hi), ⟨c12, hs.blk h12⟩, ⟨c13, hs.blk h13⟩, h14.soft hs⟩
 case hIx =>
  rintro c pre WA WB ⟨h0, U, v, bx, er, he, h1, h2, h3, h4, h5, h6, h7, h8, h9, h10, h11⟩ hs
  exact ⟨h0, U, v, bx, er, he, h1, h2.soft hN10 hs, hs.blk h3, hs.blk h4, hs.blk h5, h6.soft hs, hs.blk h7, hs.blk h8, hs.blk h9, ownsRow_soft h10 hs, fun i hi => hs.blk (h11 i hi)⟩
 case h0 =>
  exact ⟨V, _, fun _ => 0, Lib.hid (fun rest h => by rw [List.nil_append] at h; rw [h]), T10, k10, k20, k30, hcr, k50, km10, ku10, World.ownsRow_nil _ _ _ _, fun i hi => absurd hi (by simp), ⟨_, kB1⟩, ⟨_, kB2⟩, hk10⟩
 case assign =>
  intro mm l x W C hC
  obtain ⟨xa, xb, xn⟩ := x
  simp only [rnTC, List.setIfInBounds_toArray, List.set_cons_succ, List.set_cons_zero] at hC ⊢
  gi_wp2
  exact hC
 case body =>
  rintro mm l X pre x Bx W hs2 hX hD hE ⟨U, v, bx, hS, T1, k1, k2, k3, hc3', ke, kmm, kuu, hrow, hbx, ⟨c8, kB1'⟩, ⟨c9, kB2'⟩, hkA⟩ kx hpre
  simp only [List.setIfInBounds_toArray, List.set_cons_succ, List.set_cons_zero]
  obtain ⟨rest, hrest⟩ := hpre
  have hst := hS.out (x :: rest) (by rw [← hrest, List.append_assoc]; rfl)
  rw [comL] at hst
  obtain ⟨xa, xb, xn⟩ := x
  simp only at hst
  have HC := Lib.hid (fun W h => commit_any bs xa xb U W h)
  obtain ⟨J, hJ⟩ : ∃ J, bec U xa xb 2 1 2 = J := ⟨_, rfl⟩
  rw [hJ] at HC hst
  obtain ⟨je, jV⟩ := J
  simp only at HC hst
  have c1 := k1.cell
  have cx := kx.cell
  clear hJ
  gi_wp2_with fail
  refine (callsIn_wide.2 (HC.out _ T1.sys)).mono ?_
  rintro e w1 ⟨rfl, h1⟩
  have S1 := BothTo.bySys T1.sys T1.bud h1
  by_cases hj0 : je = 0
  ·subst hj0
   rw [if_neg (by simp)] at hst
   have hst2 := Lib.hid hst
   obtain ⟨i0, hi, hz0, hz1, hz2⟩ := infoFn_parts
   have hlen : pre.length + 1 ≤ XS.length := by rw [← hrest]; simp
   have k12 := S1.blk T1.sys k1 (by decide) (by decide)
   have k22 := S1.blk T1.sys k2 (by decide) (by decide)
   have k32 := S1.blk T1.sys k3 (by decide) (by decide)
   have ke2 := S1.blk T1.sys ke (by decide) (by decide)
   have km2 := S1.blk T1.sys kmm (by decide) (by decide)
   have ku2 := S1.blk T1.sys kuu (by decide) (by decide)
   have kx2 := S1.blk T1.sys kx (by decide) (by decide)
   have kB12 := S1.blk T1.sys kB1' (by decide) (by decide)
   have kB22 := S1.blk T1.sys kB2' (by decide) (by decide)
   have hkA2 := S1.kept T1.sys hkA
   have hc2 := hc3'.both T1.sys S1
   have hbx2 := fun i hi => S1.blk T1.sys (hbx i hi) (by decide) (by decide)
   have hrow2 := ownsRow_ty hrow S1.far (fun g cs hg => TwoT.not T1.sys hg (by decide) (by decide))
   have cu2 := ku2.cell
   have fu2 := ku2.frozen
   have kN := Blk.new w1 1 #[unV w.heap.size (w.heap.size + 3) gm Bx]
   have hszw : w.heap.size ≤ w1.heap.size := Nat.le_trans T1.size S1.size
   have noK : ∀ k t cs, Blk W k t cs → t ≠ 140 → t ≠ 41 → t ≠ 43 → ¬ ((k = B1 ∨ k = B1 + 1 ∨ (more ≠ [] ∧ ∃ o, A4 = some ⟨k, o, none⟩)) ∨ X k ∨ k = w10.heap.size ∨ k = w10.heap.size + 1) := by
    intro k t cs hb h1 h2 h3 hz
    rcases hz with (h | h | ⟨hn, o, h⟩) | h | h | h
    ·subst h; exact hb.ne kB1' h3
    ·subst h; exact hb.ne kB2' h2
    ·obtain ⟨cs', hc'⟩ := hkA.block hn h; exact hb.ne hc' h1
    ·obtain ⟨cs', hc'⟩ := hX k h; exact hb.ne hc' h1
    ·subst h; exact hD _ _ hb
    ·subst h; exact hE _ _ hb
   have noT : ∀ k, (TwoT W bs bb k ∨ v.ownBlock = some k ∨ k = gu) → ¬ ((k = B1 ∨ k = B1 + 1 ∨ (more ≠ [] ∧ ∃ o, A4 = some ⟨k, o, none⟩)) ∨ X k ∨ k = w10.heap.size ∨ k = w10.heap.size + 1) := by
    rintro k ((rfl | ⟨_, cs, hc⟩) | h | rfl)
    ·obtain ⟨cs, hc⟩ := T1.sys.typed
     exact noK _ _ _ hc (by decide) (by decide) (by decide)
    ·exact noK _ _ _ hc (by decide) (by decide) (by decide)
    ·obtain ⟨cs, hc⟩ := own_typed hrow h
     exact noK _ _ _ hc (by decide) (by decide) (by decide)
    ·exact noK _ _ _ kuu (by decide) (by decide) (by decide)
   have noTH := Lib.hid noT
   have hguw : w.heap.size ≤ gu := by omega
   have noU : ∀ g t cs, Blk w1 g t cs → t ≠ 1 → t ≠ 129 → ¬ (v.ownBlock = some g ∨ g = gu) := by
    rintro g t cs hg h1 h2 (h | rfl)
    ·obtain ⟨cs', hc'⟩ := own_typed hrow2 h
     exact hg.ne hc' h1
    ·exact hg.ne ku2 h2
   have noUH := Lib.hid noU
   clear noK noT noU hD hE hX
   clear hst c1 cx k1 k2 k3 ke kmm kuu kx hbx HC h1 kB1' kB2' hkA hc3' hrow
   unfold unV at kN
   gi_wp2_with (gi_at_builtin; refine wpListIn_append_own _ rfl (.tmp 90) (.tmp 92) 129 rfl w.heap.size 1 i0 .nilFunc 1 8 Tryz.underlying129 hi hz0 hz1 hz2 rfl (by decide) v pre.length _ rfl (hrow2.alloc _) ⟨w1.heap.size, 0, none⟩ 1 1 [_] rfl rfl (fun j u hu => by
     have hj0 : j = 0 := by have := (List.getElem?_eq_some_iff.1 hu).1; simp at this; omega
     subst hj0
     rw [addr_add0, Nat.zero_add, kN.cell]; simpa using hu) (fun u hu => by simp only [List.mem_singleton] at hu; subst hu; rfl) (by unfold maxLen; omega) (by omega) (by simp; omega) ?_; intro v' w2 hown' hgrow _; obtain ⟨Au', cu', rfl, _⟩ := own_Rd hown'; have ku3 := (ku2.alloc _).grown hgrow (fun e => ku2.not_row hrow2 (by decide) e.symm); have cu3 := ku3.cell; have fu3 := ku3.frozen)
   have FA : Far (fun k => v.ownBlock = some k ∨ k = gu) w1 w2 := ((Far.refl _ w1).alloc _).grown hgrow (fun r e hr => .inl e)
   have FF := FA.setCell (p := ⟨gu, 0, none⟩) (fun _ => .inr rfl) (.slice Au' (pre.length + 1) cu')
   have FG : Far (fun k => k = gu) w2 (w2.setCell ⟨gu, 0, none⟩ (.slice Au' (pre.length + 1) cu')) := Far.setCell (T := fun k => k = gu) (p := ⟨gu, 0, none⟩) (Far.refl _ w2) (fun _ => rfl) _
   have kU := ku3.set_ 0 (.slice Au' (pre.length + 1) cu')
   have hown3 := ownsRow_far hown' FG (fun g hg e => by subst e; exact own_other hown' hg ku3 (by decide))
   have T3 := (T1.trans S1).fresh FF (fun k hk => by rcases hk with h | rfl; exact (hrow2.lt k h).1; exact hguw) (fun k hk => by
    rcases hk with h | rfl
    ·obtain ⟨cs, hc⟩ := own_typed hrow2 h
     exact ⟨_, cs, hc, by decide, by decide, by decide, by decide⟩
    ·exact ⟨_, _, ku2, by decide, by decide, by decide, by decide⟩)
   generalize w2.setCell ⟨gu, 0, none⟩ (.slice Au' (pre.length + 1) cu') = w3 at *
   simp only [List.setIfInBounds_toArray, List.set_cons_zero] at kU
   refine ⟨(S1.far.mono (fun k _ h => noTH.out k (.inl h))).trans' FF (fun i hi h => noTH.out i (.inr h)), jV, _, fun i => if i = pre.length then Bx else bx i, ?_, T3, FF.blk k12 (noUH.out _ _ _ k12 (by decide) (by decide)), FF.blk k22 (noUH.out _ _ _ k22 (by decide) (by decide)), FF.blk k32 (noUH.out _ _ _ k32 (by decide) (by decide)), ?_, FF.blk ke2 (noUH.out _ _ _ ke2 (by decide) (by decide)), FF.blk km2 (noUH.out _ _ _ km2 (by decide) (by decide)), kU, ?_, ?_, ⟨_, FF.blk kB12 (noUH.out _ _ _ kB12 (by decide) (by decide))⟩, ⟨_, FF.blk kB22 (noUH.out _ _ _ kB22 (by decide) (by decide))⟩, hkA2.far FF (fun g cs hg => noUH.out _ _ _ hg (by decide) (by decide))⟩
   ·refine Lib.hid (fun rest' h => ?_)
    have e : rest' = rest := by
     rw [← hrest] at h
     exact List.append_cancel_left h
    rw [e]
    exact hst2.out
   ·obtain ⟨q, cq, k42, hkq, hlq, hcq⟩ := hc2.ex
    exact ⟨q, cq, FF.blk k42 (noUH.out _ _ _ k42 (by decide) (by decide)), hkq.far FF (fun g cs hg => noUH.out _ _ _ hg (by decide) (by decide)), hlq, hcq⟩
   ·rw [List.length_append, List.length_singleton, range_snoc (fun i => unV w.heap.size (w.heap.size + 3) gm (bx i)) _ pre.length (fun i hi => by dsimp only; rw [if_neg (by omega)])]
    simpa [unV] using hown3
   ·intro i hi
    dsimp only
    by_cases e : i = pre.length
    ·rw [if_pos e, e]
     have e2 : (pre ++ [(xa, xb, xn)]).getD pre.length rnT0 = (xa, xb, xn) := by simp [List.getD_eq_getElem?_getD]
     rw [e2]
     exact FF.blk kx2 (noUH.out _ _ _ kx2 (by decide) (by decide))
    ·have hi' : i < pre.length := by rw [List.length_append, List.length_singleton] at hi; omega
     rw [if_neg e]
     have e2 : (pre ++ [(xa, xb, xn)]).getD i rnT0 = pre.getD i rnT0 := by simp [List.getD_eq_getElem?_getD, List.getElem?_append_left hi']
     rw [e2]
     exact FF.blk (hbx2 i hi') (noUH.out _ _ _ (hbx2 i hi') (by decide) (by decide))
  ·have hj0' : (je != 0) = true := by simpa using hj0
   rw [if_pos hj0] at hst
   have hst2 := Lib.hid hst
   obtain ⟨q, cq, k42, hkq, hlq, hcq⟩ := (hc3'.both T1.sys S1).ex
   simp only at k42 hkq hlq
   rw [hm.out] at k42 hlq
   have k12 := S1.blk T1.sys k1 (by decide) (by decide)
   have k22 := S1.blk T1.sys k2 (by decide) (by decide)
   have k32 := S1.blk T1.sys k3 (by decide) (by decide)
   have ke2 := S1.blk T1.sys ke (by decide) (by decide)
   have km2 := S1.blk T1.sys kmm (by decide) (by decide)
   have ku2 := S1.blk T1.sys kuu (by decide) (by decide)
   have hbx2 := fun i hi => S1.blk T1.sys (hbx i hi) (by decide) (by decide)
   have c42 := k42.cell
   have f42 := k42.frozen
   have fe2 := ke2.frozen
   have ce2 := ke2.cell
   clear hst c1 cx k1 k2 k3 ke kmm kuu hbx HC h1 kB1' kB2'
   gi_wp2_with fail
   have hrow2 := ownsRow_ty hrow S1.far (fun g cs hg => TwoT.not T1.sys hg (by decide) (by decide))
   have kN2 := put9_blk k42 ⟨pg, n, f, bk, ev, nd, live, K, false⟩ (.slice q m cq)
   have FN := put9_far w1 (w.heap.size + 3) ⟨pg, n, f, bk, ev, nd, live, K, false⟩ (.slice q m cq)
   have kE2 := FN.blk ke2 (by show ¬ w.heap.size + 4 = w.heap.size + 3; omega)
   have kN3 := kN2.far (p := ⟨w.heap.size + 4, 0, none⟩) (by show w.heap.size + 3 ≠ w.heap.size + 4; omega) (.int .i64 je)
   have kE3 := kE2.set_ 0 (.int .i64 je)
   have FE := ((FN.mono (fun _ _ h => .inl h) : Far (fun k => k = w.heap.size + 3 ∨ k = w.heap.size + 4) _ _)).setCell (p := ⟨w.heap.size + 4, 0, none⟩) (fun _ => .inr rfl) (.int .i64 je)
   have T3 := (T1.trans S1).fresh FE (fun k hk => by rcases hk with rfl | rfl <;> omega) (fun k hk => by rcases hk with rfl | rfl; exact ⟨_, _, k42, by decide, by decide, by decide, by decide⟩; exact ⟨_, _, ke2, by decide, by decide, by decide, by decide⟩)
   have nFE : ∀ g t cs, Blk w1 g t cs → t ≠ 36 → (t = 43 → g ≠ w.heap.size + 3) → ¬ (g = w.heap.size + 3 ∨ g = w.heap.size + 4) := by
    intro g t cs hg h1 h2 hz
    rcases hz with rfl | rfl
    ·by_cases e : t = 43
     ·exact h2 e rfl
     ·exact hg.ne k42 e
    ·exact hg.ne ke2 h1
   change bPost _ _ _ _ _ _ _ _ _ ((put9 w1 (w.heap.size + 3) ⟨pg, n, f, bk, ev, nd, live, K, false⟩ (.slice q m cq)).setCell ⟨w.heap.size + 4, 0, none⟩ (.int .i64 je))
   generalize (put9 w1 (w.heap.size + 3) ⟨pg, n, f, bk, ev, nd, live, K, false⟩ (.slice q m cq)).setCell ⟨w.heap.size + 4, 0, none⟩ (.int .i64 je) = w3 at *
   refine ⟨?_, rfl, jV, v, bx, je, hj0, by rw [List.dropLast_concat]; exact hst2, T3, FE.blk k12 (nFE _ _ _ k12 (by decide) (fun h => absurd h (by decide))), FE.blk k22 (nFE _ _ _ k22 (by decide) (fun h => absurd h (by decide))), FE.blk k32 (nFE _ _ _ k32 (by decide) (fun _ => by omega)), ⟨q, cq, by simp only; rw [hm.out]; exact kN3, hkq.far FE (fun g cs hg => nFE _ _ _ hg (by decide) (fun h => absurd h (by decide))), by simp only; rw [hm.out]; exact hlq, hcq⟩, kE3, FE.blk km2 (nFE _ _ _ km2 (by decide) (fun h => absurd h (by decide))), FE.blk ku2 (nFE _ _ _ ku2 (by decide) (fun h => absurd h (by decide))), ?_, ?_⟩
   ·refine (S1.far.mono (fun k _ hk => ?_)).trans' FE (fun i hi hk hz => ?_)
    ·obtain ⟨t, cs, hb⟩ : ∃ t cs, Blk W k t cs := by
      rcases hk with rfl | ⟨_, cs, hc⟩
      ·obtain ⟨cs, hc⟩ := T1.sys.typed; exact ⟨_, _, hc⟩
      ·exact ⟨_, _, hc⟩
     rintro (rfl | rfl)
     ·exact hD _ _ hb
     ·exact hE _ _ hb
    ·have := k50.lt
     rcases hk with rfl | rfl <;> rcases hz with h | h <;> omega
   ·rw [List.dropLast_concat]; exact ownsRow_ty hrow2 FE (fun g cs hg => nFE _ _ _ hg (by decide) (fun h => absurd h (by decide)))
   ·rw [List.dropLast_concat]; exact fun i hi => FE.blk (hbx2 i hi) (nFE _ _ _ (hbx2 i hi) (by decide) (fun h => absurd h (by decide)))
 case done =>
  rintro W hs2 ⟨U, v, bx, hS, T1, k1, k2, k3, hc3', ke, kmm, kuu, hrow, hbx, _, _, _⟩ hd
  have hS2 := hS.out [] (List.append_nil _)
  rw [comL] at hS2
  rw [hS2] at hR
  simp only [if_true] at hR
  obtain ⟨q, cq, k4, hkq, hlq, hcq⟩ := hc3'.ex
  simp only at k4 hkq hlq
  rw [hm.out] at k4 hlq
  dsimp only [crC] at k4
  have c4 := k4.cell
  have f4 := k4.frozen
  go_upto_region 24 with fail
  clear c4
  have hDw : w.heap.size ≤ w10.heap.size := hN10
  have HD0 : DfAt (some w10.heap.size) W := fun D e => by cases e; exact hd
  have FS := Far.setCell (T := fun k => k = w.heap.size + 3) (p := ⟨w.heap.size + 3, 6, none⟩) (Far.refl _ W) (fun _ => rfl) (.int .i64 tt)
  have T2 := T1.fresh FS (fun k hk => by rw [hk]; omega) (fun k hk => by rw [hk]; exact ⟨_, _, k4, by decide, by decide, by decide, by decide⟩)
  have k32 := k3.far (p := ⟨w.heap.size + 3, 6, none⟩) (by show w.heap.size + 1 + 1 ≠ w.heap.size + 3; omega) (.int .i64 tt)
  have k42 := k4.set_ 6 (.int .i64 tt)
  have ke2 := ke.far (p := ⟨w.heap.size + 3, 6, none⟩) (by show w.heap.size + 4 ≠ w.heap.size + 3; omega) (.int .i64 tt)
  have HD2 := HD0.far FS (fun k hk => by rw [hk]; exact ⟨_, _, k4⟩)
  have hq2 := hkq.far FS (fun g cs hg e => by subst e; exact k4.ne hg (by decide))
  have hK2 := T2.kept hV hrH.out
  change Code.wp _ _ _ _ (W.setCell ⟨w.heap.size + 3, 6, none⟩ (.int .i64 tt))
  generalize W.setCell ⟨w.heap.size + 3, 6, none⟩ (.int .i64 tt) = wt at *
  simp only [List.setIfInBounds_toArray, List.set_cons_zero, List.set_cons_succ] at k42
  clear k1 k2 k3 k4 kmm kuu hrow hbx ke hkq FS f4 T1 hd HD0
  have hS : CrS (w.heap.size + 2) live (.slice A m cap) wt := ⟨k32.cell 6, k32.cell 7⟩
  have hbd := (Below.refl wt.heap.size wt).drew
  have T3 := T2.thenBelow hbd
  have k43 := k42.call hbd
  have ke3 := ke2.call hbd
  have HD3 := HD2.call hbd
  have hq3 := hq2.call hbd
  have hK3 := hK2.call hbd
  have hS := hS.call hbd
  refine wp_noPanic ?_
  refine wp_region_T (CrS (w.heap.size + 2) live (.slice A m cap)) [6, 7, 8, 9] (by kernel_rfl) ?_
  generalize wt.drew = wd at *
  clear k42 ke2 HD2 hq2 hK2 T2 hbd
  refine tkQ 0 hS ?_
  try simp only [Act.put, qsA, qsB, qsC]
  refine tkQ 1 hS ?_
  try simp only [Act.put, qsA, qsB, qsC]
  refine tkQ 2 hS ?_
  try simp only [Act.put, qsA, qsB, qsC]
  refine tkR 3 fun K hK => ?_
  go_simp
  refine (HB2.out wd).mono ?_
  rintro (e wa ⟨A2, c2, rfl, hru2, hl2, hc2, _, hba⟩)
  refine hK.out _ _ (fun _ => hS.call hba) (fun hS => ?_)
  clear hK K
  replace hS := hS rfl
  try simp only [Act.put, qsA, qsB, qsC]
  have hKa := hK3.call hba
  refine tkR 4 fun K hK => ?_
  go_simp
  refine ((HM2.out wa A A2 cap c2 ⟨hcap, hcm⟩ hl2 hc2 hru2 hKa.ru)).mono ?_
  rintro (e wb ⟨A5, c5, rfl, hk5, hl5, hcm5, hbb⟩)
  refine hK.out _ _ (fun _ => hS.call hbb) (fun hS => ?_)
  clear hK K
  replace hS := hS rfl
  try simp only [Act.put, qsA, qsB, qsC]
  have hab := hba.trans (hbb.mono hba.size)
  have Tb := T3.thenBelow hab
  have k4b := k43.call hab
  have keb := ke3.call hab
  have HDb := HD3.call hab
  have hqb := hq3.call hab
  clear k32 k43 ke3 HD3 hq3 hK3 hKa T3 hru2 hl2 hba
  refine tkQ 5 hS ?_
  try simp only [Act.put, qsA, qsB, qsC]
  refine tkV 6 ?_
  try simp only [Act.put, qsA, qsB, qsC]
  refine tkV 7 ?_
  try simp only [Act.put, qsA, qsB, qsC]
  refine tkV 8 ?_
  try simp only [Act.put, qsA, qsB, qsC]
  have c4b := k4b.cell
  have f4b := k4b.frozen
  refine tkR 9 fun KK hK => ?_
  go_simp
  refine hK.out _ _ (fun h => absurd h (by decide)) (fun _ => ?_)
  clear hK KK
  refine wpAnyT_done (by kernel_rfl) ?_ _
  refine noPanic_normal ?_
  have FS := Far.setCell (T := fun k => k = w.heap.size + 3) (p := ⟨w.heap.size + 3, 7, none⟩) (Far.refl _ wb) (fun _ => rfl) (.slice A5 (commonF K (gapsF (belC 0 tt) (0, 1024))).length c5)
  have Tc := Tb.fresh FS (fun k hk => by rw [hk]; omega) (fun k hk => by rw [hk]; exact ⟨_, _, k4b, by decide, by decide, by decide, by decide⟩)
  have k4c := k4b.set_ 7 (.slice A5 (commonF K (gapsF (belC 0 tt) (0, 1024))).length c5)
  have kec := keb.far (p := ⟨w.heap.size + 3, 7, none⟩) (by show w.heap.size + 4 ≠ w.heap.size + 3; omega) (.slice A5 (commonF K (gapsF (belC 0 tt) (0, 1024))).length c5)
  have HDc := HDb.far FS (fun k hk => by rw [hk]; exact ⟨_, _, k4b⟩)
  have hk5c := hk5.far FS (fun g cs hg e => by subst e; exact k4b.ne hg (by decide))
  generalize wb.setCell ⟨w.heap.size + 3, 7, none⟩ (.slice A5 (commonF K (gapsF (belC 0 tt) (0, 1024))).length c5) = wc at *
  simp only [List.setIfInBounds_toArray, List.set_cons_zero, List.set_cons_succ] at k4c
  clear k4b keb HDb hqb Tb FS c4b f4b hS hk5 hbb hab
  generalize hK9 : commonF K (gapsF (belC 0 tt) (0, 1024)) = K9 at *
  have c4c := k4c.cell
  have f4c := k4c.frozen
  have cec := kec.cell
  have fec := kec.frozen
  go_wp2_with fail
  change bodyPostM _ _ _ _ _ _ _ ((put9 wc (w.heap.size + 3) ⟨pg, n, f, bk, ev, nd, tt, K9, false⟩ (.slice A5 K9.length c5)).setCell ⟨w.heap.size + 4, 0, none⟩ (.int .i64 0))
  have kR9 := put9_blk k4c ⟨pg, n, f, bk, ev, nd, tt, K9, false⟩ (.slice A5 K9.length c5)
  have F9 := put9_far wc (w.heap.size + 3) ⟨pg, n, f, bk, ev, nd, tt, K9, false⟩ (.slice A5 K9.length c5)
  have kE9 := F9.blk kec (by show ¬ w.heap.size + 4 = w.heap.size + 3; omega)
  have kR10 := kR9.far (p := ⟨w.heap.size + 4, 0, none⟩) (by show w.heap.size + 3 ≠ w.heap.size + 4; omega) (.int .i64 0)
  have kE10 := kE9.set_ 0 (.int .i64 0)
  have F10 := ((F9.mono (fun _ _ h => .inl h) : Far (fun k => k = w.heap.size + 3 ∨ k = w.heap.size + 4) _ _)).setCell (p := ⟨w.heap.size + 4, 0, none⟩) (fun _ => .inr rfl) (.int .i64 0)
  have T9 := Tc.fresh F10 (fun k hk => by rcases hk with rfl | rfl <;> omega) (fun k hk => by rcases hk with rfl | rfl; exact ⟨_, _, k4c, by decide, by decide, by decide, by decide⟩; exact ⟨_, _, kec, by decide, by decide, by decide, by decide⟩)
  have HD9 := HDc.far F10 (fun k hk => by rcases hk with rfl | rfl; exact ⟨_, _, k4c⟩; exact ⟨_, _, kec⟩)
  have hk9 := hk5c.far F10 (fun g cs hg e => by rcases e with rfl | rfl; exact k4c.ne hg (by decide); exact kec.ne hg (by decide))
  generalize (put9 wc (w.heap.size + 3) ⟨pg, n, f, bk, ev, nd, tt, K9, false⟩ (.slice A5 K9.length c5)).setCell ⟨w.heap.size + 4, 0, none⟩ (.int .i64 0) = w9 at *
  have SF := HD9.soft hDw
  have htk := run_takeDeferred (P := Tryz.prog) (HD9 _ rfl)
  have T10 := T9.soft (Nat.le_refl _) (HD9.soft (Nat.le_trans (Nat.le_refl _) hDw))
  have hk10 := hk9.soft SF
  have kRf := SF.blk kR10
  have kEf := SF.blk kE10
  generalize w9.putObj w10.heap.size (.deferred none) = wf at *
  simp only [List.setIfInBounds_toArray, List.set_cons_zero] at kEf
  refine leave_mark_call (Q := fun w' => w' = wf) htk rfl (grow1_enters _ wf) (grow1Ok_any (w.heap.size + 4) gu (w.heap.size + 1) (w.heap.size + 2) gm _ .returning wf kEf) ?_
  rintro w' rfl
  dsimp only [crC] at kRf
  have cRf := kRf.cell
  have cEf := kEf.cell
  rw [← hR]
  exact ⟨.tuple #[.agg (crC ⟨pg, n, f, bk, ev, nd, tt, K9, false⟩ (.slice A5 K9.length c5)), .int .i64 0], by simp [results, Tryz.results19, go_sem, cRf, cEf, crC], _, rfl, ⟨A5, c5, rfl, hl5, hcm5, hk10⟩, T10⟩
 case stop =>
  rintro c pre W hs2 hpre ⟨rfl, U, v, bx, er, her, hS, T1, k1, k2, k3, hc3', ke, kmm, kuu, hrow, hbx⟩ hd
  rw [hS.out] at hR
  simp only at hR
  rw [if_neg her] at hR
  have hDw : w.heap.size ≤ w10.heap.size := hN10
  have HD0 : DfAt (some w10.heap.size) W := fun D e => by cases e; exact hd
  have SF := HD0.soft hDw
  go_wp2_with fail
  have kw1 := SF.blk k1
  have kw2 := SF.blk k2
  have kw3 := SF.blk k3
  have kwe := SF.blk ke
  have kwm := SF.blk kmm
  have kwu := SF.blk kuu
  have hcw := hc3'.soft SF
  have hbw := fun i hi => SF.blk (hbx i hi)
  have hrw := ownsRow_soft hrow SF
  have hVw := T1.sys.soft SF
  have hBw := T1.bud.soft SF
  have hFw := T1.far.soft (Nat.le_refl _) SF
  obtain ⟨Au, cu, rfl, hfn, hty⟩ := own_fn hrw
  have hdl : pre.dropLast <+: XS := (List.dropLast_prefix pre).trans hpre
  have hsum : sumRn pre.dropLast ≤ many := by
   obtain ⟨t, ht⟩ := hdl
   rw [← mf1, ← ht, sumRn_append]
   have := sumRn_pos t (fun y hy => hvR y (by rw [← ht]; simp [hy]))
   omega
  have hlen := hdl.length_le
  have HG := grow1_any bs bb (w.heap.size + 4) gu w.heap.size (w.heap.size + 1) (w.heap.size + 2) (w.heap.size + 3) gm 0 nd U cL ⟨pg, n, f, bk, ev, nd, live, K, false⟩ ⟨pg, n, f, bk, ev, nd, live, K, false⟩ (.slice A m cap) many er pre.dropLast bx Au pre.dropLast.length cu .returning _ her hVw hBw hcO hcl2 kwe kwu rfl (by omega) hfn hty kw1 kw2 kw3 rfl (by omega) hbw hcw kwm (fun x hx => hvR x (hdl.subset hx)) hKC hsum (by omega)
  have htk := run_takeDeferred (P := Tryz.prog) hd
  generalize W.putObj w10.heap.size (.deferred none) = wf at *
  refine leave_mark_call htk rfl (grow1_enters _ wf) HG ?_
  rintro w' ⟨q1, q2, q3, q4⟩
  have kE' := q4.blk kwe (by
   rintro ((h | h | h) | ⟨_, cs, h⟩)
   ·obtain ⟨cs, hc⟩ := hVw.typed; rw [h] at kwe; exact kwe.ne hc (by decide)
   ·omega
   ·rw [h] at kwe; exact kwe.ne kwm (by decide)
   ·exact kwe.ne h (by decide))
  rw [← hR]
  generalize pre.dropLast.reverse.foldl undoC (U, K, many) = S at *
  obtain ⟨sV, sK, sm⟩ := S
  simp only at q1 q2 q3
  obtain ⟨q, cq, k4, hkq, hlq, hcq⟩ := q3.ex
  dsimp only [crC] at k4
  have cRf := k4.cell
  have cEf := kE'.cell
  exact ⟨.tuple #[.agg (crC ⟨pg, n, f, bk, ev, nd, live, sK, false⟩ (.slice q sK.length cq)), .int .i64 er], by simp [results, Tryz.results19, go_sem, cRf, cEf, crC], _, rfl, ⟨q, cq, rfl, hlq, hcq, hkq⟩, ⟨q1, q2, hFw.trans' q4 (fun i hi ht => by
   rcases ht with (h | h | h) | h
   ·exact .inl h
   ·omega
   ·have := km10.lt; omega
   ·exact TwoT.back hFw hi (.inr h))⟩⟩
end Go.Proofs.YtjmmgoijnhnnaaaGreat
namespace Go.Pol
open Go Go.RowKit
structure NumsC (cs : Array Value) (f : Nat → Int) : Prop where
 size : cs.size = 5
 at_ : ∀ j, j < 5 → cs[j]? = some (.int .i64 (f j))
theorem NumsC.set {cs : Array Value} {g f : Nat → Int} (h : NumsC cs g) (i : Nat) (z : Int) (hz : f i = z) (ho : ∀ j, j ≠ i → f j = g j) : NumsC (cs.setIfInBounds i (.int .i64 z)) f := by
 refine ⟨by simp [h.size], fun j hj => ?_⟩
 rw [Array.getElem?_setIfInBounds]
 by_cases e : i = j
 ·subst e
  rw [if_pos rfl, if_pos (by rw [h.size]; omega), hz]
 ·rw [if_neg e, ho j (fun h => e h.symm)]
  exact h.at_ j hj
theorem NumsC.one {cs : Array Value} {f : Nat → Int} (h : NumsC cs f) : ∀ x ∈ cs.toList, x.oneCell' = true := by
 intro x hx
 obtain ⟨i, hi, rfl⟩ := List.mem_iff_getElem.1 hx
 have hz := h.at_ i (by rw [← h.size]; simpa using hi)
 rw [Array.getElem?_eq_getElem (by simpa using hi)] at hz
 simp only [Option.some.injEq] at hz
 rw [Array.getElem_toList, hz]
 rfl
theorem NumsC.eq {cs ds : Array Value} {f : Nat → Int} (h : NumsC cs f) (k : NumsC ds f) : cs = ds := by
 apply Array.ext_getElem?
 intro i
 by_cases hi : i < 5
 ·rw [h.at_ i hi, k.at_ i hi]
 ·rw [Array.getElem?_eq_none (by have := h.size; omega), Array.getElem?_eq_none (by have := k.size; omega)]
def numsV (V : Vm) : Nat → Nat → Int
 | 0, _ => 0
 | i + 1, j => numsV V i j + (if j < 4 then (if (V.pg i).kind = j then 1 else 0) else if j = 4 ∧ (V.pg i).huge = true ∧ fstB (i : Int) = true then 1 else 0)
abbrev numsA (V : Vm) (i : Nat) : Array Value := #[.int .i64 (numsV V i 0), .int .i64 (numsV V i 1), .int .i64 (numsV V i 2), .int .i64 (numsV V i 3), .int .i64 (numsV V i 4)]
theorem numsA_are (V : Vm) (i : Nat) : NumsC (numsA V i) (numsV V i) := ⟨rfl, fun j hj => by
 rcases (show j = 0 ∨ j = 1 ∨ j = 2 ∨ j = 3 ∨ j = 4 by omega) with rfl | rfl | rfl | rfl | rfl <;> rfl⟩
theorem numsV_bound' (V : Vm) : ∀ (i j : Nat), 0 ≤ numsV V i j ∧ numsV V i j ≤ i
 | 0, j => by simp [numsV]
 | i + 1, j => by
  have := numsV_bound' V i j
  rw [numsV]
  split
  ·split <;> omega
  ·split <;> omega
theorem numsV_bound (V : Vm) (i : Nat) (hi : i < 1024 := by assumption) : ∀ j, 0 ≤ numsV V i j ∧ numsV V i j ≤ 1024 := fun j => by
 have := numsV_bound' V i j
 omega
def bumpN (f : Nat → Int) (d : Nat) : Nat → Int := fun j => if j = d then f j + 1 else f j
def numsV2 (V : Vm) (i : Nat) (d : Nat) : Prop :=
 (((V.pg i).huge = false ∨ fstB (i : Int) = false) → numsV V (i + 1) = bumpN (numsV V i) d) ∧
 ((V.pg i).huge = true → fstB (i : Int) = true → numsV V (i + 1) = bumpN (bumpN (numsV V i) d) 4)
theorem numsV_step (V : Vm) (i : Nat) (hk : 0 ≤ (V.pg i).kind := by assumption) (hk3 : (V.pg i).kind ≤ 3 := by assumption) : numsV2 V i (V.pg i).kind.toNat := by
 refine ⟨fun h => ?_, fun h1 h2 => ?_⟩ <;> funext j <;> rw [numsV] <;> unfold bumpN
 ·by_cases h4 : j < 4
  ·rw [if_pos h4]
   by_cases e : j = (V.pg i).kind.toNat
   ·rw [if_pos (by omega), if_pos e]
   ·rw [if_neg (by omega), if_neg e]; omega
  ·rw [if_neg h4, if_neg (by rintro ⟨_, a, b⟩; rcases h with h | h; rw [h] at a; cases a; rw [h] at b; cases b), if_neg (by omega)]; omega
 ·by_cases h4 : j < 4
  ·rw [if_pos h4, if_neg (by omega : ¬ j = 4)]
   by_cases e : j = (V.pg i).kind.toNat
   ·rw [if_pos (by omega), if_pos e]
   ·rw [if_neg (by omega), if_neg e]; omega
  ·rw [if_neg h4]
   by_cases e : j = 4
   ·rw [if_pos ⟨e, h1, h2⟩, if_pos e, if_neg (by omega)]
   ·rw [if_neg (by rintro ⟨a, _⟩; exact e a), if_neg e, if_neg (by omega)]; omega
end Go.Pol
namespace Go.Proofs.YtjmmgoijnhnnaaaGreat
open Go Go.Proofs Go.RowKit Go.Pol Go.Shelf
attribute [local go_sem] Oper.semAt_some Go.Pol.wide_fn Go.Pol.wide_depth Go.Pol.wide_fn' Go.Pol.wide_depth'
set_option maxRecDepth 100000 in
set_option maxHeartbeats 1600000 in
theorem countsV_any (b : Nat) (V : Vm) (w : World) (hV : SysIs w b V) (hk : KindOk V) :
  Calls Tryz.prog 41 #[.pointer (some ⟨b, 0, none⟩)] w fun e w' => e = .returned (.tuple #[.agg (numsA V 1024), .int .i64 0]) ∧ Below w.heap.size w w' := by
 have hb0 := (Below.refl w.heap.size w).alloc (Nat.le_refl _) (.cells #[.int .i64 0, .int .i64 0, .int .i64 0, .int .i64 0, .int .i64 0] 106)
 have k0 := Blk.new w 106 #[.int .i64 0, .int .i64 0, .int .i64 0, .int .i64 0, .int .i64 0]
 have HI := Lib.hid (fun W h => is_any b V W h)
 have HF := Lib.hid (fun (p : Int) W => vfirst_any p W)
 have V0 := hV.call hb0
 have hbs := hV.lt
 have hk' := Lib.hid hk
 have hV' := Lib.hid hV
 obtain ⟨s, hs⟩ : ∃ s, w.heap.size = s := ⟨_, rfl⟩
 have hsz0 : (w.alloc (.cells #[.int .i64 0, .int .i64 0, .int .i64 0, .int .i64 0, .int .i64 0] 106)).heap.size = s + 1 := by rw [World.size_alloc, hs]
 rw [hs] at k0 hbs
 clear hk hV
 go_enter Tryz.func41, Tryz.ntmps41
 go_upto_region 1 with fail
 generalize w.alloc _ = w0 at *
 go_wp2_with fail
 refine (HI.out _ V0).mono ?_
 rintro e9 w9 ⟨rfl, hw9⟩
 replace hw9 := hw9.symm
 subst hw9
 go_upto_region 4 with fail
 have hb1 := hb0.alloc (by omega) (.cells #[.int .i64 0, .int .i64 0, .int .i64 0, .int .i64 0, .int .i64 0] 106)
 have k01 := k0.alloc (.cells #[.int .i64 0, .int .i64 0, .int .i64 0, .int .i64 0, .int .i64 0] 106)
 have k4 := Blk.new w0 106 #[.int .i64 0, .int .i64 0, .int .i64 0, .int .i64 0, .int .i64 0]
 have hsz1 : (w0.alloc (.cells #[.int .i64 0, .int .i64 0, .int .i64 0, .int .i64 0, .int .i64 0] 106)).heap.size = s + 2 := by rw [World.size_alloc, hsz0]
 rw [hsz0] at k4
 clear V0 hb0 k0
 generalize w0.alloc _ = w1 at *
 have k5 := Blk.new w1 192 #[Value.pointer (some ⟨s + 1, 0, none⟩), Value.pointer (some ⟨s + 1, 1, none⟩), Value.pointer (some ⟨s + 1, 2, none⟩), Value.pointer (some ⟨s + 1, 3, none⟩)]
 rw [hsz1] at k5
 have k24 := k4.alloc (.cells #[Value.pointer (some ⟨s + 1, 0, none⟩), Value.pointer (some ⟨s + 1, 1, none⟩), Value.pointer (some ⟨s + 1, 2, none⟩), Value.pointer (some ⟨s + 1, 3, none⟩)] 192)
 have k20 := k01.alloc (.cells #[Value.pointer (some ⟨s + 1, 0, none⟩), Value.pointer (some ⟨s + 1, 1, none⟩), Value.pointer (some ⟨s + 1, 2, none⟩), Value.pointer (some ⟨s + 1, 3, none⟩)] 192)
 have B2 := hb1.alloc (by omega) (.cells #[Value.pointer (some ⟨s + 1, 0, none⟩), Value.pointer (some ⟨s + 1, 1, none⟩), Value.pointer (some ⟨s + 1, 2, none⟩), Value.pointer (some ⟨s + 1, 3, none⟩)] 192)
 go_wp2_with fail
 generalize w1.alloc _ = w2 at *
 have hint : NumsC #[.int .i64 0, .int .i64 0, .int .i64 0, .int .i64 0, .int .i64 0] (numsV V 0) := ⟨rfl, fun j hj => by
  rcases (show j = 0 ∨ j = 1 ∨ j = 2 ∨ j = 3 ∨ j = 4 by omega) with rfl | rfl | rfl | rfl | rfl <;> rfl⟩
 clear k4 k01 hb1 hsz0 hsz1
 go_loopw [16] (fun u wr => ∃ i : Nat, i ≤ 1024 ∧ u = .int .i64 i ∧ Below w.heap.size w wr ∧ Blk wr s 106 #[.int .i64 0, .int .i64 0, .int .i64 0, .int .i64 0, .int .i64 0] ∧ Blk wr (s + 2) 192 ([Value.pointer (some ⟨s + 1, 0, none⟩), Value.pointer (some ⟨s + 1, 1, none⟩), Value.pointer (some ⟨s + 1, 2, none⟩), Value.pointer (some ⟨s + 1, 3, none⟩)]).toArray ∧ ∃ cs, NumsC cs (numsV V i) ∧ Blk wr (s + 1) 106 cs) (fun u _ => 1024 - (intOf u).toNat)
 case atStart => exact ⟨0, by omega, rfl, B2, k20, k5, _, hint, k24⟩
 case round =>
  clear k24 k20 B2 k5 hint
  obtain ⟨i, hi, rfl, hB, h0, h5, cs, hcs, h4⟩ := hrel
  by_cases hlt : i < 1024
  ·have hil : (i : Int) < 1024 := by omega
   have hlt' : decide ((i : Int) < 1024) = true := by simpa using hil
   obtain ⟨cv, A, n, cap, hkv, hcv, _⟩ := (hV'.out.call hB).ex
   obtain ⟨hk0, hk3⟩ := hk'.out i hlt
   have hb5 := numsV_bound V i
   have hstep := numsV_step V i
   unfold numsV2 at hstep
   have e0 := (hkv.cell (1 + i * 66)).trans (hcv.kind hlt)
   generalize (V.pg i).kind = kd at *
   obtain ⟨d, rfl⟩ : ∃ d : Nat, kd = (d : Int) := ⟨kd.toNat, by omega⟩
   rw [Int.toNat_natCast] at hstep
   have hd4 : (d : Int) < 4 := by omega
   have e1 : wr.cell? ⟨s + 2, d, none⟩ = some (.pointer (some ⟨s + 1, d, none⟩)) := by
    rw [h5.cell]
    rcases (show d = 0 ∨ d = 1 ∨ d = 2 ∨ d = 3 by omega) with rfl | rfl | rfl | rfl <;> rfl
   have hz := hcs.at_ d (by omega)
   obtain ⟨z, hz0⟩ : ∃ z, numsV V i d = z := ⟨_, rfl⟩
   have hzb := hb5 d
   have hzr : 0 ≤ z ∧ z ≤ 1024 := by rw [← hz0]; exact hzb
   rw [hz0] at hz
   have e2 := (h4.cell d).trans hz
   have f2 := h4.frozen d
   have k4' := h4.set_ d (.int .i64 (z + 1))
   have hcs' := hcs.set (f := bumpN (numsV V i) d) d (z + 1) (by simp [bumpN, hz0]) (fun j hj => by simp [bumpN, hj])
   have F4 := Far.setCell (T := fun k => k = s + 1) (p := ⟨s + 1, d, none⟩) (Far.refl _ wr) (fun _ => rfl) (.int .i64 (z + 1))
   go_upto_region 9 with fail
   generalize wr.setCell ⟨s + 1, d, none⟩ _ = w3 at *
   clear e0 e1 e2 f2 hkv hcv hcs h4 hz hzr
   obtain ⟨f5, hf5⟩ : ∃ f5 : Nat → Int, bumpN (numsV V i) d = f5 := ⟨_, rfl⟩
   have hf5b : 0 ≤ f5 4 ∧ f5 4 ≤ 2000 := by rw [← hf5]; have := hb5 4; unfold bumpN; split <;> omega
   rw [hf5] at hcs' hstep
   clear hf5 hz0 hb5 hzb
   have B3 := hB.trans (F4.below (by have := hB.size; omega) (fun k hk e => by omega))
   have h03 := F4.blk h0 (by show ¬ s = s + 1; omega)
   have h53 := F4.blk h5 (by show ¬ s + 2 = s + 1; omega)
   clear h0 h5 F4 hB
   generalize cs.setIfInBounds d _ = cs at *
   obtain ⟨cv, A, n, cap, hkv, hcv, _⟩ := (hV'.out.call B3).ex
   have e0 := (hkv.cell (1 + i * 66 + 1)).trans (hcv.hug hlt)
   have hz4 := hcs'.at_ 4 (by omega)
   obtain ⟨z4, hz40⟩ : ∃ z4, f5 4 = z4 := ⟨_, rfl⟩
   have hzr4 : 0 ≤ z4 ∧ z4 ≤ 2000 := by rw [← hz40]; exact hf5b
   rw [hz40] at hz4
   have e2 := (k4'.cell 4).trans hz4
   have f2 := k4'.frozen 4
   have k4'' := k4'.set_ 4 (.int .i64 (z4 + 1))
   have hcs'' := hcs'.set (f := bumpN f5 4) 4 (z4 + 1) (by simp [bumpN, hz40]) (fun j hj => by simp [bumpN, hj])
   have hs1 := Lib.hid hstep
   clear hstep hz40 hf5b
   have F4 := Far.setCell (T := fun k => k = s + 1) (p := ⟨s + 1, 4, none⟩) (Far.refl _ w3) (fun _ => rfl) (.int .i64 (z4 + 1))
   clear hkv hcv
   cases hh : (V.pg i).huge with
   | false =>
    rw [hh] at e0
    have hs2 := Lib.hid (hs1.out.1 (.inl hh))
    clear hh
    go_wp2_with fail
    go_roundw
    case rel => exact ⟨i + 1, by omega, by go_num, B3, h03, h53, _, by rw [hs2.out]; exact hcs', k4'⟩
    case measure => simp [intOf]; omega
   | true =>
    rw [hh] at e0
    have HF' := Lib.hid (HF.out (i : Int) w3)
    cases hf : fstB (i : Int) with
    | false =>
     rw [hf] at HF'
     have hs2 := Lib.hid (hs1.out.1 (.inr hf))
     clear hf hh
     go_wp2_with fail
     refine HF'.out.mono ?_
     rintro e9 w9 ⟨rfl, hw9⟩
     replace hw9 := hw9.symm
     subst hw9
     go_wp2_with fail
     go_roundw
     case rel => exact ⟨i + 1, by omega, by go_num, B3, h03, h53, _, by rw [hs2.out]; exact hcs', k4'⟩
     case measure => simp [intOf]; omega
    | true =>
     rw [hf] at HF'
     have hs2 := Lib.hid (hs1.out.2 hh hf)
     clear hf hh
     go_wp2_with fail
     refine HF'.out.mono ?_
     rintro e9 w9 ⟨rfl, hw9⟩
     replace hw9 := hw9.symm
     subst hw9
     have B4 := B3.trans (F4.below (by have := B3.size; omega) (fun k hk e => by omega))
     have h04 := F4.blk h03 (by show ¬ s = s + 1; omega)
     have h54 := F4.blk h53 (by show ¬ s + 2 = s + 1; omega)
     go_wp2_with fail
     go_roundw
     case rel => exact ⟨i + 1, by omega, by go_num, B4, h04, h54, _, by rw [hs2.out]; exact hcs'', k4''⟩
     case measure => simp [intOf]; omega
  ·obtain rfl : i = 1024 := by omega
   have hlt' : decide (((1024 : Nat) : Int) < 1024) = false := by simp
   have hra : wr.rangeAt (s + 1) 0 cs.toList := fun j v hj => by
    rw [Nat.zero_add, h4.cell]
    simpa using hj
   have hsz := hcs.size
   have hca := Lib.hid (hcs.eq (numsA_are V 1024))
   have ht : wr.there s 0 cs.size := by rw [hsz]; exact z_there h0 0 5 (by simp)
   have hk9 := Blk.puts (g := s) (t := 106) (w := wr) (cs := #[]) cs.toList 0 wr _ h0
   rw [putA_all (by rw [Array.length_toList, hsz]; rfl), Array.toArray_toList] at hk9
   have hF9 := Far.puts (T := fun k => k = s) rfl cs.toList 0 wr wr (Far.refl _ _)
   have hone := Go.all_oneCell_toArray (hcs.one)
   rw [Array.toArray_toList] at hone
   have hinf : (Tryz.prog.info? 106).map (·.size) = some cs.size := by rw [hsz]; exact infoVc
   go_wp2_with (first
    | (refine wpList_load_mid rfl 106 (.tmp 4) rfl (s + 1) 0 rfl cs.toList _ hra Tryz.underlying106 rfl (by rw [Array.length_toList, hsz]; kernel_rfl) ?_; rw [Array.toArray_toList])
    | (refine wpList_store_mid rfl 106 (.tmp 2) (.tmp 48) rfl s 0 cs rfl rfl ht hinf hone ?_))
   generalize World.setCells wr s 0 _ = w9 at *
   have hra9 : w9.rangeAt s 0 cs.toList := fun j v hj => by
    rw [Nat.zero_add, hk9.cell]
    simpa using hj
   have hl9 := run_loadVar_mid (P := Tryz.prog) w9 s 0 106 cs.toList _ hra9 Tryz.underlying106 rfl (by rw [Array.length_toList, hsz]; kernel_rfl)
   rw [Array.toArray_toList] at hl9
   refine bodyPost_ret (v := .tuple #[.agg cs, .int .i64 0]) ?_ rfl ?_
   ·exact z_results_cell_tmp Tryz.results41 rfl hl9
   exact ⟨by rw [hca.out], hB.trans (hF9.below (by have := hB.size; omega) (fun k hk e => by omega))⟩
set_option maxRecDepth 100000 in
set_option maxHeartbeats 800000 in
theorem eqPlan (a b c d e : Int) (w : World) : (Op.equalIn 10000 25 (.agg #[.int .i64 a, .int .i64 b, .int .i64 c, .int .i64 d, .int .i64 e]) (.agg #[.int .i64 a, .int .i64 b, .int .i64 c, .int .i64 d, .int .i64 e])).run Tryz.prog w = .ok true w := by
 have u0 := Tryz.underlying25
 have u1 := Tryz.underlying23
 have a1 := Tryz.isAgg23
 have z1 := Tryz.sizeOf23
 have u3 := Tryz.underlying3
 have a3 := Tryz.isAgg3
 have z3 := Tryz.sizeOf3
 rw [show (10000 : Nat) = 9999 + 1 from rfl]
 go_simp
 try simp
set_option maxRecDepth 100000 in
set_option maxHeartbeats 1600000 in
theorem same12_any (r : Cr) (A B : Option Addr) (cap cap' : Nat) (w : World) (hm : r.kept.length ≤ maxLen) (hA : RU w w.heap.size A r.kept) (hB : RU w w.heap.size B r.kept) :
  Calls Tryz.prog 27 #[.agg (crC r (.slice A r.kept.length cap)), .agg (crC r (.slice B r.kept.length cap'))] w fun e w' => e = .returned (.bool true) ∧ Below w.heap.size w w' := by
 obtain ⟨pg, n, f, bk, ev, node, live, K, cl⟩ := r
 simp only at hm hA hB ⊢
 have hb0 := below_alloc2 ((Below.refl w.heap.size w).alloc (Nat.le_refl _) (.cells (crC ⟨pg, n, f, bk, ev, node, live, K, cl⟩ (.slice A K.length cap)) 43)) (.cells (crC ⟨pg, n, f, bk, ev, node, live, K, cl⟩ (.slice B K.length cap')) 43)
 have k0 := (Blk.new w 43 (crC ⟨pg, n, f, bk, ev, node, live, K, cl⟩ (.slice A K.length cap))).alloc2 (.cells (crC ⟨pg, n, f, bk, ev, node, live, K, cl⟩ (.slice B K.length cap')) 43)
 have k1 := Blk.new2 w (.cells (crC ⟨pg, n, f, bk, ev, node, live, K, cl⟩ (.slice A K.length cap)) 43) 43 (crC ⟨pg, n, f, bk, ev, node, live, K, cl⟩ (.slice B K.length cap'))
 have hA0 := hA.on hb0
 have hB0 := hB.on hb0
 dsimp only [crC] at hb0 k0 k1 hA0 hB0 ⊢
 have HS := Lib.hid (fun W h1 h2 => sameT_any A B K.length cap cap' K K W rfl hm rfl h1 h2)
 have heq := fun W => eqPlan pg n f bk ev W
 clear hA hB
 obtain ⟨m, hm0⟩ : ∃ m, K.length = m := ⟨_, rfl⟩
 rw [hm0] at hb0 k0 k1 hA0 hB0 HS hm ⊢
 clear hm0
 go_enter Tryz.func27, Tryz.ntmps27
 go_upto_region 1 with fail
 generalize (w.alloc _).alloc _ = w0 at *
 have c0 := k0.cell
 have c1 := k1.cell
 have d1 : (node == node) = true := by simp
 have d2 : (live == live) = true := by simp
 have d3 : (cl == cl) = true := by simp
 go_wp2_with fail
 refine (HS.out w0 hA0 hB0).mono ?_
 rintro e w1 ⟨rfl, hb1⟩
 go_wp2_with fail
 go_ret
 exact ⟨rfl, hb0.trans (hb1.mono hb0.size)⟩
theorem plan12_any (w : World) : Calls Tryz.prog 39 #[] w fun e w' => e = .returned (planV 0 8 1 1 0) ∧ Below w.heap.size w w' := by
 have hb0 := (Below.refl w.heap.size w).alloc (Nat.le_refl _) (.cells (planC 0 8 1 1 0) 25)
 have k0 := Blk.new w 25 (planC 0 8 1 1 0)
 unfold planC at hb0 k0
 have c0 := k0.cell
 go_enter Tryz.func39, Tryz.ntmps39
 go_wp2_with fail
 refine bodyPost_ret (v := planV 0 8 1 1 0) (by simp [results, Tryz.results39, go_sem, c0, planV]) rfl ?_
 exact ⟨rfl, hb0⟩
end Go.Proofs.YtjmmgoijnhnnaaaGreat
namespace Go.Pol
open Go Go.RowKit
theorem sumRn_cons (x : RnT) (l : List RnT) : sumRn (x :: l) = x.2.1 + sumRn l := by simp [sumRn]
def Apart (x y : RnT) : Prop := ∀ k, inRn x k = true → inRn y k = true → False
theorem Apart.symm {x y : RnT} (h : Apart x y) : Apart y x := fun k a b => h k b a
theorem apart_of {l : List RnT} (h : l.Pairwise (fun x y => x.2.2 + x.2.1 ≤ y.2.2)) : l.Pairwise Apart :=
 h.imp fun {x y} h k a b => by rw [inRn_iff] at a b; omega
theorem comL_law {pg n : Int} {L : List Sp} (hL : ∀ u ∈ L, 1 ≤ u.2) : ∀ (XS d : List RnT) (V : Vm) (K : Int → Bool), (∀ x ∈ XS, RunOf 0 L x) → KindK V pg n L K → Plain V →
  ∃ done, (comL XS d V).2.2 = d ++ done ∧ done <+: XS ∧ ((comL XS d V).1 = 0 → done = XS) ∧ KindK (comL XS d V).2.1 pg n L (fun k => K k || done.any (inRn · k)) ∧ Plain (comL XS d V).2.1 ∧ cmN (comL XS d V).2.1 = cmN V + sumRn done
 | [], d, V, K, _, hK, hP => ⟨[], by simp [comL], List.prefix_refl _, fun _ => rfl, by simpa [comL] using hK, by simpa [comL] using hP, by simp [comL, sumRn]⟩
 | x :: r, d, V, K, hR, hK, hP => by
  rw [comL]
  rcases bec_cases V x.1 x.2.1 2 1 2 with ⟨g1, g2⟩ | ⟨g1, g2⟩
  ·rw [if_pos g1]
   exact ⟨[], by simp, List.nil_prefix, fun h => absurd h g1, by simpa using hK.pg g2, hP.pg g2, by rw [cmN_pg g2]; simp [sumRn]⟩
  ·rw [if_neg (by rw [g1]; simp)]
   obtain ⟨done, h1, h2, h3, h4, h5, h6⟩ := comL_law hL r (d ++ [x]) _ _ (fun y hy => hR y (by simp [hy])) (hK.com (hR x (by simp)) g2) (hP.to g2)
   refine ⟨x :: done, by rw [h1]; simp, List.cons_prefix_cons.2 ⟨rfl, h2⟩, fun h => by rw [h3 h], h4.congr hL (fun k _ _ => by simp [Bool.or_assoc]), h5, ?_⟩
   rw [h6, g2.cmN, sumRn_cons]
   simp
   omega
theorem run_can {L : List Sp} {x : RnT} (hs : sumS L ≤ 1024) (h : RunOf 0 L x) : Can [(x.2.2, x.2.1)] := by
 have h1 := h.nlo; have h2 := h.nhi; have h3 := h.pos
 exact Can.one (vld_iff.2 ⟨h1, by show x.2.2 < 1024; omega, h3, by show x.2.1 ≤ 1024 - x.2.2; omega⟩)
theorem mem_rn (x : RnT) (k : Int) : mem k [(x.2.2, x.2.1)] = inRn x k := by
 rw [Bool.eq_iff_iff, mem_one, inRn_iff]
theorem undo_keep {pg n : Int} {L : List Sp} (hL : ∀ u ∈ L, 1 ≤ u.2) (hs : sumS L ≤ 1024) (base : Int → Bool) : ∀ (l : List RnT) (S : Vm × List Sp × Int), (∀ x ∈ l, RunOf 0 L x) → l.Pairwise Apart → (∀ x ∈ l, ∀ k, inRn x k = true → base k = false ∧ mem k S.2.1 = false) →
  Can S.2.1 → Plain S.1 → KindK S.1 pg n L (fun k => (base k || mem k S.2.1) || l.any (inRn · k)) →
  Can (l.foldl undoC S).2.1 ∧ Plain (l.foldl undoC S).1 ∧ KindK (l.foldl undoC S).1 pg n L (fun k => base k || mem k (l.foldl undoC S).2.1) ∧
  cmN (l.foldl undoC S).1 - sumS (l.foldl undoC S).2.1 = cmN S.1 - sumS S.2.1 - sumRn l ∧ sumS (l.foldl undoC S).2.1 + (l.foldl undoC S).2.2 = sumS S.2.1 + S.2.2 ∧
  (∀ k, mem k (l.foldl undoC S).2.1 = true → mem k S.2.1 = true ∨ l.any (inRn · k) = true) ∧ (∀ k, mem k S.2.1 = true → mem k (l.foldl undoC S).2.1 = true)
 | [], S, _, _, _, hC, hP, hK => ⟨hC, hP, hK.congr hL (fun k _ _ => by simp), by simp [sumRn], rfl, fun k h => .inl h, fun k h => h⟩
 | x :: l, S, hR, hA, hD, hC, hP, hK => by
  have hx := hR x (by simp)
  have hA' := List.pairwise_cons.1 hA
  have hcx := run_can hs hx
  have hDx := hD x (by simp)
  rw [List.foldl_cons]
  rcases bec_cases S.1 x.1 x.2.1 3 2 1 with ⟨g1, g2⟩ | ⟨g1, g2⟩
  ·have e : undoC S x = ((bec S.1 x.1 x.2.1 3 2 1).2, setOf (S.2.1 ++ [(x.2.2, x.2.1)]), S.2.2 - x.2.1) := by unfold undoC; dsimp only; rw [if_pos g1]
   have hm := fun k => mem_union hC hcx k
   simp only [mem_rn] at hm
   have hsum := union_sum hC hcx (fun k a b => by rw [mem_rn] at b; rw [(hDx k b).2] at a; cases a)
   have hs1 : sumS [(x.2.2, x.2.1)] = x.2.1 := by simp [sumS]
   obtain ⟨h1, h2, h3, h4, h5, h6, h7⟩ := undo_keep hL hs base l (undoC S x) (fun y hy => hR y (by simp [hy])) hA'.2 (fun y hy k hk => by
    rw [e]
    simp only
    rw [hm]
    obtain ⟨a, b⟩ := hD y (by simp [hy]) k hk
    refine ⟨a, ?_⟩
    rw [b, Bool.false_or, Bool.eq_false_iff]
    intro hq
    exact hA'.1 y hy k hq hk) (by rw [e]; exact setOf_can _) (by rw [e]; exact hP.pg g2) (by
    rw [e]
    refine (hK.pg g2).congr hL (fun k _ _ => ?_)
    simp only [List.any_cons]
    rw [hm]
    cases base k <;> cases mem k S.2.1 <;> cases inRn x k <;> simp)
   refine ⟨h1, h2, h3, ?_, ?_, fun k hk => ?_, fun k hk => h7 k (by rw [e]; simp only; rw [hm, hk]; rfl)⟩
   ·rw [h4, e]
    simp only
    rw [hsum, hs1, cmN_pg g2, sumRn_cons]
    omega
   ·rw [h5, e]
    simp only
    rw [hsum, hs1]
    omega
   ·rcases h6 k hk with h | h
    ·rw [e] at h
     simp only at h
     rw [hm, Bool.or_eq_true] at h
     rcases h with h | h
     ·exact .inl h
     ·exact .inr (by simp [h])
    ·exact .inr (by simp only [List.any_cons, h, Bool.or_true])
  ·have e : undoC S x = ((bec S.1 x.1 x.2.1 3 2 1).2, S.2.1, S.2.2) := by unfold undoC; dsimp only; rw [if_neg (by rw [g1]; simp)]
   obtain ⟨h1, h2, h3, h4, h5, h6, h7⟩ := undo_keep hL hs base l (undoC S x) (fun y hy => hR y (by simp [hy])) hA'.2 (fun y hy k hk => by
    rw [e]
    exact hD y (by simp [hy]) k hk) (by rw [e]; exact hC) (by rw [e]; exact hP.to g2) (by
    rw [e]
    refine (hK.dec hx g2).congr hL (fun k _ _ => ?_)
    simp only [List.any_cons]
    cases hi : inRn x k with
    | false => simp
    | true =>
     have h8 := hDx k hi
     have h9 : l.any (inRn · k) = false := by
      rw [Bool.eq_false_iff]
      intro ha
      obtain ⟨y, hy, hyk⟩ := List.any_eq_true.1 ha
      exact hA'.1 y hy k hi hyk
     rw [h8.1, h8.2, h9]
     rfl)
   refine ⟨h1, h2, h3, ?_, ?_, fun k hk => ?_, fun k hk => h7 k (by rw [e]; exact hk)⟩
   ·rw [h4, e]
    simp only
    rw [g2.cmN, sumRn_cons]
    simp
    omega
   ·rw [h5, e]
   ·rcases h6 k hk with h | h
    ·rw [e] at h
     exact .inl h
    ·exact .inr (by simp only [List.any_cons, h, Bool.or_true])
theorem any_reverse {α : Type} (l : List α) (f : α → Bool) : l.reverse.any f = l.any f := by
 rw [Bool.eq_iff_iff, List.any_eq_true, List.any_eq_true]
 exact ⟨fun ⟨x, h, hx⟩ => ⟨x, List.mem_reverse.1 h, hx⟩, fun ⟨x, h, hx⟩ => ⟨x, List.mem_reverse.2 h, hx⟩⟩
theorem CmI.grow {V : Vm} {L : List Nd} {r : Cr} (h : CmI V L r) (tt : Int) : CmI (growC V L r tt).2.2.1 (growC V L r tt).2.2.2 (growC V L r tt).1 := by
 unfold growC
 by_cases h1 : chkCm r ≠ 0
 ·rw [if_pos h1]; exact h
 rw [if_neg h1]
 have ho : CrOk r := chkCm_zero.1 (by omega)
 obtain ⟨hn, hk, _⟩ := h.of_ok ho
 by_cases h2 : r.cl = true
 ·rw [if_pos h2]; exact h
 rw [if_neg h2]
 by_cases h3 : tt < r.live ∨ usC r < tt
 ·rw [if_pos h3]; exact h
 rw [if_neg h3]
 have hlv0 := ho.live0
 have hlv1 := ho.live1
 have hus := ho.us1
 have hcl : r.cl = false := by simpa using h2
 have hk := hk hcl
 have hcb : Can (belC r.live tt) := can_belC (by omega) (by omega)
 have hcm : Can (commonF (belC r.live tt) (gapsF r.kept (0, 1024))) := can_minus hcb ho.can
 have hmm : ∀ k, mem k (commonF (belC r.live tt) (gapsF r.kept (0, 1024))) = ((decide (r.live ≤ k) && decide (k < tt)) && !mem k r.kept) := fun k => by rw [mem_minus hcb ho.can, mem_belC]
 have hcn : r.node.toNat = 1 := by rw [hn]; rfl
 rw [hcn]
 dsimp only
 by_cases h4 : (chargeB L 1 (sumS (commonF (belC r.live tt) (gapsF r.kept (0, 1024))))).1 ≠ 0
 ·rw [if_pos h4, chargeB_no h4]; exact h
 rw [if_neg h4]
 obtain ⟨q1, q2⟩ := chargeB_own h.two (p := sumS (commonF (belC r.live tt) (gapsF r.kept (0, 1024)))) (by omega)
 have q3 := chargeB_ok h.bok (n := 1) (by rw [h.two]; omega) (sumS (commonF (belC r.live tt) (gapsF r.kept (0, 1024))))
 have q4 := chargeB_len L 1 (sumS (commonF (belC r.live tt) (gapsF r.kept (0, 1024))))
 generalize (chargeB L 1 (sumS (commonF (belC r.live tt) (gapsF r.kept (0, 1024))))).2 = L1 at *
 obtain ⟨hA1, hA2, hA3⟩ := runsC_all hcm ho.plan
 have hlen := runsC_len hcm ho.plan (fun k hk => by
  rw [hmm] at hk
  simp at hk
  rw [← ho.us]; omega)
 have hcount := cnt_mem hcm
 have hnn := sumS_nn (vlds_pos hcm.1)
 have hm1024 : sumS (commonF (belC r.live tt) (gapsF r.kept (0, 1024))) ≤ 1024 := by
  rw [← hcount]; exact (cntN_bound _ _ _).2
 generalize commonF (belC r.live tt) (gapsF r.kept (0, 1024)) = more at *
 have hpos := runs_pos ho.plan
 have hs24 := (runs_sum ho.plan).2
 rw [ho.us] at hus hlv1 h3
 generalize runsC more 0 (runsL r.pg r.n r.f r.bk r.ev) = XS at *
 obtain ⟨done, d1, d2, d3, d4, d5, d6⟩ := comL_law (pg := r.pg) (n := r.n) hpos XS [] V (useC r) (fun x hx => (hA1 x hx).1) hk h.pln
 rw [List.nil_append] at d1
 generalize comL XS [] V = C at *
 obtain ⟨ce, cV, cd⟩ := C
 simp only at d1 d3 d4 d5 d6 ⊢
 subst d1
 have hmk : ∀ k, cd.any (inRn · k) = true → mem k more = true := fun k ha => by
  obtain ⟨x, hx, hxk⟩ := List.any_eq_true.1 ha
  rw [inRn_iff] at hxk
  exact (hA1 x (d2.subset hx)).2 k hxk.1 hxk.2
 by_cases h5 : ce = 0
 ·rw [if_pos h5]
  have e := d3 h5
  subst e
  simp only
  have hcb2 : Can (belC 0 tt) := can_belC (Int.le_refl _) (by omega)
  have hma : ∀ k, mem k more = true → cd.any (inRn · k) = true := fun k hk => by
   obtain ⟨x, hx, hxk⟩ := hA3 k hk (by rw [hmm] at hk; simp at hk; omega)
   exact List.any_eq_true.2 ⟨x, hx, inRn_iff.2 hxk⟩
  have hmk' : ∀ k, mem k (commonF r.kept (gapsF (belC 0 tt) (0, 1024))) = (mem k r.kept && !(decide (0 ≤ k) && decide (k < tt))) := fun k => by rw [mem_minus ho.can hcb2, mem_belC]
  have huse : ∀ k, 0 ≤ k → useC { r with live := tt, kept := commonF r.kept (gapsF (belC 0 tt) (0, 1024)) } k = (useC r k || mem k more) := fun k hk0 => by
   unfold useC
   simp only
   rw [hmk', hmm]
   cases mem k r.kept <;> rw [Bool.eq_iff_iff] <;> simp <;> omega
  have ho' : CrOk { r with live := tt, kept := commonF r.kept (gapsF (belC 0 tt) (0, 1024)) } := ⟨ho.plan, by show 0 ≤ tt; omega, by show tt ≤ usC r; rw [ho.us]; omega, ho.node, can_minus ho.can hcb2, fun hc => absurd hc h2, can_low (can_minus ho.can hcb2) (fun k hk => by
   rw [hmk', Bool.and_eq_true] at hk
   have h6 := ho.keptIn k hk.1
   have h7 := hk.2
   simp at h7
   exact ⟨by show tt ≤ k; have := h6.1; omega, h6.2⟩)⟩
  have hsum : sumRn cd = sumS more := hlen
  refine ⟨d5, q3, by rw [q4]; exact h.two, by rw [q2]; exact h.root, by rw [q1, d6, h.own, hsum], ?_, .inr ⟨ho', hn, fun _ => ?_, fun hc => absurd hc h2⟩⟩
  ·show cmN cV = tt + sumS (commonF r.kept (gapsF (belC 0 tt) (0, 1024)))
   have h8 := ho'.cnt
   rw [cntN_congr (g := fun k => useC r k || mem k more) 1024 0 (fun k hk0 _ => huse k hk0), cntN_or 1024 0 (fun k a b => by
    rw [hmm] at b
    unfold useC at a
    cases hq : mem k r.kept with
    | true => rw [hq] at b; simp at b
    | false => rw [hq] at a; simp at a b; omega), hcount] at h8
   have h9 := ho.cnt
   rw [show cntN (fun q => useC r q) 1024 0 = cntN (useC r) 1024 0 from rfl, h9] at h8
   simp only at h8
   rw [d6, h.many, hsum]
   exact h8
  ·refine d4.congr hpos (fun k hk0 _ => ?_)
   rw [huse k hk0]
   congr 1
   rw [Bool.eq_iff_iff]
   exact ⟨hmk k, hma k⟩
 ·rw [if_neg h5]
  simp only
  have hrun : ∀ x ∈ cd.reverse, RunOf 0 (runsL r.pg r.n r.f r.bk r.ev) x := fun x hx => (hA1 x (d2.subset (List.mem_reverse.1 hx))).1
  have hap : cd.reverse.Pairwise Apart := by
   rw [List.pairwise_reverse]
   exact ((apart_of hA2).sublist d2.sublist).imp fun h => h.symm
  have hsr := sumRn_rev cd
  have hdl : sumRn cd ≤ sumS more := by
   have e1 : sumRn XS = sumS more := hlen
   obtain ⟨t, ht⟩ := d2
   rw [← ht, sumRn_append] at e1
   have := sumRn_pos t (fun y hy => by
    have := (hA1 y (by rw [← ht]; simp [hy])).1
    have a1 := this.pos; have a2 := this.nlo; have a3 := this.nhi
    exact vld_iff.2 ⟨a2, by show y.2.2 < 1024; omega, a1, by show y.2.1 ≤ 1024 - y.2.2; omega⟩)
   omega
  have hvl : ∀ x ∈ cd.reverse, vld (x.2.2, x.2.1) = true := fun x hx => by
   have := hrun x hx
   have a1 := this.pos; have a2 := this.nlo; have a3 := this.nhi
   exact vld_iff.2 ⟨a2, by show x.2.2 < 1024; omega, a1, by show x.2.1 ≤ 1024 - x.2.2; omega⟩
  obtain ⟨f1, f2, f3⟩ := undo_fold cd.reverse (cV, r.kept, sumS more) hvl ho.can (by show sumRn cd.reverse ≤ sumS more; omega) (by show sumS more ≤ 5000; omega)
  obtain ⟨u1, u2, u3, u4, u5, u6, u7⟩ := undo_keep (pg := r.pg) (n := r.n) hpos hs24 (fun k => decide (k < r.live)) cd.reverse (cV, r.kept, sumS more) hrun hap (fun x hx k hk => by
   have hb := hmk k (List.any_eq_true.2 ⟨x, List.mem_reverse.1 hx, hk⟩)
   rw [hmm] at hb
   simp at hb
   exact ⟨by simp; omega, hb.2⟩) ho.can d5 (d4.congr hpos (fun k _ _ => by rw [any_reverse]; rfl))
  generalize cd.reverse.foldl undoC (cV, r.kept, sumS more) = U at *
  obtain ⟨uV, uk, um⟩ := U
  simp only at u1 u2 u3 u4 u5 u6 u7 f1 f2 f3 ⊢
  have hown := h.own
  have hmany := h.many
  have hkn := sumS_nn (vlds_pos ho.can.1)
  have hukn := sumS_nn (vlds_pos u1.1)
  have hsub : sumS r.kept ≤ sumS uk := by
   have e1 := cnt_mem ho.can
   have e2 := cnt_mem u1
   have e3 := minus_sum u1 ho.can u7
   have e4 := sumS_nn (vlds_pos (can_minus u1 ho.can).1)
   omega
  obtain ⟨g1, g2, g3⟩ := giveB_own (L := L1) (by rw [q4]; exact h.two) (p := um) (by omega) (by rw [q1, hown, hmany]; omega) (by omega)
  have ho' : CrOk { r with kept := uk } := ⟨ho.plan, ho.live0, by show r.live ≤ usC r; rw [ho.us]; omega, ho.node, u1, fun hc => absurd hc h2, can_low u1 (fun k hk => by
   rcases u6 k hk with h6 | h6
   ·exact ho.keptIn k h6
   ·rw [any_reverse] at h6
    have := hmk k h6
    rw [hmm] at this
    simp at this
    have e5 : usC { r with kept := uk } = sumS (runsL r.pg r.n r.f r.bk r.ev) := ho.us
    exact ⟨by show r.live ≤ k; omega, by rw [e5]; omega⟩)⟩
  refine ⟨u2, giveB_ok q3 (by rw [q4, h.two]; omega) _, by rw [giveB_len, q4]; exact h.two, by rw [g3, q2]; exact h.root, by rw [g2, q1, hown]; omega, by show cmN uV = r.live + sumS uk; omega, .inr ⟨ho', hn, fun _ => u3, fun hc => absurd hc h2⟩⟩
end Go.Pol
