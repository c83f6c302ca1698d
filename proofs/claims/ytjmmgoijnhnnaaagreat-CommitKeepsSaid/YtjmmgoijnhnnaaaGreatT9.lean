/- Walks of layer 12 (commit): Close. -/
import Derived.Test.YtjmmgoijnhnnaaaGreatRows
import Derived.Carry
import Derived.ChangeSlices
import Derived.RowKit2
import Derived.RowKit3
import Derived.JoinedAt
import Derived.Test.YtjmmgoijnhnnaaaGreatT8
namespace Go.Proofs.YtjmmgoijnhnnaaaGreat
open Go Go.Proofs Go.RowKit Go.Pol Go.Shelf
attribute [local go_sem] Oper.semAt_some Go.Pol.wide_fn Go.Pol.wide_depth Go.Pol.wide_fn' Go.Pol.wide_depth'
set_option maxRecDepth 100000 in
set_option maxHeartbeats 3200000 in
theorem cmClose_any (bs bb : Nat) (V : Vm) (L : List Nd) (r : Cr) (A : Option Addr) (cap : Nat) (w : World) (hV : SysIs w bs V) (hKd : KindOk V) (hB : BudIs w bb L) (hO : BudOk L) (hnl : chkCm r = 0 → r.node.toNat < L.length) (hcap : r.kept.length ≤ cap) (hcm : cap ≤ maxLen) (hk : KeptAt w A r.kept) :
  Calls Tryz.prog 21 #[.pointer (some ⟨bs, 0, none⟩), .pointer (some ⟨bb, 0, none⟩), .agg (crC r (.slice A r.kept.length cap))] w fun e w' => ∃ v, e = .returned (.tuple #[v, .int .i64 (closeC V L r).2.1]) ∧ CrV (closeC V L r).1 w' v ∧ BothTo bs bb (closeC V L r).2.2.1 (closeC V L r).2.2.2 w w' := by
 have hr := hk.ru
 have HK := Lib.hid (fun W (h1 : SysIs W bs V) (h2 : BudIs W bb L) (h3 : RU W W.heap.size A r.kept) => ready_any bs bb V L r A cap W h1 hKd h2 hO hcap hcm h3)
 obtain ⟨R, hR⟩ : ∃ R, closeC V L r = R := ⟨_, rfl⟩
 rw [hR]
 unfold closeC at hR
 have hz := @chkCm_zero r
 have hZ : chkCm r = 0 → CrOk r := hz.1
 clear hz
 generalize chkCm r = ck at *
 obtain ⟨pg, n, f, bk, ev, node, live, K, cl⟩ := r
 simp only at hcap hcm hr hk hR hZ HK hnl ⊢
 obtain ⟨m, hm0⟩ : ∃ m, K.length = m := ⟨_, rfl⟩
 rw [hm0] at hcap HK ⊢
 have hm := Lib.hid hm0
 obtain ⟨w0, hw0, hsz, hb0, k1, k2, k3, k4⟩ := boxes4 44 45 43 43 #[.pointer (some ⟨bs, 0, none⟩)] #[.pointer (some ⟨bb, 0, none⟩)] (crC ⟨pg, n, f, bk, ev, node, live, K, cl⟩ (.slice A m cap)) (crC cr0 (.slice none 0 0)) w
 have hr0 := Lib.hid (hr.on hb0)
 have hrH := Lib.hid hk
 dsimp only [crC, cr0] at k3 k4 hw0 HK ⊢
 clear hm0 hr hk
 by_cases h0 : ck = 0
 case neg =>
  have h0' : (ck != 0) = true := by simpa using h0
  rw [if_pos h0] at hR
  subst hR
  clear h0 hZ
  refine calls_of_marks Tryz.func21 rfl ?_
  simp only [Tryz.ntmps21, List.size_toArray, List.length_cons, List.length_nil, Nat.reduceAdd, Nat.reduceSub, Array.replicate_succ, Array.replicate_zero, List.push_toArray, List.append_toArray, List.nil_append, List.cons_append]
  go_upto_region 1 with fail
  rw [← hw0]
  have c1 := k1.cell
  have c2 := k2.cell
  have c3 := k3.cell
  clear hw0
  go_wp2_with fail
  refine (HK.out _ (hV.call hb0) (hB.call hb0) hr0.out).mono ?_
  rintro e w1 ⟨rfl, hb1⟩
  have k11 := k1.call hb1
  have k21 := k2.call hb1
  have k31 := k3.call hb1
  have k41 := k4.call hb1
  have B1 := hb0.trans (hb1.mono hb0.size)
  have c11 := k11.cell
  have c21 := k21.cell
  have c31 := k31.cell
  have c41 := k41.cell
  have f41 := k41.frozen
  clear HK k1 k2 k3 k4 hb0 hr0 hb1 c1 c2 c3
  go_wp2_with fail
  change bodyPostM _ _ _ _ _ _ _ (put9 w1 (w.heap.size + 3) ⟨pg, n, f, bk, ev, node, live, K, cl⟩ (.slice A m cap))
  have kR9 := put9_blk k41 ⟨pg, n, f, bk, ev, node, live, K, cl⟩ (.slice A m cap)
  have F9 := put9_far w1 (w.heap.size + 3) ⟨pg, n, f, bk, ev, node, live, K, cl⟩ (.slice A m cap)
  generalize put9 w1 (w.heap.size + 3) ⟨pg, n, f, bk, ev, node, live, K, cl⟩ (.slice A m cap) = w9 at *
  dsimp only [crC] at kR9
  have cR9 := kR9.cell
  refine leave_none (v := .tuple #[.agg (crC ⟨pg, n, f, bk, ev, node, live, K, cl⟩ (.slice A m cap)), .int .i64 ck]) (by simp [results, Tryz.results21, go_sem, cR9, crC]) ?_
  have T9 := (BothTo.below hV hB B1).fresh F9 (fun k hk => by subst hk; omega) (fun k hk => by subst hk; exact ⟨_, _, k41, by decide, by decide, by decide, by decide⟩)
  exact ⟨_, rfl, ⟨A, cap, by rw [hm.out], by rw [hm.out]; exact hcap, hcm, T9.kept hV hrH.out⟩, T9⟩
 subst h0
 rw [if_neg (by simp)] at hR
 have hOk := hZ rfl
 have hp := hOk.plan
 simp only at hp
 obtain ⟨nn, rfl⟩ : ∃ nn : Nat, n = nn := ⟨n.toNat, by have := hp.n0; omega⟩
 have hp0 := hp.pg0
 have hpn : pg + (nn : Int) ≤ 1024 := by have := hp.n1; omega
 by_cases h1 : cl = true
 case pos =>
  subst h1
  rw [if_pos rfl] at hR
  unfold closeT at hR
  simp only at hR
  have HS := Lib.hid (fun W h => standing_any bs V pg f bk ev nn W h hp0 hpn)
  unfold planV at HS
  clear hZ hOk hp
  refine calls_of_marks Tryz.func21 rfl ?_
  simp only [Tryz.ntmps21, List.size_toArray, List.length_cons, List.length_nil, Nat.reduceAdd, Nat.reduceSub, Array.replicate_succ, Array.replicate_zero, List.push_toArray, List.append_toArray, List.nil_append, List.cons_append]
  go_upto_region 1 with fail
  rw [← hw0]
  have c1 := k1.cell
  have c2 := k2.cell
  have c3 := k3.cell
  clear hw0
  go_wp2_with fail
  refine (HK.out _ (hV.call hb0) (hB.call hb0) hr0.out).mono ?_
  rintro e w1 ⟨rfl, hb1⟩
  have k11 := k1.call hb1
  have k21 := k2.call hb1
  have k31 := k3.call hb1
  have k41 := k4.call hb1
  have B1 := hb0.trans (hb1.mono hb0.size)
  have c11 := k11.cell
  have c21 := k21.cell
  have c31 := k31.cell
  have c41 := k41.cell
  have f41 := k41.frozen
  clear HK k1 k2 k3 k4 hb0 hr0 hb1 c1 c2 c3
  have T1 := BothTo.below hV hB B1
  have HD1 : DfAt none w1 := DfAt.nil _
  have hk1 := T1.kept hV hrH.out
  obtain ⟨SL, hSL⟩ : ∃ SL, standC V pg nn = SL := ⟨_, rfl⟩
  rw [hSL] at hR HS
  obtain ⟨P, hP⟩ : ∃ P, protL SL V = P := ⟨_, rfl⟩
  rw [hP] at hR
  have hPh := Lib.hid hP
  have hRh := Lib.hid hR.symm
  obtain ⟨ln, hln0⟩ : ∃ ln, SL.length = ln := ⟨_, rfl⟩
  rw [hln0] at HS
  have hln := Lib.hid hln0
  clear hSL hP hR hln0
  go_wp2_with fail
  refine (HS.out _ (T1).sys).mono ?_
  rintro e w2 ⟨A8, c8, rfl, hr8, hf8, hm8, hc8, hb2⟩
  have T2 := (T1).thenBelow hb2
  have k12 := (k11).call hb2
  have k32 := (k31).call hb2
  have k42 := (k41).call hb2
  have HD2 := (HD1).call hb2
  have hk2 := (hk1).call hb2
  have hf8' := Lib.hid (fun g o (e : A8 = some ⟨g, o, none⟩) => show ¬ g = bs by have := hf8 g o e; have := (T1).sys.lt; omega)
  have hln8 : ln ≤ 9223372036854775807 := by unfold maxLen at hc8; omega
  clear HS hf8 hb2
  go_wp2_with fail
  go_loopw [82] (fun i wr => ∃ (k : Nat) (U : Vm), k ≤ ln ∧ i = .int .i64 k ∧ Hid (protL (SL.drop k) U = P) ∧ BothTo bs bb U L w wr ∧ Blk wr w.heap.size 44 #[.pointer (some ⟨bs, 0, none⟩)] ∧ Blk wr (w.heap.size + 2) 43 #[.int .i64 pg, .int .i64 nn, .int .i64 f, .int .i64 bk, .int .i64 ev, .int .i64 node, .int .i64 live, .slice A m cap, .bool true] ∧ Blk wr (w.heap.size + 3) 43 #[.int .i64 0, .int .i64 0, .int .i64 0, .int .i64 0, .int .i64 0, .int .i64 0, .int .i64 0, .slice none 0 0, .bool false] ∧ DfAt none wr ∧ KeptAt wr A K ∧ RU wr wr.heap.size A8 SL) (fun i _ => ln - (intOf i).toNat)
  case atStart => exact ⟨0, V, by omega, rfl, Lib.hid (by simpa using hPh.out), T2, k12, k32, k42, HD2, hk2, hr8⟩
  case round =>
   clear T2 k12 k32 k42 HD2 hk2 hr8 hPh
   obtain ⟨k, U, hk, rfl, hU, T3, k13, k33, k43, HD3, hk3, hr3⟩ := hrel
   have c13 := k13.cell
   have c33 := k33.cell
   by_cases hlt : k < ln
   ·have hlt' : decide ((k : Int) < (ln : Int)) = true := by simpa using hlt
    have hku : k < SL.length := by rw [hln.out]; exact hlt
    obtain ⟨b8, o8, rfl, _, hc, hd⟩ := hr3.at_' hku
    have hst : Hid (protL (SL.getD k (0, 0) :: SL.drop (k + 1)) U = P) := Lib.hid (by
     rw [← hU.out, List.drop_eq_getElem_cons hku, List.getD_eq_getElem?_getD, List.getElem?_eq_getElem hku]; rfl)
    generalize SL.getD k (0, 0) = x at *
    obtain ⟨xa, xb⟩ := x
    dsimp only at hc hd
    obtain ⟨J, hJ⟩ : ∃ J, bec U xa xb 4 3 1 = J := ⟨_, rfl⟩
    have hst2 := hst.out
    rw [protL] at hst2
    dsimp only at hst2
    rw [hJ] at hst2
    have HU := Lib.hid (fun W h => unguard_any bs xa xb U W h)
    rw [hJ] at HU
    obtain ⟨je, jV⟩ := J
    dsimp only at hst2 HU
    have hba := (Below.refl wr.heap.size wr).alloc (Nat.le_refl _) (.cells #[.int .i64 xa, .int .i64 xb] 140)
    have kX := Blk.new wr 140 #[.int .i64 xa, .int .i64 xb]
    have T4 := T3.thenBelow hba
    have k14 := k13.call hba
    have k34 := k33.call hba
    have k44 := k43.call hba
    have HD4 := HD3.call hba
    have hk4 := hk3.call hba
    have hr4 := hr3.on hba
    obtain ⟨gx, hgx⟩ : ∃ gx, wr.heap.size = gx := ⟨_, rfl⟩
    rw [hgx] at kX
    have c14 := k14.cell
    have cX := kX.cell
    clear hU hst hJ
    go_upto_region 22 with fail
    clear hc hd c13 c33
    generalize wr.alloc _ = wa at *
    go_wp2_with fail
    refine (HU.out _ T4.sys).mono ?_
    rintro e w5 ⟨rfl, h5⟩
    have S5 := BothTo.bySys T4.sys T4.bud h5
    have T5 := T4.trans S5
    have k15 := S5.blk T4.sys k14 (by decide) (by decide)
    have k35 := S5.blk T4.sys k34 (by decide) (by decide)
    have k45 := S5.blk T4.sys k44 (by decide) (by decide)
    have HD5 := HD4.both T4.sys S5
    have hk5 := S5.kept T4.sys hk4
    have hr5 := (hr4.farC h5.2 (fun g o e => hf8'.out g o e)).more h5.2.size
    have c35 := k35.cell
    have c45 := k45.cell
    have f45 := k45.frozen
    clear T3 k13 k33 k43 HD3 hk3 hr3 hba kX k14 k34 k44 HD4 hk4 hr4 c14 cX HU h5
    by_cases h3 : je = 0
    ·subst h3
     rw [if_neg (by simp)] at hst2
     have hst3 := Lib.hid hst2
     clear hst2
     go_wp2_with fail
     go_roundw
     case rel => exact ⟨k + 1, jV, by omega, by go_num, hst3, T5, k15, k35, k45, HD5, hk5, hr5⟩
     case measure => simp [intOf]; omega
    ·have h3' : (je != 0) = true := by simpa using h3
     rw [if_pos h3] at hst2
     have hR9 := Lib.hid hRh.out
     rw [← hst2, if_pos h3] at hR9
     clear hst2 h3
     go_wp2_with fail
     change bodyPostM _ _ _ _ _ _ _ (put9 w5 (w.heap.size + 3) ⟨pg, nn, f, bk, ev, node, live, K, true⟩ (.slice A m cap))
     have kR9 := put9_blk k45 ⟨pg, nn, f, bk, ev, node, live, K, true⟩ (.slice A m cap)
     have F9 := put9_far w5 (w.heap.size + 3) ⟨pg, nn, f, bk, ev, node, live, K, true⟩ (.slice A m cap)
     generalize put9 w5 (w.heap.size + 3) ⟨pg, nn, f, bk, ev, node, live, K, true⟩ (.slice A m cap) = w9 at *
     dsimp only [crC] at kR9
     have cR9 := kR9.cell
     refine leave_none (v := .tuple #[.agg (crC ⟨pg, nn, f, bk, ev, node, live, K, true⟩ (.slice A m cap)), .int .i64 je]) (by simp [results, Tryz.results21, go_sem, cR9, crC]) ?_
     have T9 := T5.fresh F9 (fun k hk => by subst hk; omega) (fun k hk => by subst hk; exact ⟨_, _, k45, by decide, by decide, by decide, by decide⟩)
     have hk9 := hk5.far F9 (fun g cs hg e => by subst e; exact k45.ne hg (by decide))
     have SF := Soft.refl w.heap.size w9
     rw [hR9.out]
     exact ⟨_, rfl, ⟨A, cap, by rw [(hm).out], by rw [(hm).out]; exact hcap, hcm, hk9.soft SF⟩, T9.soft (Nat.le_refl _) SF⟩
   ·obtain rfl : k = ln := by omega
    have hlt' : decide ((k : Int) < (k : Int)) = false := by simp
    have hU2 : P = (0, U) := by rw [← hU.out, List.drop_of_length_le (by rw [hln.out]; omega)]; rfl
    have hR8 := hRh.out
    rw [hU2] at hR8
    dsimp only at hR8
    rw [if_neg (by simp)] at hR8
    have HE := Lib.hid (fun W h => release_any bs pg nn U W h)
    obtain ⟨E, hE⟩ : ∃ E, bec U pg nn 1 1 0 = E := ⟨_, rfl⟩
    rw [hE] at hR8 HE
    obtain ⟨ee, eV⟩ := E
    dsimp only at hR8 HE
    clear hU hE hU2 hRh
    go_wp2_with fail
    refine (HE.out _ T3.sys).mono ?_
    rintro e w5 ⟨rfl, h5⟩
    have S5 := BothTo.bySys T3.sys T3.bud h5
    have T5 := T3.trans S5
    have k35 := S5.blk T3.sys k33 (by decide) (by decide)
    have k45 := S5.blk T3.sys k43 (by decide) (by decide)
    have HD5 := HD3.both T3.sys S5
    have hk5 := S5.kept T3.sys hk3
    have c35 := k35.cell
    have c45 := k45.cell
    have f45 := k45.frozen
    clear T3 k13 k33 k43 HD3 hk3 hr3 c13 c33 h5 HE
    by_cases h3 : ee = 0
    ·subst h3
     rw [if_neg (by simp)] at hR8
     have hR9 := Lib.hid hR8
     clear hR8
     go_wp2_with fail
     change bodyPostM _ _ _ _ _ _ _ (put9 w5 (w.heap.size + 3) cr0 (.slice none 0 0))
     have kR9 := put9_blk k45 cr0 (.slice none 0 0)
     have F9 := put9_far w5 (w.heap.size + 3) cr0 (.slice none 0 0)
     generalize put9 w5 (w.heap.size + 3) cr0 (.slice none 0 0) = w9 at *
     dsimp only [crC] at kR9
     have cR9 := kR9.cell
     refine leave_none (v := .tuple #[.agg (crC cr0 (.slice none 0 0)), .int .i64 0]) (by simp [results, Tryz.results21, go_sem, cR9, crC]) ?_
     have T9 := T5.fresh F9 (fun k hk => by subst hk; omega) (fun k hk => by subst hk; exact ⟨_, _, k45, by decide, by decide, by decide, by decide⟩)
     have SF := Soft.refl w.heap.size w9
     rw [hR9.out]
     exact ⟨_, rfl, ⟨none, 0, rfl, Nat.le_refl _, by unfold maxLen; omega, KeptAt.none _ _⟩, T9.soft (Nat.le_refl _) SF⟩
    ·have h3' : (ee != 0) = true := by simpa using h3
     rw [if_pos h3] at hR8
     have hR9 := Lib.hid hR8
     clear hR8 h3
     go_wp2_with fail
     change bodyPostM _ _ _ _ _ _ _ (put9 w5 (w.heap.size + 3) ⟨pg, nn, f, bk, ev, node, live, K, true⟩ (.slice A m cap))
     have kR9 := put9_blk k45 ⟨pg, nn, f, bk, ev, node, live, K, true⟩ (.slice A m cap)
     have F9 := put9_far w5 (w.heap.size + 3) ⟨pg, nn, f, bk, ev, node, live, K, true⟩ (.slice A m cap)
     generalize put9 w5 (w.heap.size + 3) ⟨pg, nn, f, bk, ev, node, live, K, true⟩ (.slice A m cap) = w9 at *
     dsimp only [crC] at kR9
     have cR9 := kR9.cell
     refine leave_none (v := .tuple #[.agg (crC ⟨pg, nn, f, bk, ev, node, live, K, true⟩ (.slice A m cap)), .int .i64 ee]) (by simp [results, Tryz.results21, go_sem, cR9, crC]) ?_
     have T9 := T5.fresh F9 (fun k hk => by subst hk; omega) (fun k hk => by subst hk; exact ⟨_, _, k45, by decide, by decide, by decide, by decide⟩)
     have hk9 := hk5.far F9 (fun g cs hg e => by subst e; exact k45.ne hg (by decide))
     have SF := Soft.refl w.heap.size w9
     rw [hR9.out]
     exact ⟨_, rfl, ⟨A, cap, by rw [(hm).out], by rw [(hm).out]; exact hcap, hcm, hk9.soft SF⟩, T9.soft (Nat.le_refl _) SF⟩
 have h1' : cl = false := by simpa using h1
 subst h1'
 clear h1
 rw [if_neg (by simp)] at hR
 have hlv := hOk.live0
 have hlv1 := Int.le_trans hOk.live1 (usC_le hOk.plan)
 have hKC := hOk.can
 have hnd := hOk.node
 simp only at hlv hlv1 hKC hnd
 obtain ⟨nd, rfl⟩ : ∃ nd : Nat, node = nd := ⟨node.toNat, by omega⟩
 have hnl2 := hnl rfl
 rw [Int.toNat_natCast] at hR hnl2
 have hBC : Go.Pol.Can (belC 0 live) := belC_can (by omega) hlv1
 have hAC := setOf_can (K ++ belC 0 live)
 have HB := Lib.hid (fun W => below_any 0 live W (by omega) (by omega))
 have HU := Lib.hid (fun W (A2 : Option Addr) (c2 : Nat) h1 h2 h3 h4 => unionY_any A A2 m cap (belC 0 live).length c2 K (belC 0 live) W hm.out hcap hcm h1 rfl h2 h3 h4 hKC hBC)
 generalize setOf (K ++ belC 0 live) = all at *
 generalize belC 0 live = L2 at *
 have hvR := runsC_ok hAC hp
 have hal512 := hAC.len
 obtain ⟨al, hal0⟩ : ∃ al, all.length = al := ⟨_, rfl⟩
 have hal := Lib.hid hal0
 rw [hal0] at hal512
 unfold SpansY at HU
 rw [hal0] at HU
 clear hal0 hKC hBC hnl hZ hOk
 refine calls_of_marks Tryz.func21 rfl ?_
 simp only [Tryz.ntmps21, List.size_toArray, List.length_cons, List.length_nil, Nat.reduceAdd, Nat.reduceSub, Array.replicate_succ, Array.replicate_zero, List.push_toArray, List.append_toArray, List.nil_append, List.cons_append]
 go_upto_region 1 with fail
 rw [← hw0]
 have c1 := k1.cell
 have c2 := k2.cell
 have c3 := k3.cell
 clear hw0
 go_wp2_with fail
 refine (HK.out _ (hV.call hb0) (hB.call hb0) hr0.out).mono ?_
 rintro e w1 ⟨rfl, hb1⟩
 have k11 := k1.call hb1
 have k21 := k2.call hb1
 have k31 := k3.call hb1
 have k41 := k4.call hb1
 have B1 := hb0.trans (hb1.mono hb0.size)
 have c11 := k11.cell
 have c21 := k21.cell
 have c31 := k31.cell
 have c41 := k41.cell
 have f41 := k41.frozen
 clear HK k1 k2 k3 k4 hb0 hr0 hb1 c1 c2 c3
 go_upto_region 5 with fail
 have hS : CrS (w.heap.size + 2) live (.slice A m cap) w1 := ⟨k31.cell 6, k31.cell 7⟩
 have k1d := k11.call ((Below.refl _ w1).drew)
 have k2d := k21.call ((Below.refl _ w1).drew)
 have k3d := k31.call ((Below.refl _ w1).drew)
 have k4d := k41.call ((Below.refl _ w1).drew)
 have B1d := B1.trans ((Below.refl w1.heap.size w1).drew.mono B1.size)
 have hr1d := Lib.hid ((hrH.out.call B1d).ru)
 have hS := hS.call ((Below.refl _ w1).drew)
 refine wp_noPanic ?_
 refine wp_region_T (CrS (w.heap.size + 2) live (.slice A m cap)) [] (by kernel_rfl) ?_
 generalize w1.drew = wd at *
 clear k11 k21 k31 k41 B1 c11 c21 c31 c41 f41
 refine tkQ 0 hS ?_
 try simp only [Act.put, qsA, qsB, qsC]
 refine tkQ 1 hS ?_
 try simp only [Act.put, qsA, qsB, qsC]
 refine tkQ 2 hS ?_
 try simp only [Act.put, qsA, qsB, qsC]
 refine tkQ 3 hS ?_
 try simp only [Act.put, qsA, qsB, qsC]
 refine tkR 4 fun K hK => ?_
 go_simp
 refine (HB.out wd).mono ?_
 rintro (e w2 ⟨A2, c2, rfl, hru2, hl2, hc2, _, hb2⟩)
 refine hK.out _ _ (fun _ => hS.call hb2) (fun hS => ?_)
 clear hK K
 replace hS := hS rfl
 try simp only [Act.put, qsA, qsB, qsC]
 have k12 := k1d.call hb2
 have k22 := k2d.call hb2
 have k32 := k3d.call hb2
 have k42 := k4d.call hb2
 have B2 := B1d.trans (hb2.mono B1d.size)
 have hr2 := hr1d.out.on hb2
 refine tkR 5 fun K hK => ?_
 go_simp
 refine (HU.out w2 A2 c2 hr2 hl2 hc2 hru2).mono ?_
 rintro (e w3 ⟨A3, c3, rfl, hru3, hl3, hc3, hb3⟩)
 refine hK.out _ _ (fun _ => hS.call hb3) (fun hS => ?_)
 clear hK K
 replace hS := hS rfl
 try simp only [Act.put, qsA, qsB, qsC]
 have k13 := k12.call hb3
 have k23 := k22.call hb3
 have k33 := k32.call hb3
 have k43 := k42.call hb3
 have B3 := B2.trans (hb3.mono B2.size)
 clear HB HU hru2 hl2 k1d k2d k3d k4d B1d hr1d k12 k22 k32 k42 B2 hr2 hb2 hb3
 refine tkQ 6 hS ?_
 try simp only [Act.put, qsA, qsB, qsC]
 refine tkQ 7 hS ?_
 try simp only [Act.put, qsA, qsB, qsC]
 refine tkQ 8 hS ?_
 try simp only [Act.put, qsA, qsB, qsC]
 refine tkQ 9 hS ?_
 try simp only [Act.put, qsA, qsB, qsC]
 refine tkQ 10 hS ?_
 try simp only [Act.put, qsA, qsB, qsC]
 refine wpAnyT_done (by kernel_rfl) ?_ _
 refine noPanic_normal ?_
 clear hS
 have hk3 := hru3
 have kf := Blk.new w3 36 #[.int .i64 0]
 have hba := (Below.refl w3.heap.size w3).alloc (Nat.le_refl _) (.cells #[.int .i64 0] 36)
 have k14 := k13.call hba
 have k24 := k23.call hba
 have k34 := k33.call hba
 have k44 := k43.call hba
 have hk4 := hk3.call hba
 have B4 := B3.trans (hba.mono B3.size)
 have hgs : w.heap.size + 4 ≤ w3.heap.size := by have := k43.lt; omega
 obtain ⟨gf, hgf⟩ : ∃ gf, w3.heap.size = gf := ⟨_, rfl⟩
 rw [hgf] at kf hgs
 go_upto_region 7 with fail
 generalize w3.alloc _ = w4 at *
 clear k13 k23 k33 k43 hk3 hru3 B3 hba
 have HCl := Lib.hid (clone_any A3 al c3 all w4 hal.out (by omega) hk4.ru)
 have k34' : Blk w4 (w.heap.size + 1 + 1) 43 #[.int .i64 pg, .int .i64 nn, .int .i64 f, .int .i64 bk, .int .i64 ev, .int .i64 nd, .int .i64 live, .slice A m cap, .bool false] := k34
 go_upto_region 8 with (go_at_call 66; refine HCl.out.mono ?_; rintro e w5 ⟨v5, rfl, hrow5, hb5⟩; obtain ⟨A5, c5, rfl, hk5, hl5, hcm5⟩ := KeptAt.own hrow5 hal.out; have f35 := (k34'.call hb5).frozen; have c35 := (k34'.call hb5).cell)
 have k16 := ((k14.call hb5).far (p := ⟨w.heap.size + 1 + 1, 6, none⟩) (by show w.heap.size ≠ w.heap.size + 1 + 1; omega) (.int .i64 0)).far (p := ⟨w.heap.size + 1 + 1, 7, none⟩) (by show w.heap.size ≠ w.heap.size + 1 + 1; omega) (.slice A5 al c5)
 have k26 := ((k24.call hb5).far (p := ⟨w.heap.size + 1 + 1, 6, none⟩) (by show w.heap.size + 1 ≠ w.heap.size + 1 + 1; omega) (.int .i64 0)).far (p := ⟨w.heap.size + 1 + 1, 7, none⟩) (by show w.heap.size + 1 ≠ w.heap.size + 1 + 1; omega) (.slice A5 al c5)
 have k36 := ((k34'.call hb5).set_ 6 (.int .i64 0)).set_ 7 (.slice A5 al c5)
 have k46 := ((k44.call hb5).far (p := ⟨w.heap.size + 1 + 1, 6, none⟩) (by show w.heap.size + 3 ≠ w.heap.size + 1 + 1; omega) (.int .i64 0)).far (p := ⟨w.heap.size + 1 + 1, 7, none⟩) (by show w.heap.size + 3 ≠ w.heap.size + 1 + 1; omega) (.slice A5 al c5)
 have kf6 := ((kf.call hb5).far (p := ⟨w.heap.size + 1 + 1, 6, none⟩) (by show gf ≠ w.heap.size + 1 + 1; omega) (.int .i64 0)).far (p := ⟨w.heap.size + 1 + 1, 7, none⟩) (by show gf ≠ w.heap.size + 1 + 1; omega) (.slice A5 al c5)
 have F6 : Far (fun k => k = w.heap.size + 1 + 1) w5 ((w5.setCell ⟨w.heap.size + 1 + 1, 6, none⟩ (.int .i64 0)).setCell ⟨w.heap.size + 1 + 1, 7, none⟩ (.slice A5 al c5)) := Far.setCell (T := fun k => k = w.heap.size + 1 + 1) (p := ⟨w.heap.size + 1 + 1, 7, none⟩) (Far.setCell (T := fun k => k = w.heap.size + 1 + 1) (p := ⟨w.heap.size + 1 + 1, 6, none⟩) (Far.refl _ w5) (fun _ => rfl) (.int .i64 0)) (fun _ => rfl) (.slice A5 al c5)
 have hk56 := hk5.far F6 (fun g cs hg e => by subst e; exact (k34'.call hb5).ne hg (by decide))
 have hk36 := (hk4.call hb5).far F6 (fun g cs hg e => by subst e; exact (k34'.call hb5).ne hg (by decide))
 have B6 := (B4.trans (hb5.mono B4.size)).setCell (p := ⟨w.heap.size + 1 + 1, 6, none⟩) (by show w.heap.size ≤ w.heap.size + 1 + 1; omega) (.int .i64 0) |>.setCell (p := ⟨w.heap.size + 1 + 1, 7, none⟩) (by show w.heap.size ≤ w.heap.size + 1 + 1; omega) (.slice A5 al c5)
 generalize (w5.setCell ⟨w.heap.size + 1 + 1, 6, none⟩ (.int .i64 0)).setCell ⟨w.heap.size + 1 + 1, 7, none⟩ (.slice A5 al c5) = w6 at *
 simp only [List.setIfInBounds_toArray, List.set_cons_zero, List.set_cons_succ] at k36
 have c36 := k36.cell
 have hg6 : gf < w6.heap.size := kf6.lt
 clear k14 k24 k34 k34' k44 hk4 B4 hk5 hrow5 f35 c35 F6 HCl hb5
 have hb7 := below_alloc2 ((Below.refl w6.heap.size w6).alloc (Nat.le_refl _) (.cells (crC ⟨pg, nn, f, bk, ev, nd, 0, all, false⟩ (.slice A5 al c5)) 43)) (.cells #[.slice A3 al c3] 41)
 have kB1 := (Blk.new w6 43 (crC ⟨pg, nn, f, bk, ev, nd, 0, all, false⟩ (.slice A5 al c5))).alloc2 (.cells #[.slice A3 al c3] 41)
 have kB2 := Blk.new2 w6 (.cells (crC ⟨pg, nn, f, bk, ev, nd, 0, all, false⟩ (.slice A5 al c5)) 43) 41 #[.slice A3 al c3]
 have HRn := Lib.hid (cmRuns_any _ (.slice A5 al c5) ⟨pg, nn, f, bk, ev, nd, 0, all, false⟩ w6 rfl A3 al c3)
 dsimp only [crC] at hb7 kB1 kB2 HRn
 go_wp2_with (go_at_call 58; refine HRn.out.mono ?_; rintro e w7 ⟨rfl, hw7⟩)
 rw [← hw7] at hb7 kB1 kB2 ⊢
 obtain ⟨B1, hB1⟩ : ∃ B1, w6.heap.size = B1 := ⟨_, rfl⟩
 rw [hB1] at kB1 kB2 hg6
 have k17 := k16.call hb7
 have k27 := k26.call hb7
 have k37 := k36.call hb7
 have k47 := k46.call hb7
 have kf7 := kf6.call hb7
 have hk57 := hk56.call hb7
 have hk37 := hk36.call hb7
 have B7 := B6.trans (hb7.mono B6.size)
 have hsB : w.heap.size + 4 ≤ B1 := by omega
 have hbsB : bs < B1 := by have := hV.lt; omega
 have HSq := Lib.hid (cmRuns1_seq ⟨pg, nn, f, bk, ev, nd, 0, all, false⟩ (.slice A5 al c5) B1 (B1 + 1) A3 al c3 all (fun k => k = B1 ∨ k = B1 + 1 ∨ (all ≠ [] ∧ ∃ o, A3 = some ⟨k, o, none⟩)) w7 hp hAC hal.out hl3 hc3 (.inl rfl) (.inr (.inl rfl)) (fun hn g o e => .inr (.inr ⟨hn, o, e⟩)) kB1 kB2 hk37.ru)
 have hKlt : ∀ k, (k = B1 ∨ k = B1 + 1 ∨ (all ≠ [] ∧ ∃ o, A3 = some ⟨k, o, none⟩)) → k < w7.heap.size := fun k hk => by
  rcases hk with rfl | rfl | ⟨hn, o, e⟩
  ·exact kB1.lt
  ·exact kB2.lt
  ·obtain ⟨cs, hc⟩ := hk37.block hn e
   exact hc.lt
 clear k16 k26 k36 k46 kf6 hk56 hk36 B6 hb7 hw7 c36 HRn
 simp only at HSq
 obtain ⟨XS, hXS⟩ : ∃ XS, runsC all 0 (runsL pg (nn : Int) f bk ev) = XS := ⟨_, rfl⟩
 rw [hXS] at HSq hR hvR
 clear hXS
 simp only [hB1]
 have hcr7 : CrAt w7 (w.heap.size + 1 + 1) ⟨pg, nn, f, bk, ev, nd, 0, all, false⟩ := ⟨A5, c5, by simp only; rw [hal.out]; exact k37, hk57, by simp only; rw [hal.out]; exact hl5, hcm5⟩
 refine rangeBR 12 45 137 (by rfl) cmRuns1_enters HSq.out rfl hKlt
  (fun pre W => ∃ S, Hid (pre.foldl (closeS nd) (V, L, all, 0) = S) ∧ BothTo bs bb S.1 S.2.1 w W ∧ Blk W w.heap.size 44 #[.pointer (some ⟨bs, 0, none⟩)] ∧ Blk W (w.heap.size + 1) 45 #[.pointer (some ⟨bb, 0, none⟩)] ∧ CrAt W (w.heap.size + 1 + 1) ⟨pg, nn, f, bk, ev, nd, 0, S.2.2.1, false⟩ ∧ Blk W (w.heap.size + 3) 43 #[.int .i64 0, .int .i64 0, .int .i64 0, .int .i64 0, .int .i64 0, .int .i64 0, .int .i64 0, .slice none 0 0, .bool false] ∧ Blk W gf 36 #[.int .i64 S.2.2.2] ∧ (∃ cs, Blk W B1 43 cs) ∧ (∃ cs, Blk W (B1 + 1) 41 cs) ∧ KeptAt W A3 all)
  (fun _ _ _ => False) ?hI (fun _ _ _ _ h _ => h.elim) ⟨_, Lib.hid rfl, .below hV hB B7, k17, k27, hcr7, k47, kf7, ⟨_, kB1⟩, ⟨_, kB2⟩, hk37⟩ ?assign ?body ?done (fun _ _ _ _ _ h _ => h.elim)
 case hI =>
  rintro pre WA WB ⟨S, h1, h2, h3, h4, h5, h6, h7, ⟨c8, h8⟩, ⟨c9, h9⟩, h10⟩ hs
  have hN : w.heap.size ≤ w7.heap.size := B7.size
  exact ⟨S, h1, h2.soft hN hs, hs.blk h3, hs.blk h4, h5.soft hs, hs.blk h6, hs.blk h7, ⟨c8, hs.blk h8⟩, ⟨c9, hs.blk h9⟩, h10.soft hs⟩
 case assign =>
  intro mm l x W C hC
  obtain ⟨xa, xb, xn⟩ := x
  simp only [rnTC, List.setIfInBounds_toArray, List.set_cons_succ, List.set_cons_zero] at hC ⊢
  gi_wp2
  exact hC
 case body =>
  rintro mm l X pre x Bx W hs2 hX hD hE ⟨S, hS, T1, k1, k2, hc3', k4, kf, ⟨c8, kB1'⟩, ⟨c9, kB2'⟩, hkA⟩ kx hpre
  simp only [List.setIfInBounds_toArray, List.set_cons_succ, List.set_cons_zero]
  have hvx := hvR x (hpre.subset (by simp))
  have hfo := closeS_fold pre (V, L, all, 0) (fun y hy => hvR y (hpre.subset (by simp [hy]))) hO hnl2 hAC
  rw [hS.out] at hfo
  have hst : Hid ((pre ++ [x]).foldl (closeS nd) (V, L, all, 0) = closeS nd S x) := Lib.hid (by rw [List.foldl_append, hS.out]; rfl)
  unfold closeS at hst
  obtain ⟨xa, xb, xn⟩ := x
  obtain ⟨SV, SL, Sk, Sf⟩ := S
  simp only at T1 hc3' kf hfo hst hvx
  obtain ⟨q, cq, k3, hk3, hl3', hcm3⟩ := hc3'.ex
  simp only at k3 hk3 hl3'
  obtain ⟨sl, hsl0⟩ : ∃ sl, Sk.length = sl := ⟨_, rfl⟩
  have hsl := Lib.hid hsl0
  rw [hsl0] at k3 hl3'
  have noK : ∀ k t cs, Blk W k t cs → t ≠ 140 → t ≠ 41 → (t = 43 → k ≠ B1) → ¬ ((k = B1 ∨ k = B1 + 1 ∨ (all ≠ [] ∧ ∃ o, A3 = some ⟨k, o, none⟩)) ∨ X k ∨ k = w7.heap.size ∨ k = w7.heap.size + 1) := by
   intro k t cs hb h1 h2 h3 hz
   rcases hz with (h | h | ⟨hn, o, h⟩) | h | h | h
   ·by_cases e : t = 43
    ·exact h3 e h
    ·subst h; exact hb.ne kB1' e
   ·subst h; exact hb.ne kB2' h2
   ·obtain ⟨cs', hc'⟩ := hkA.block hn h; exact hb.ne hc' h1
   ·obtain ⟨cs', hc'⟩ := hX k h; exact hb.ne hc' h1
   ·subst h; exact hD _ _ hb
   ·subst h; exact hE _ _ hb
  have noT : ∀ k, (TwoT W bs bb k ∨ k = w.heap.size + 1 + 1 ∨ k = gf) → ¬ ((k = B1 ∨ k = B1 + 1 ∨ (all ≠ [] ∧ ∃ o, A3 = some ⟨k, o, none⟩)) ∨ X k ∨ k = w7.heap.size ∨ k = w7.heap.size + 1) := by
   rintro k ((rfl | ⟨_, cs, hc⟩) | rfl | rfl)
   ·obtain ⟨cs, hc⟩ := T1.sys.typed
    exact noK _ _ _ hc (by decide) (by decide) (fun h => absurd h (by decide))
   ·exact noK _ _ _ hc (by decide) (by decide) (fun h => absurd h (by decide))
   ·exact noK _ _ _ k3 (by decide) (by decide) (fun _ => by omega)
   ·exact noK _ _ _ kf (by decide) (by decide) (fun h => absurd h (by decide))
  have noTH := Lib.hid noT
  have hkAH := Lib.hid hkA
  clear noK noT hD hE hX hsl0 hS hc3'
  have HDc := Lib.hid (fun W h => decommit_any bs xa xb SV W h)
  obtain ⟨J, hJ⟩ : ∃ J, bec SV xa xb 3 2 1 = J := ⟨_, rfl⟩
  rw [hJ] at HDc hst
  obtain ⟨je, jV⟩ := J
  simp only at HDc hst
  have c1 := k1.cell
  have cx := kx.cell
  clear hJ
  gi_wp2_with fail
  refine (callsIn_wide.2 (HDc.out _ T1.sys)).mono ?_
  rintro e w1 ⟨rfl, h1⟩
  have S1 := BothTo.bySys T1.sys T1.bud h1
  have k12 := S1.blk T1.sys k1 (by decide) (by decide)
  have k22 := S1.blk T1.sys k2 (by decide) (by decide)
  have k32 := S1.blk T1.sys k3 (by decide) (by decide)
  have k42 := S1.blk T1.sys k4 (by decide) (by decide)
  have kf2 := S1.blk T1.sys kf (by decide) (by decide)
  have kx2 := S1.blk T1.sys kx (by decide) (by decide)
  have kB12 := S1.blk T1.sys kB1' (by decide) (by decide)
  have kB22 := S1.blk T1.sys kB2' (by decide) (by decide)
  have hk32 := S1.kept T1.sys hk3
  have hkA2 := S1.kept T1.sys hkAH.out
  by_cases hj0 : je = 0
  ·subst hj0
   rw [if_pos rfl] at hst
   have hst2 := Lib.hid hst.out
   have HG := Lib.hid (fun W h => giveB_any bb nd xb SL W h hfo.1 hfo.2.1)
   have HM := Lib.hid (fun W A2 h h2 => minusY_any q A2 sl cq 1 1 Sk [(xn, xb)] W hsl.out hl3' hcm3 h rfl (Nat.le_refl _) (by unfold maxLen; omega) h2 hfo.2.2 (Can.one hvx))
   unfold SpansY at HM
   generalize commonF Sk (gapsF [(xn, xb)] (0, 1024)) = Sk2 at *
   generalize giveB SL nd xb = G at *
   have c22 := k22.cell
   have c32 := k32.cell
   have cx2 := kx2.cell
   clear c1 cx k1 k2 k3 k4 kf kx kB1' kB2' hkA hk3 hst HDc
   gi_wp2_with fail
   refine (callsIn_wide.2 (HG.out _ S1.bud)).mono ?_
   rintro e w2 ⟨rfl, h2⟩
   have S2 := S1.trans (BothTo.byBud S1.sys h2)
   have S2' := BothTo.byBud S1.sys h2
   have k13 := S2'.blk S1.sys k12 (by decide) (by decide)
   have k23 := S2'.blk S1.sys k22 (by decide) (by decide)
   have k33 := S2'.blk S1.sys k32 (by decide) (by decide)
   have k43 := S2'.blk S1.sys k42 (by decide) (by decide)
   have kf3 := S2'.blk S1.sys kf2 (by decide) (by decide)
   have kx3 := S2'.blk S1.sys kx2 (by decide) (by decide)
   have kB13 := S2'.blk S1.sys kB12 (by decide) (by decide)
   have kB23 := S2'.blk S1.sys kB22 (by decide) (by decide)
   have hk33 := S2'.kept S1.sys hk32
   have hkA3 := S2'.kept S1.sys hkA2
   clear k12 k22 k32 k42 kf2 kx2 kB12 kB22 hk32 hkA2 c22 c32 cx2 S2' h1 h2 S1 HG
   gi_upto_region 13 with fail
   have hS : MnS (w.heap.size + 1 + 1) (.slice q sl cq) Bx (.int .i64 xa) (.int .i64 xb) (.int .i64 xn) w2 := ⟨k33.cell 7, kx3.cell 0, kx3.cell 1, kx3.cell 2⟩
   have hbd := (Below.refl w2.heap.size w2).drew
   have S3 := S2.thenBelow hbd
   have k14 := k13.call hbd
   have k24 := k23.call hbd
   have k34 := k33.call hbd
   have k44 := k43.call hbd
   have kf4 := kf3.call hbd
   have kB14 := kB13.call hbd
   have kB24 := kB23.call hbd
   have hk34 := hk33.call hbd
   have hkA4 := hkA3.call hbd
   have hS := hS.call hbd
   refine wpIn_noPanic ?_
   refine wpIn_region_T (MnS (w.heap.size + 1 + 1) (.slice q sl cq) Bx (.int .i64 xa) (.int .i64 xb) (.int .i64 xn)) [6, 7, 8, 9] (by kernel_rfl) (by kernel_rfl) ?hlo ?_
   case hlo => rintro ⟨a, w, h⟩; exact h
   generalize w2.drew = wd at *
   clear k13 k23 k33 k43 kf3 kx3 kB13 kB23 hk33 hkA3 S2 hbd
   refine tkQ 0 hS ?_
   try simp only [Act.put, qsA, qsB, qsC]
   refine tkQ 1 hS ?_
   try simp only [Act.put, qsA, qsB, qsC]
   refine tkQ 2 hS ?_
   try simp only [Act.put, qsA, qsB, qsC]
   refine tkR 3 fun K hK => ?_
   go_simp
   refine ((numbers_any xa xb xn wd)).mono ?_
   rintro (e w4 ⟨g4, rfl, hru4, hg4, hb4⟩)
   refine hK.out _ _ (fun _ => hS.call hb4) (fun hS => ?_)
   clear hK K
   replace hS := hS rfl
   try simp only [Act.put, qsA, qsB, qsC]
   have HM4 := Lib.hid (HM.out w4 _ (hk34.call hb4).ru hru4)
   rw [show sl = sl from rfl] at HM4
   refine tkR 4 fun K hK => ?_
   go_simp
   refine (HM4.out).mono ?_
   rintro (e w5 ⟨A5', c5', rfl, hk5', hl5', hcm5', hb5'⟩)
   refine hK.out _ _ (fun _ => hS.call hb5') (fun hS => ?_)
   clear hK K
   replace hS := hS rfl
   try simp only [Act.put, qsA, qsB, qsC]
   have hb45 := hb4.trans (hb5'.mono hb4.size)
   have S5 := S3.thenBelow hb45
   have k15 := k14.call hb45
   have k25 := k24.call hb45
   have k35 := k34.call hb45
   have k45 := k44.call hb45
   have kf5 := kf4.call hb45
   have kB15 := kB14.call hb45
   have kB25 := kB24.call hb45
   have hkA5 := hkA4.call hb45
   refine tkQ 5 hS ?_
   try simp only [Act.put, qsA, qsB, qsC]
   refine tkV 6 ?_
   try simp only [Act.put, qsA, qsB, qsC]
   refine tkV 7 ?_
   try simp only [Act.put, qsA, qsB, qsC]
   refine tkV 8 ?_
   try simp only [Act.put, qsA, qsB, qsC]
   have c35 := k35.cell
   have f35 := k35.frozen
   refine tkR 9 fun K hK => ?_
   go_simp
   refine hK.out _ _ (fun h => absurd h (by decide)) (fun _ => ?_)
   clear hK K
   refine wpAnyT_done (by kernel_rfl) ?_ _
   refine noPanic_normal ?_
   have FS := Far.setCell (T := fun k => k = w.heap.size + 1 + 1) (p := ⟨w.heap.size + 1 + 1, 7, none⟩) (Far.refl _ w5) (fun _ => rfl) (.slice A5' Sk2.length c5')
   have T6 := (T1.trans S5).fresh FS (fun k hk => by rw [hk]; omega) (fun k hk => by rw [hk]; exact ⟨_, _, k35, by decide, by decide, by decide, by decide⟩)
   have FF : Far (fun k => TwoT W bs bb k ∨ k = w.heap.size + 1 + 1 ∨ k = gf) W (w5.setCell ⟨w.heap.size + 1 + 1, 7, none⟩ (.slice A5' Sk2.length c5')) := (S5.far.mono (fun _ _ h => .inl h)).trans' FS (fun _ _ h => .inr (.inl h))
   have k16 := k15.far (p := ⟨w.heap.size + 1 + 1, 7, none⟩) (by show w.heap.size ≠ w.heap.size + 1 + 1; omega) (.slice A5' Sk2.length c5')
   have k26 := k25.far (p := ⟨w.heap.size + 1 + 1, 7, none⟩) (by show w.heap.size + 1 ≠ w.heap.size + 1 + 1; omega) (.slice A5' Sk2.length c5')
   have k36 := k35.set_ 7 (.slice A5' Sk2.length c5')
   have k46 := k45.far (p := ⟨w.heap.size + 1 + 1, 7, none⟩) (by show w.heap.size + 3 ≠ w.heap.size + 1 + 1; omega) (.slice A5' Sk2.length c5')
   have kf6 := kf5.far (p := ⟨w.heap.size + 1 + 1, 7, none⟩) (by show gf ≠ w.heap.size + 1 + 1; omega) (.slice A5' Sk2.length c5')
   have kB16 := kB15.far (p := ⟨w.heap.size + 1 + 1, 7, none⟩) (by show B1 ≠ w.heap.size + 1 + 1; omega) (.slice A5' Sk2.length c5')
   have kB26 := kB25.far (p := ⟨w.heap.size + 1 + 1, 7, none⟩) (by show B1 + 1 ≠ w.heap.size + 1 + 1; omega) (.slice A5' Sk2.length c5')
   have hk6 := hk5'.far FS (fun g cs hg e => by subst e; exact k35.ne hg (by decide))
   have hkA6 := hkA5.far FS (fun g cs hg e => by subst e; exact k35.ne hg (by decide))
   generalize w5.setCell ⟨w.heap.size + 1 + 1, 7, none⟩ (.slice A5' Sk2.length c5') = w6' at *
   simp only [List.setIfInBounds_toArray, List.set_cons_zero, List.set_cons_succ] at k36
   clear k14 k24 k34 k44 kf4 kB14 kB24 hk34 hkA4 k15 k25 k35 k45 kf5 kB15 kB25 hkA5 c35 f35 HM HM4 hS FS
   gi_wp2_with fail
   exact ⟨FF.mono (fun k _ h => noTH.out k h), _, hst2, T6, k16, k26, ⟨A5', c5', k36, hk6, hl5', hcm5'⟩, k46, kf6, ⟨_, kB16⟩, ⟨_, kB26⟩, hkA6⟩
  ·have hj0' : (je == 0) = false := by simpa using hj0
   rw [if_neg hj0] at hst
   have cf2 := kf2.cell
   have ff2 := kf2.frozen
   have FFs := S1.far.mono (fun _ _ h => .inl h : ∀ k, k < W.heap.size → TwoT W bs bb k → (TwoT W bs bb k ∨ k = w.heap.size + 1 + 1 ∨ k = gf))
   clear c1 cx k1 k2 k3 k4 kf kx kB1' kB2' hkA hk3 HDc h1
   by_cases hsf : Sf = 0
   ·subst hsf
    rw [if_pos rfl] at hst
    have hst2 := Lib.hid hst.out
    clear hst
    gi_wp2_with fail
    have FS := Far.setCell (T := fun k => k = gf) (p := ⟨gf, 0, none⟩) (Far.refl _ w1) (fun _ => rfl) (.int .i64 je)
    have T6 := (T1.trans S1).fresh FS (fun k hk => by rw [hk]; omega) (fun k hk => by rw [hk]; exact ⟨_, _, kf2, by decide, by decide, by decide, by decide⟩)
    refine ⟨(FFs.trans' FS (fun _ _ h => .inr (.inr h))).mono (fun k _ h => noTH.out k h), _, hst2, T6, k12.far (by show w.heap.size ≠ gf; omega) _, k22.far (by show w.heap.size + 1 ≠ gf; omega) _, ⟨q, cq, ?_, hk32.far FS (fun g cs hg e => by subst e; exact kf2.ne hg (by decide)), by simp only; rw [hsl.out]; exact hl3', hcm3⟩, k42.far (by show w.heap.size + 3 ≠ gf; omega) _, kf2.set_ 0 (.int .i64 je), ⟨_, kB12.far (by show B1 ≠ gf; omega) _⟩, ⟨_, kB22.far (by show B1 + 1 ≠ gf; omega) _⟩, hkA2.far FS (fun g cs hg e => by subst e; exact kf2.ne hg (by decide))⟩
    simp only
    rw [hsl.out]
    exact k32.far (by show w.heap.size + 1 + 1 ≠ gf; omega) _
   ·have hsf' : (Sf == 0) = false := by simpa using hsf
    rw [if_neg hsf] at hst
    have hst2 := Lib.hid hst.out
    clear hst hsf
    gi_wp2_with fail
    exact ⟨FFs.mono (fun k _ h => noTH.out k h), _, hst2, T1.trans S1, k12, k22, ⟨q, cq, by simp only; rw [hsl.out]; exact k32, hk32, by simp only; rw [hsl.out]; exact hl3', hcm3⟩, k42, kf2, ⟨_, kB12⟩, ⟨_, kB22⟩, hkA2⟩
 case done =>
  rintro W hs2 ⟨S, hS, T1, k1, k2, hc3', k4, kf, _, _, _⟩ hd
  rw [hS.out] at hR
  obtain ⟨SV, SLx, Sk, Sf⟩ := S
  simp only at T1 hc3' kf hR
  obtain ⟨q, cq, k3, hk3, hl3', hcm3⟩ := hc3'.ex
  simp only at k3 hk3 hl3'
  obtain ⟨sl, hsl0⟩ : ∃ sl, Sk.length = sl := ⟨_, rfl⟩
  have hsl := Lib.hid hsl0
  rw [hsl0] at k3 hl3'
  have hDw : w.heap.size ≤ w7.heap.size := B7.size
  have HD0 : DfAt (some w7.heap.size) W := fun D e => by cases e; exact hd
  generalize w7.heap.size = D at *
  clear hsl0 hS hc3' HSq hKlt k17 k27 k37 k47 kf7 hk57 hk37 B7 hcr7 hd hs2
  have cf := kf.cell
  by_cases hsf : Sf = 0
  case neg =>
   have hsf' : (Sf != 0) = true := by simpa using hsf
   rw [if_pos hsf] at hR
   have hR9 := Lib.hid hR.symm
   clear hR hsf
   have f4 := k4.frozen
   go_upto_region 17 with fail
   have hbd := (Below.refl W.heap.size W).drew
   have T2 := T1.thenBelow hbd
   have k32 := k3.call hbd
   have k42 := k4.call hbd
   have kf2 := kf.call hbd
   have hk32 := hk3.call hbd
   have HD2 := HD0.call hbd
   refine wp_noPanic ?_
   refine wp_region_T (ClS (w.heap.size + 1 + 1) ⟨pg, nn, f, bk, ev, nd, 0, Sk, false⟩ (.slice q sl cq) gf Sf) [3] (by kernel_rfl) ?_
   generalize W.drew = wd at *
   have hS : ClS (w.heap.size + 1 + 1) ⟨pg, nn, f, bk, ev, nd, 0, Sk, false⟩ (.slice q sl cq) gf Sf wd := ClS.of k32 kf2
   dsimp only [ClS] at hS ⊢
   clear k3 k4 kf hk3 HD0 f4 cf T1
   refine tkQ 0 hS ?_
   try simp only [Act.put, qsA, qsB, qsC]
   refine tkQ 1 hS ?_
   try simp only [Act.put, qsA, qsB, qsC]
   have c42 := k42.cell
   have f42 := k42.frozen
   have kR9 := put9_blk k42 ⟨pg, nn, f, bk, ev, nd, 0, Sk, false⟩ (.slice q sl cq)
   have F9 := put9_far wd (w.heap.size + 3) ⟨pg, nn, f, bk, ev, nd, 0, Sk, false⟩ (.slice q sl cq)
   have k39 := F9.blk k32 (by show ¬ w.heap.size + 1 + 1 = w.heap.size + 3; omega)
   have kf9 := F9.blk kf2 (by show ¬ gf = w.heap.size + 3; omega)
   have HD9 := HD2.far F9 (fun k hk => by rw [hk]; exact ⟨_, _, k42⟩)
   have T9 := T2.fresh F9 (fun k hk => by rw [hk]; omega) (fun k hk => by rw [hk]; exact ⟨_, _, k42, by decide, by decide, by decide, by decide⟩)
   have hk9 := hk32.far F9 (fun g cs hg e => by subst e; exact k42.ne hg (by decide))
   refine tkR 2 fun K hK => ?_
   go_simp
   refine hK.out _ (put9 wd (w.heap.size + 3) ⟨pg, nn, f, bk, ev, nd, 0, Sk, false⟩ (.slice q sl cq)) (fun _ => ClS.of k39 kf9) (fun _ => ?_)
   clear hK K hS c42 f42 k32 k42 kf2 hk32 HD2
   generalize put9 wd (w.heap.size + 3) ⟨pg, nn, f, bk, ev, nd, 0, Sk, false⟩ (.slice q sl cq) = w9 at *
   try simp only [Act.put, qsA, qsB, qsC]
   refine tkV 3 ?_
   try simp only [Act.put, qsA, qsB, qsC]
   refine wpAnyT_done (by kernel_rfl) ?_ _
   refine noPanic_normal ?_
   go_wp2_with fail
   have kRM := (Far.putObj (T := fun k => k = D) (Far.refl _ w9) (fun _ => rfl) (.deferred none)).blk kR9 (fun e => not_blk (HD9 _ rfl) (fun _ _ _ h => by cases h) _ _ (e ▸ kR9))
   dsimp only [crC] at kRM
   have cRM := kRM.cell
   refine leave_mark (v := .tuple #[.agg (crC ⟨pg, nn, f, bk, ev, nd, 0, Sk, false⟩ (.slice q sl cq)), .int .i64 Sf]) (HD9 _ rfl) (by simp [results, Tryz.results21, go_sem, cRM, crC]) ?_
   have SF := HD9.soft hDw
   rw [hR9.out]
   exact ⟨_, rfl, ⟨q, cq, by rw [hsl.out], by rw [hsl.out]; exact hl3', hcm3, hk9.soft SF⟩, T9.soft (Nat.le_refl _) SF⟩
  subst hsf
  rw [if_neg (by simp)] at hR
  unfold closeT at hR
  simp only at hR
  have HS := Lib.hid (fun W h => standing_any bs SV pg f bk ev nn W h hp0 hpn)
  unfold planV at HS
  have c3 := k3.cell
  have f3 := k3.frozen
  have c1 := k1.cell
  go_upto_region 19 with fail
  have FS := Far.setCell (T := fun k => k = w.heap.size + 1 + 1) (p := ⟨w.heap.size + 1 + 1, 8, none⟩) (Far.refl _ W) (fun _ => rfl) (.bool true)
  have Tt := T1.fresh FS (fun k hk => by rw [hk]; omega) (fun k hk => by rw [hk]; exact ⟨_, _, k3, by decide, by decide, by decide, by decide⟩)
  have kt1 := k1.far (p := ⟨w.heap.size + 1 + 1, 8, none⟩) (by show w.heap.size ≠ w.heap.size + 1 + 1; omega) (.bool true)
  have kt3 : Blk (W.setCell ⟨w.heap.size + 1 + 1, 8, none⟩ (.bool true)) (w.heap.size + 2) 43 _ := k3.set_ 8 (.bool true)
  have kt4 := k4.far (p := ⟨w.heap.size + 1 + 1, 8, none⟩) (by show w.heap.size + 3 ≠ w.heap.size + 1 + 1; omega) (.bool true)
  have HDt := HD0.far FS (fun k hk => by rw [hk]; exact ⟨_, _, k3⟩)
  have hkt := hk3.far FS (fun g cs hg e => by subst e; exact k3.ne hg (by decide))
  generalize W.setCell ⟨w.heap.size + 1 + 1, 8, none⟩ (.bool true) = wt at *
  simp only [List.setIfInBounds_toArray, List.set_cons_zero, List.set_cons_succ] at kt3
  have ct1 := kt1.cell
  have ct3 := kt3.cell
  clear T1 k1 k3 k4 kf hk3 HD0 FS c1 c3 f3 cf
  obtain ⟨SL, hSL⟩ : ∃ SL, standC SV pg nn = SL := ⟨_, rfl⟩
  rw [hSL] at hR HS
  obtain ⟨P, hP⟩ : ∃ P, protL SL SV = P := ⟨_, rfl⟩
  rw [hP] at hR
  have hPh := Lib.hid hP
  have hRh := Lib.hid hR.symm
  obtain ⟨ln, hln0⟩ : ∃ ln, SL.length = ln := ⟨_, rfl⟩
  rw [hln0] at HS
  have hln := Lib.hid hln0
  clear hSL hP hR hln0
  go_wp2_with fail
  refine (HS.out _ (Tt).sys).mono ?_
  rintro e w2 ⟨A8, c8, rfl, hr8, hf8, hm8, hc8, hb2⟩
  have T2 := (Tt).thenBelow hb2
  have k12 := (kt1).call hb2
  have k32 := (kt3).call hb2
  have k42 := (kt4).call hb2
  have HD2 := (HDt).call hb2
  have hk2 := (hkt).call hb2
  have hf8' := Lib.hid (fun g o (e : A8 = some ⟨g, o, none⟩) => show ¬ g = bs by have := hf8 g o e; have := (Tt).sys.lt; omega)
  have hln8 : ln ≤ 9223372036854775807 := by unfold maxLen at hc8; omega
  clear HS hf8 hb2
  go_wp2_with fail
  go_loopw [82] (fun i wr => ∃ (k : Nat) (U : Vm), k ≤ ln ∧ i = .int .i64 k ∧ Hid (protL (SL.drop k) U = P) ∧ BothTo bs bb U SLx w wr ∧ Blk wr w.heap.size 44 #[.pointer (some ⟨bs, 0, none⟩)] ∧ Blk wr (w.heap.size + 2) 43 #[.int .i64 pg, .int .i64 nn, .int .i64 f, .int .i64 bk, .int .i64 ev, .int .i64 (nd : Int), .int .i64 0, .slice q sl cq, .bool true] ∧ Blk wr (w.heap.size + 3) 43 #[.int .i64 0, .int .i64 0, .int .i64 0, .int .i64 0, .int .i64 0, .int .i64 0, .int .i64 0, .slice none 0 0, .bool false] ∧ DfAt (some D) wr ∧ KeptAt wr q Sk ∧ RU wr wr.heap.size A8 SL) (fun i _ => ln - (intOf i).toNat)
  case atStart => exact ⟨0, SV, by omega, rfl, Lib.hid (by simpa using hPh.out), T2, k12, k32, k42, HD2, hk2, hr8⟩
  case round =>
   clear T2 k12 k32 k42 HD2 hk2 hr8 hPh
   obtain ⟨k, U, hk, rfl, hU, T3, k13, k33, k43, HD3, hk3, hr3⟩ := hrel
   have c13 := k13.cell
   have c33 := k33.cell
   by_cases hlt : k < ln
   ·have hlt' : decide ((k : Int) < (ln : Int)) = true := by simpa using hlt
    have hku : k < SL.length := by rw [hln.out]; exact hlt
    obtain ⟨b8, o8, rfl, _, hc, hd⟩ := hr3.at_' hku
    have hst : Hid (protL (SL.getD k (0, 0) :: SL.drop (k + 1)) U = P) := Lib.hid (by
     rw [← hU.out, List.drop_eq_getElem_cons hku, List.getD_eq_getElem?_getD, List.getElem?_eq_getElem hku]; rfl)
    generalize SL.getD k (0, 0) = x at *
    obtain ⟨xa, xb⟩ := x
    dsimp only at hc hd
    obtain ⟨J, hJ⟩ : ∃ J, bec U xa xb 4 3 1 = J := ⟨_, rfl⟩
    have hst2 := hst.out
    rw [protL] at hst2
    dsimp only at hst2
    rw [hJ] at hst2
    have HU := Lib.hid (fun W h => unguard_any bs xa xb U W h)
    rw [hJ] at HU
    obtain ⟨je, jV⟩ := J
    dsimp only at hst2 HU
    have hba := (Below.refl wr.heap.size wr).alloc (Nat.le_refl _) (.cells #[.int .i64 xa, .int .i64 xb] 140)
    have kX := Blk.new wr 140 #[.int .i64 xa, .int .i64 xb]
    have T4 := T3.thenBelow hba
    have k14 := k13.call hba
    have k34 := k33.call hba
    have k44 := k43.call hba
    have HD4 := HD3.call hba
    have hk4 := hk3.call hba
    have hr4 := hr3.on hba
    obtain ⟨gx, hgx⟩ : ∃ gx, wr.heap.size = gx := ⟨_, rfl⟩
    rw [hgx] at kX
    have c14 := k14.cell
    have cX := kX.cell
    clear hU hst hJ
    go_upto_region 22 with fail
    clear hc hd c13 c33
    generalize wr.alloc _ = wa at *
    go_wp2_with fail
    refine (HU.out _ T4.sys).mono ?_
    rintro e w5 ⟨rfl, h5⟩
    have S5 := BothTo.bySys T4.sys T4.bud h5
    have T5 := T4.trans S5
    have k15 := S5.blk T4.sys k14 (by decide) (by decide)
    have k35 := S5.blk T4.sys k34 (by decide) (by decide)
    have k45 := S5.blk T4.sys k44 (by decide) (by decide)
    have HD5 := HD4.both T4.sys S5
    have hk5 := S5.kept T4.sys hk4
    have hr5 := (hr4.farC h5.2 (fun g o e => hf8'.out g o e)).more h5.2.size
    have c35 := k35.cell
    have c45 := k45.cell
    have f45 := k45.frozen
    clear T3 k13 k33 k43 HD3 hk3 hr3 hba kX k14 k34 k44 HD4 hk4 hr4 c14 cX HU h5
    by_cases h3 : je = 0
    ·subst h3
     rw [if_neg (by simp)] at hst2
     have hst3 := Lib.hid hst2
     clear hst2
     go_wp2_with fail
     go_roundw
     case rel => exact ⟨k + 1, jV, by omega, by go_num, hst3, T5, k15, k35, k45, HD5, hk5, hr5⟩
     case measure => simp [intOf]; omega
    ·have h3' : (je != 0) = true := by simpa using h3
     rw [if_pos h3] at hst2
     have hR9 := Lib.hid hRh.out
     rw [← hst2, if_pos h3] at hR9
     clear hst2 h3
     go_wp2_with fail
     change bodyPostM _ _ _ _ _ _ _ (put9 w5 (w.heap.size + 3) ⟨pg, nn, f, bk, ev, (nd : Int), 0, Sk, true⟩ (.slice q sl cq))
     have kR9 := put9_blk k45 ⟨pg, nn, f, bk, ev, (nd : Int), 0, Sk, true⟩ (.slice q sl cq)
     have F9 := put9_far w5 (w.heap.size + 3) ⟨pg, nn, f, bk, ev, (nd : Int), 0, Sk, true⟩ (.slice q sl cq)
     have HD9 := HD5.far F9 (fun k hk => by rw [hk]; exact ⟨_, _, k45⟩)
     generalize put9 w5 (w.heap.size + 3) ⟨pg, nn, f, bk, ev, (nd : Int), 0, Sk, true⟩ (.slice q sl cq) = w9 at *
     have kRM := (Far.putObj (T := fun k => k = D) (Far.refl _ w9) (fun _ => rfl) (.deferred none)).blk kR9 (fun e => not_blk (HD9 _ rfl) (fun _ _ _ h => by cases h) _ _ (e ▸ kR9))
     dsimp only [crC] at kRM
     have cRM := kRM.cell
     refine leave_mark (v := .tuple #[.agg (crC ⟨pg, nn, f, bk, ev, (nd : Int), 0, Sk, true⟩ (.slice q sl cq)), .int .i64 je]) (HD9 _ rfl) (by simp [results, Tryz.results21, go_sem, cRM, crC]) ?_
     have T9 := T5.fresh F9 (fun k hk => by subst hk; omega) (fun k hk => by subst hk; exact ⟨_, _, k45, by decide, by decide, by decide, by decide⟩)
     have hk9 := hk5.far F9 (fun g cs hg e => by subst e; exact k45.ne hg (by decide))
     have SF := HD9.soft hDw
     rw [hR9.out]
     exact ⟨_, rfl, ⟨q, cq, by rw [(hsl).out], by rw [(hsl).out]; exact hl3', hcm3, hk9.soft SF⟩, T9.soft (Nat.le_refl _) SF⟩
   ·obtain rfl : k = ln := by omega
    have hlt' : decide ((k : Int) < (k : Int)) = false := by simp
    have hU2 : P = (0, U) := by rw [← hU.out, List.drop_of_length_le (by rw [hln.out]; omega)]; rfl
    have hR8 := hRh.out
    rw [hU2] at hR8
    dsimp only at hR8
    rw [if_neg (by simp)] at hR8
    have HE := Lib.hid (fun W h => release_any bs pg nn U W h)
    obtain ⟨E, hE⟩ : ∃ E, bec U pg nn 1 1 0 = E := ⟨_, rfl⟩
    rw [hE] at hR8 HE
    obtain ⟨ee, eV⟩ := E
    dsimp only at hR8 HE
    clear hU hE hU2 hRh
    go_wp2_with fail
    refine (HE.out _ T3.sys).mono ?_
    rintro e w5 ⟨rfl, h5⟩
    have S5 := BothTo.bySys T3.sys T3.bud h5
    have T5 := T3.trans S5
    have k35 := S5.blk T3.sys k33 (by decide) (by decide)
    have k45 := S5.blk T3.sys k43 (by decide) (by decide)
    have HD5 := HD3.both T3.sys S5
    have hk5 := S5.kept T3.sys hk3
    have c35 := k35.cell
    have c45 := k45.cell
    have f45 := k45.frozen
    clear T3 k13 k33 k43 HD3 hk3 hr3 c13 c33 h5 HE
    by_cases h3 : ee = 0
    ·subst h3
     rw [if_neg (by simp)] at hR8
     have hR9 := Lib.hid hR8
     clear hR8
     go_wp2_with fail
     change bodyPostM _ _ _ _ _ _ _ (put9 w5 (w.heap.size + 3) cr0 (.slice none 0 0))
     have kR9 := put9_blk k45 cr0 (.slice none 0 0)
     have F9 := put9_far w5 (w.heap.size + 3) cr0 (.slice none 0 0)
     have HD9 := HD5.far F9 (fun k hk => by rw [hk]; exact ⟨_, _, k45⟩)
     generalize put9 w5 (w.heap.size + 3) cr0 (.slice none 0 0) = w9 at *
     have kRM := (Far.putObj (T := fun k => k = D) (Far.refl _ w9) (fun _ => rfl) (.deferred none)).blk kR9 (fun e => not_blk (HD9 _ rfl) (fun _ _ _ h => by cases h) _ _ (e ▸ kR9))
     dsimp only [crC] at kRM
     have cRM := kRM.cell
     refine leave_mark (v := .tuple #[.agg (crC cr0 (.slice none 0 0)), .int .i64 0]) (HD9 _ rfl) (by simp [results, Tryz.results21, go_sem, cRM, crC]) ?_
     have T9 := T5.fresh F9 (fun k hk => by subst hk; omega) (fun k hk => by subst hk; exact ⟨_, _, k45, by decide, by decide, by decide, by decide⟩)
     have SF := HD9.soft hDw
     rw [hR9.out]
     exact ⟨_, rfl, ⟨none, 0, rfl, Nat.le_refl _, by unfold maxLen; omega, KeptAt.none _ _⟩, T9.soft (Nat.le_refl _) SF⟩
    ·have h3' : (ee != 0) = true := by simpa using h3
     rw [if_pos h3] at hR8
     have hR9 := Lib.hid hR8
     clear hR8 h3
     go_wp2_with fail
     change bodyPostM _ _ _ _ _ _ _ (put9 w5 (w.heap.size + 3) ⟨pg, nn, f, bk, ev, (nd : Int), 0, Sk, true⟩ (.slice q sl cq))
     have kR9 := put9_blk k45 ⟨pg, nn, f, bk, ev, (nd : Int), 0, Sk, true⟩ (.slice q sl cq)
     have F9 := put9_far w5 (w.heap.size + 3) ⟨pg, nn, f, bk, ev, (nd : Int), 0, Sk, true⟩ (.slice q sl cq)
     have HD9 := HD5.far F9 (fun k hk => by rw [hk]; exact ⟨_, _, k45⟩)
     generalize put9 w5 (w.heap.size + 3) ⟨pg, nn, f, bk, ev, (nd : Int), 0, Sk, true⟩ (.slice q sl cq) = w9 at *
     have kRM := (Far.putObj (T := fun k => k = D) (Far.refl _ w9) (fun _ => rfl) (.deferred none)).blk kR9 (fun e => not_blk (HD9 _ rfl) (fun _ _ _ h => by cases h) _ _ (e ▸ kR9))
     dsimp only [crC] at kRM
     have cRM := kRM.cell
     refine leave_mark (v := .tuple #[.agg (crC ⟨pg, nn, f, bk, ev, (nd : Int), 0, Sk, true⟩ (.slice q sl cq)), .int .i64 ee]) (HD9 _ rfl) (by simp [results, Tryz.results21, go_sem, cRM, crC]) ?_
     have T9 := T5.fresh F9 (fun k hk => by subst hk; omega) (fun k hk => by subst hk; exact ⟨_, _, k45, by decide, by decide, by decide, by decide⟩)
     have hk9 := hk5.far F9 (fun g cs hg e => by subst e; exact k45.ne hg (by decide))
     have SF := HD9.soft hDw
     rw [hR9.out]
     exact ⟨_, rfl, ⟨q, cq, by rw [(hsl).out], by rw [(hsl).out]; exact hl3', hcm3, hk9.soft SF⟩, T9.soft (Nat.le_refl _) SF⟩
end Go.Proofs.YtjmmgoijnhnnaaaGreat
namespace Go.Pol
open Go Go.RowKit
structure ClI (pg n : Int) (L : List Sp) (S : Vm × List Nd × List Sp × Int) : Prop where
 can : Can S.2.2.1
 pln : Plain S.1
 knd : KindK S.1 pg n L (fun k => mem k S.2.2.1)
 bok : BudOk S.2.1
 two : S.2.1.length = 2
 root : (S.2.1.getD 0 nd0).own = 0
 own : (S.2.1.getD 1 nd0).own = cmN S.1
 many : cmN S.1 = sumS S.2.2.1
theorem closeS_keep {pg n : Int} {L : List Sp} (hL : ∀ u ∈ L, 1 ≤ u.2) (hs : sumS L ≤ 1024) : ∀ (l : List RnT) (S : Vm × List Nd × List Sp × Int), (∀ x ∈ l, RunOf 0 L x) → l.Pairwise Apart → (∀ x ∈ l, ∀ k, inRn x k = true → mem k S.2.2.1 = true) → ClI pg n L S →
  ClI pg n L (l.foldl (closeS 1) S) ∧ (∀ k, mem k (l.foldl (closeS 1) S).2.2.1 = true → mem k S.2.2.1 = true) ∧ ((l.foldl (closeS 1) S).2.2.2 = 0 → S.2.2.2 = 0 ∧ ∀ k, mem k (l.foldl (closeS 1) S).2.2.1 = true → l.any (inRn · k) = false) ∧
  (l.foldl (closeS 1) S).1.rf.rules = S.1.rf.rules ∧ (S.1.rf.rules = [] → S.2.2.2 = 0 → (l.foldl (closeS 1) S).2.2.2 = 0)
 | [], S, _, _, _, hI => ⟨hI, fun _ h => h, fun h => ⟨h, fun _ _ => rfl⟩, rfl, fun _ h => h⟩
 | x :: l, S, hR, hA, hD, hI => by
  have hx := hR x (by simp)
  have hA' := List.pairwise_cons.1 hA
  have hcx := run_can hs hx
  have hDx := hD x (by simp)
  rw [List.foldl_cons]
  rcases bec_cases S.1 x.1 x.2.1 3 2 1 with ⟨g1, g2⟩ | ⟨g1, g2⟩
  ·have e : closeS 1 S x = ((bec S.1 x.1 x.2.1 3 2 1).2, S.2.1, S.2.2.1, if S.2.2.2 = 0 then (bec S.1 x.1 x.2.1 3 2 1).1 else S.2.2.2) := by unfold closeS; dsimp only; rw [if_neg g1]
   have hne : (closeS 1 S x).2.2.2 ≠ 0 := by
    rw [e]; simp only
    split
    ·exact g1
    ·assumption
   obtain ⟨h1, h2, h3, h4, h5⟩ := closeS_keep hL hs l (closeS 1 S x) (fun y hy => hR y (by simp [hy])) hA'.2 (fun y hy k hk => by rw [e]; exact hD y (by simp [hy]) k hk) (by
    rw [e]
    exact ⟨hI.can, hI.pln.pg g2, hI.knd.pg g2, hI.bok, hI.two, hI.root, by show _ = cmN (bec S.1 x.1 x.2.1 3 2 1).2; rw [cmN_pg g2]; exact hI.own, by show cmN (bec S.1 x.1 x.2.1 3 2 1).2 = _; rw [cmN_pg g2]; exact hI.many⟩)
   refine ⟨h1, fun k hk => by have := h2 k hk; rw [e] at this; exact this, fun h => absurd (h3 h).1 hne, by rw [h4, e]; exact bec_rules _ _ _ _ _ _, fun hr hf => ?_⟩
   exfalso
   refine g1 (bec_go hx.lo hx.pos hx.hi (fun p a b => ⟨?_, hI.pln.hug p⟩) (refB_none hr 3))
   rw [hI.knd.run hx a b, if_pos (hDx _ (by rw [inRn_iff]; omega))]
  ·have e : closeS 1 S x = ((bec S.1 x.1 x.2.1 3 2 1).2, (giveB S.2.1 1 x.2.1).2, commonF S.2.2.1 (gapsF [(x.2.2, x.2.1)] (0, 1024)), S.2.2.2) := by unfold closeS; dsimp only; rw [if_pos g1]
   have hm := fun k => mem_minus hI.can hcx k
   simp only [mem_rn] at hm
   have hsum := minus_sum hI.can hcx (fun k hk => by rw [mem_rn] at hk; exact hDx k hk)
   have hs1 : sumS [(x.2.2, x.2.1)] = x.2.1 := by simp [sumS]
   have hcn := can_minus hI.can hcx
   have hnn := sumS_nn (vlds_pos hcn.1)
   have hown := hI.own
   have hmany := hI.many
   have hcm := g2.cmN
   have hxp := hx.pos; have hxh := hx.nhi; have hxl := hx.nlo
   obtain ⟨_, b1, b2⟩ := giveB_own hI.two (p := x.2.1) (by omega) (by rw [hown, hmany]; omega) (by omega)
   obtain ⟨h1, h2, h3, h4, h5⟩ := closeS_keep hL hs l (closeS 1 S x) (fun y hy => hR y (by simp [hy])) hA'.2 (fun y hy k hk => by
    rw [e]
    simp only
    rw [hm, hD y (by simp [hy]) k hk, Bool.true_and, Bool.not_eq_true', Bool.eq_false_iff]
    intro hq
    exact hA'.1 y hy k hq hk) (by
    rw [e]
    refine ⟨hcn, hI.pln.to g2, (hI.knd.dec hx g2).congr hL (fun k _ _ => by simp only; rw [hm]), giveB_ok hI.bok (by rw [hI.two]; omega) _, by simp only; rw [giveB_len]; exact hI.two, by simp only; rw [b2]; exact hI.root, ?_, ?_⟩
    ·simp only
     rw [b1, hown, hcm]; simp
    ·simp only
     rw [hsum, hs1, hcm, hmany]; simp)
   refine ⟨h1, fun k hk => ?_, fun h => ?_, by rw [h4, e]; exact bec_rules _ _ _ _ _ _, fun hr hf => h5 (by rw [e]; simp only; rw [bec_rules]; exact hr) (by rw [e]; exact hf)⟩
   ·have := h2 k hk
    rw [e] at this
    simp only at this
    rw [hm, Bool.and_eq_true] at this
    exact this.1
   ·obtain ⟨a, b⟩ := h3 h
    rw [e] at a
    refine ⟨a, fun k hk => ?_⟩
    have h6 := h2 k hk
    rw [e] at h6
    simp only at h6
    rw [hm, Bool.and_eq_true] at h6
    have h7 := h6.2
    simp only [Bool.not_eq_true'] at h7
    simp only [List.any_cons, h7, b k hk, Bool.or_self]
def KindC (V : Vm) (pg n : Int) : Prop := ∀ p : Nat, if pg ≤ p ∧ (p : Int) < pg + n then kd V p = 1 ∨ kd V p = 3 else kd V p = 0
theorem KindC.pg {V W : Vm} {pg n : Int} (h : KindC V pg n) (e : W.pg = V.pg) : KindC W pg n := fun p => by rw [kd_pg e]; exact h p
theorem KindC.cm {V : Vm} {pg n : Int} (h : KindC V pg n) : cmN V = 0 := by
 unfold cmN
 refine cntN_none _ _ (fun q _ _ => ?_)
 have := h q.toNat
 simp only [beq_eq_false_iff_ne, ne_eq]
 split at this <;> omega
theorem KindK.toC {V : Vm} {pg n : Int} {L : List Sp} {K : Int → Bool} (h : KindK V pg n L K) (hL : ∀ u ∈ L, 1 ≤ u.2) (hK : ∀ k, 0 ≤ k → k < sumS L → K k = false) (hin : ∀ p, mem p L = true → pg ≤ p ∧ p < pg + n) : KindC V pg n := fun p => by
 have h1 := h p
 by_cases hm : mem (p : Int) L = true
 ·have h2 := idxF_rng L 0 p hL hm
  rw [if_pos hm, hK _ h2.1 (by omega), if_neg (by simp)] at h1
  rw [if_pos (hin _ hm)]
  exact .inl h1
 ·rw [if_neg hm] at h1
  by_cases hp : pg ≤ (p : Int) ∧ (p : Int) < pg + n
  ·rw [if_pos hp] at h1 ⊢; exact .inr h1
  ·rw [if_neg hp] at h1 ⊢; exact h1
theorem mem_stdN (V : Vm) (p k : Int) : ∀ m : Nat, mem k (stdN V p m) = true ↔ (p ≤ k ∧ k < p + m) ∧ kindC V k = 3
 | 0 => by
  rw [stdN, mem_nil]
  simp
  omega
 | m + 1 => by
  rw [stdN]
  have ih := mem_stdN V p k m
  by_cases h : kindC V (p + m) = 3
  ·rw [if_pos h, mem_append, Bool.or_eq_true, ih, mem_one]
   simp only
   constructor
   ·rintro (⟨h1, h2⟩ | h1)
    ·exact ⟨by omega, h2⟩
    ·have : k = p + m := by omega
     subst this
     exact ⟨by omega, h⟩
   ·rintro ⟨h1, h2⟩
    by_cases hk : k = p + m
    ·exact .inr (by omega)
    ·exact .inl ⟨by omega, h2⟩
  ·rw [if_neg h, ih]
   constructor
   ·rintro ⟨h1, h2⟩; exact ⟨by omega, h2⟩
   ·rintro ⟨h1, h2⟩
    have : k ≠ p + m := fun e => h (by rw [← e]; exact h2)
    exact ⟨by omega, h2⟩
theorem kindC_nat (V : Vm) (p : Nat) (hp : p < 1024) : kindC V p = kd V p := by
 unfold kindC kd
 rw [if_pos (by omega)]
 rfl
theorem protL_keep {pg n : Int} : ∀ (G : List Sp) (V : Vm), (∀ x ∈ G, vld x = true) → G.Pairwise (fun a b => a.1 + a.2 < b.1) → Plain V → KindC V pg n → (∀ p : Nat, mem (p : Int) G = true → kd V p = 3) →
  Plain (protL G V).2 ∧ KindC (protL G V).2 pg n ∧ ((protL G V).1 = 0 → ∀ p : Nat, kd (protL G V).2 p = if mem (p : Int) G = true then 1 else kd V p) ∧ (protL G V).2.rf.rules = V.rf.rules ∧ (V.rf.rules = [] → (protL G V).1 = 0)
 | [], V, _, _, hP, hC, _ => ⟨hP, hC, fun _ p => by rw [mem_nil, if_neg (by simp)]; rfl, rfl, fun _ => rfl⟩
 | x :: G, V, hv, hw, hP, hC, h3 => by
  have hx := vld_iff.1 (hv x (by simp))
  have hw' := List.pairwise_cons.1 hw
  rw [protL]
  rcases bec_cases V x.1 x.2 4 3 1 with ⟨g1, g2⟩ | ⟨g1, g2⟩
  ·rw [if_pos g1]
   refine ⟨hP.pg g2, hC.pg g2, fun h => absurd h g1, bec_rules _ _ _ _ _ _, fun hr => ?_⟩
   exfalso
   exact g1 (bec_go hx.1 hx.2.2.1 (by omega) (fun p a b => ⟨h3 p (mem_cons'.2 (.inl ⟨a, b⟩)), hP.hug p⟩) (refB_none hr 4))
  ·rw [if_neg (by rw [g1]; simp)]
   have hno : ∀ p : Nat, x.1 ≤ (p : Int) ∧ (p : Int) < x.1 + x.2 → mem (p : Int) G = false := fun p hp => by
    rw [Bool.eq_false_iff]
    intro hm
    obtain ⟨y, hy, hm⟩ := List.any_eq_true.1 hm
    have hm' : y.1 ≤ (p : Int) ∧ (p : Int) < y.1 + y.2 := by simpa using hm
    have := hw'.1 y hy
    omega
   obtain ⟨a1, a2, a3, a4, a5⟩ := protL_keep (pg := pg) (n := n) G (bec V x.1 x.2 4 3 1).2 (fun y hy => hv y (by simp [hy])) hw'.2 (hP.to g2) (fun p => by
    have h4 := hC p
    have h5 := h3 p
    rw [g2.kd p]
    by_cases hp : x.1 ≤ (p : Int) ∧ (p : Int) < x.1 + x.2
    ·rw [if_pos hp]
     have h6 := h5 (mem_cons'.2 (.inl hp))
     by_cases hq : pg ≤ (p : Int) ∧ (p : Int) < pg + n
     ·rw [if_pos hq]; exact .inl rfl
     ·rw [if_neg hq] at h4; omega
    ·rw [if_neg hp]; exact h4) (fun p hp => by
    rw [g2.kd p, if_neg (fun hq => by rw [hno p hq] at hp; cases hp)]
    exact h3 p (mem_cons'.2 (.inr hp)))
   refine ⟨a1, a2, fun he p => ?_, by rw [a4]; exact bec_rules _ _ _ _ _ _, fun hr => a5 (by rw [bec_rules]; exact hr)⟩
   rw [a3 he p, g2.kd p]
   by_cases hp : x.1 ≤ (p : Int) ∧ (p : Int) < x.1 + x.2
   ·rw [if_pos hp, if_pos (mem_cons'.2 (.inl hp))]
    split <;> rfl
   ·rw [if_neg hp]
    have e : mem (p : Int) (x :: G) = mem (p : Int) G := by
     rw [mem_cons, Bool.eq_iff_iff]; simp; omega
    rw [e]
theorem runs_inC {pg n f b ev : Int} (hp : PlanOk pg n f b ev) {q : Int} (h : mem q (runsL pg n f b ev) = true) : pg ≤ q ∧ q < pg + n := by
 have := ((runsL_ok hp).2.2 _).1 h
 have := hp.f0; have := hp.b0
 omega
theorem closeT_keep {V : Vm} {r : Cr} (hp : PlanOk r.pg r.n r.f r.bk r.ev) (hP : Plain V) (hC : KindC V r.pg r.n) :
  Plain (closeT V r).2.2 ∧ (((closeT V r).1 = r ∧ (closeT V r).2.1 ≠ 0 ∧ KindC (closeT V r).2.2 r.pg r.n) ∨ ((closeT V r).1 = cr0 ∧ (closeT V r).2.1 = 0 ∧ ∀ p, kd (closeT V r).2.2 p = 0)) ∧ (V.rf.rules = [] → (closeT V r).2.1 = 0) := by
 have h0 := hp.pg0; have h1 := hp.n0; have h2 := hp.n1
 have hG : Can (standC V r.pg r.n) := setOf_can _
 have hmG : ∀ p : Nat, mem (p : Int) (standC V r.pg r.n) = true ↔ (r.pg ≤ p ∧ (p : Int) < r.pg + r.n) ∧ kd V p = 3 := fun p => by
  unfold standC
  rw [mem_setOf (stdN_vld V h0 _ (by omega)), mem_stdN]
  constructor
  ·rintro ⟨a, b⟩
   refine ⟨by omega, ?_⟩
   rw [kindC_nat V p (by omega)] at b
   exact b
  ·rintro ⟨a, b⟩
   exact ⟨by omega, by rw [kindC_nat V p (by omega)]; exact b⟩
 obtain ⟨a1, a2, a3, a4, a5⟩ := protL_keep (pg := r.pg) (n := r.n) (standC V r.pg r.n) V hG.1 (Can.apt hG).2 hP hC (fun p hm => ((hmG p).1 hm).2)
 unfold closeT
 dsimp only
 generalize protL (standC V r.pg r.n) V = P at *
 obtain ⟨pe, pV⟩ := P
 simp only at a1 a2 a3 a4 a5 ⊢
 by_cases h3 : pe = 0
 case neg =>
  rw [if_pos h3]
  exact ⟨a1, .inl ⟨rfl, h3, a2⟩, fun hr => absurd (a5 hr) h3⟩
 rw [if_neg (by simp [h3])]
 have hk1 : ∀ p : Nat, r.pg ≤ p ∧ (p : Int) < r.pg + r.n → kd pV p = 1 := fun p hq => by
  rw [a3 h3 p]
  by_cases hm : mem (p : Int) (standC V r.pg r.n) = true
  ·rw [if_pos hm]
  ·rw [if_neg hm]
   have := hC p
   rw [if_pos hq] at this
   rcases this with h | h
   ·exact h
   ·exact absurd ((hmG p).2 ⟨hq, h⟩) hm
 rcases bec_cases pV r.pg r.n 1 1 0 with ⟨g1, g2⟩ | ⟨g1, g2⟩
 ·rw [if_pos g1]
  refine ⟨a1.pg g2, .inl ⟨rfl, g1, a2.pg g2⟩, fun hr => ?_⟩
  exfalso
  exact g1 (bec_go h0 h1 (by omega) (fun p b c => ⟨hk1 p ⟨b, c⟩, a1.hug p⟩) (refB_none (by rw [a4]; exact hr) 1))
 ·rw [if_neg (by rw [g1]; simp)]
  refine ⟨a1.to g2, .inr ⟨rfl, rfl, fun p => ?_⟩, fun _ => rfl⟩
  rw [g2.kd p]
  have := a2 p
  by_cases hq : r.pg ≤ (p : Int) ∧ (p : Int) < r.pg + r.n
  ·rw [if_pos hq]
  ·rw [if_neg hq] at this ⊢; exact this
theorem CmI.close {V : Vm} {L : List Nd} {r : Cr} (h : CmI V L r) : CmI (closeC V L r).2.2.1 (closeC V L r).2.2.2 (closeC V L r).1 ∧ (V.rf.rules = [] → CrOk r → (closeC V L r).2.1 = 0 ∧ (closeC V L r).1 = cr0) := by
 unfold closeC
 by_cases h1 : chkCm r ≠ 0
 ·rw [if_pos h1]; exact ⟨h, fun _ ho => absurd (chkCm_zero.2 ho) h1⟩
 rw [if_neg h1]
 have ho : CrOk r := chkCm_zero.1 (by omega)
 obtain ⟨hn, hk, hc⟩ := h.of_ok ho
 have hnd : r.node.toNat = 1 := by rw [hn]; rfl
 by_cases h2 : r.cl = true
 ·rw [if_pos h2]
  obtain ⟨e1, e2⟩ := ho.cl h2
  have hmany := h.many
  have hc0 : cmN V = 0 := by rw [hmany, e1, e2]; simp [sumS]
  obtain ⟨b1, b2, b3⟩ := closeT_keep ho.plan h.pln (hc h2)
  rcases b2 with ⟨c1, c2, c3⟩ | ⟨c1, c2, c3⟩
  ·refine ⟨?_, fun hr _ => absurd (b3 hr) c2⟩
   dsimp only
   rw [c1]
   exact ⟨b1, h.bok, h.two, h.root, by rw [c3.cm, h.own, hc0], by rw [c3.cm, ← h.many, hc0], .inr ⟨ho, hn, fun hh => absurd h2 (by rw [hh]; simp), fun _ => c3⟩⟩
  ·refine ⟨?_, fun _ _ => ⟨c2, c1⟩⟩
   dsimp only
   rw [c1]
   have hz : cmN (closeT V r).2.2 = 0 := by
    unfold cmN; exact cntN_none _ _ (fun q _ _ => by rw [c3]; rfl)
   exact ⟨b1, h.bok, h.two, h.root, by rw [hz, h.own, hc0], by rw [hz]; rfl, .inl ⟨rfl, c3⟩⟩
 rw [if_neg h2]
 have hcl : r.cl = false := by simpa using h2
 have hk := hk hcl
 have hlv0 := ho.live0
 have hlv1 := ho.live1
 have hus := ho.us1
 have hcb : Can (belC 0 r.live) := can_belC (Int.le_refl _) (by omega)
 have hma : ∀ k, mem k (setOf (r.kept ++ belC 0 r.live)) = (mem k r.kept || (decide (0 ≤ k) && decide (k < r.live))) := fun k => by rw [mem_union ho.can hcb, mem_belC]
 have hca : Can (setOf (r.kept ++ belC 0 r.live)) := setOf_can _
 have hsa : sumS (setOf (r.kept ++ belC 0 r.live)) = sumS r.kept + r.live := by
  rw [union_sum ho.can hcb (fun k a b => by have := (ho.keptIn k a).1; rw [mem_belC] at b; simp at b; omega), sum_belC hlv0]; omega
 dsimp only
 rw [hnd]
 generalize setOf (r.kept ++ belC 0 r.live) = all at *
 obtain ⟨hA1, hA2, hA3⟩ := runsC_all hca ho.plan
 have hpos := runs_pos ho.plan
 have hs24 := (runs_sum ho.plan).2
 have hrin := fun p (hm : mem p (runsL r.pg r.n r.f r.bk r.ev) = true) => runs_inC ho.plan hm
 have husL := ho.us
 obtain ⟨f1, f2, f3, f4, f5⟩ := closeS_keep (pg := r.pg) (n := r.n) hpos hs24 (runsC all 0 (runsL r.pg r.n r.f r.bk r.ev)) (V, L, all, 0) (fun x hx => (hA1 x hx).1) (apart_of hA2) (fun x hx k hk' => by rw [inRn_iff] at hk'; exact (hA1 x hx).2 k hk'.1 hk'.2)
  ⟨hca, h.pln, hk.congr hpos (fun k h0 _ => by
   unfold useC
   rw [hma]
   cases mem k r.kept <;> rw [Bool.eq_iff_iff] <;> simp <;> omega), h.bok, h.two, h.root, h.own, by show cmN V = sumS all; rw [hsa, h.many]; omega⟩
 generalize hXS : runsC all 0 (runsL r.pg r.n r.f r.bk r.ev) = XS at *
 generalize XS.foldl (closeS 1) (V, L, all, 0) = S at *
 obtain ⟨sV, sL, sk, sf⟩ := S
 simp only at f2 f3 f4 f5 ⊢
 have g1 := f1.can; have g2 := f1.pln; have g3 := f1.knd; have g4 := f1.bok; have g5 := f1.two; have g6 := f1.root; have g7 := f1.own; have g8 := f1.many
 simp only at g1 g2 g3 g4 g5 g6 g7 g8
 have hski : ∀ k, mem k sk = true → 0 ≤ k ∧ k < usC r := fun k hk' => by
  have := f2 k hk'
  rw [hma, Bool.or_eq_true] at this
  rcases this with h3 | h3
  ·have := ho.keptIn k h3; omega
  ·simp at h3; omega
 by_cases h3 : sf = 0
 case neg =>
  rw [if_pos h3]
  refine ⟨⟨g2, g4, g5, g6, g7, by show cmN sV = 0 + sumS sk; rw [g8]; omega, .inr ⟨⟨ho.plan, Int.le_refl _, by show 0 ≤ usC r; omega, ho.node, g1, fun hh => absurd hh h2, can_low g1 hski⟩, hn, fun _ => g3.congr hpos (fun k h4 _ => by
   unfold useC
   simp only
   cases mem k sk <;> rw [Bool.eq_iff_iff] <;> simp <;> omega), fun hh => absurd hh h2⟩⟩, fun hr _ => absurd (f5 hr trivial) h3⟩
 rw [if_neg (by simp [h3])]
 have hsk : sk = [] := by
  refine g1.eq ⟨fun x hx => (by cases hx), rfl⟩ (fun k => ?_)
  rw [mem_nil, Bool.eq_false_iff]
  intro hk'
  obtain ⟨x, hx, hxk⟩ := hA3 k (f2 k hk') (by rw [← husL]; exact (hski k hk').2)
  have := (f3 h3).2 k hk'
  rw [List.any_eq_false] at this
  exact this x hx (inRn_iff.2 hxk)
 subst hsk
 have hC : KindC sV r.pg r.n := g3.toC hpos (fun k _ _ => by rw [mem_nil]) hrin
 obtain ⟨b1, b2, b3⟩ := closeT_keep (r := { r with live := 0, kept := [], cl := true }) ho.plan g2 hC
 generalize closeT sV { r with live := 0, kept := [], cl := true } = T at *
 obtain ⟨tr, te, tV⟩ := T
 simp only at b1 b2 b3 ⊢
 have hc0 : cmN sV = 0 := hC.cm
 rcases b2 with ⟨rfl, c2, c3⟩ | ⟨rfl, c2, c3⟩
 ·refine ⟨⟨b1, g4, g5, g6, by rw [KindC.cm c3, g7, hc0], by rw [KindC.cm c3]; rfl, .inr ⟨⟨ho.plan, Int.le_refl _, by show 0 ≤ usC r; omega, ho.node, ⟨fun x hx => (by cases hx), rfl⟩, fun _ => ⟨rfl, rfl⟩, fun x hx => (by cases hx)⟩, hn, fun hh => (by cases hh), fun _ => c3⟩⟩, fun hr _ => absurd (b3 (by rw [f4]; exact hr)) c2⟩
 ·have hz : cmN tV = 0 := by
   unfold cmN; exact cntN_none _ _ (fun q _ _ => by rw [c3]; rfl)
  exact ⟨⟨b1, g4, g5, g6, by rw [hz, g7, hc0], by rw [hz]; rfl, .inl ⟨rfl, c3⟩⟩, fun _ _ => ⟨c2, rfl⟩⟩
theorem CmI.kd {V W : Vm} {L : List Nd} {r : Cr} (h : CmI V L r) (hP : Plain W) (hk : ∀ p, kd W p = kd V p) : CmI W L r := by
 have hcm : cmN W = cmN V := by unfold cmN; exact cntN_congr _ _ (fun q _ _ => by rw [hk])
 refine ⟨hP, h.bok, h.two, h.root, by rw [hcm]; exact h.own, by rw [hcm]; exact h.many, ?_⟩
 rcases h.st with ⟨h1, h2⟩ | ⟨h1, h2, h3, h4⟩
 ·exact .inl ⟨h1, fun p => by rw [hk]; exact h2 p⟩
 ·exact .inr ⟨h1, h2, fun hc p => by rw [hk]; exact h3 hc p, fun hc p => by rw [hk]; exact h4 hc p⟩
theorem undo_plain : ∀ (d : List Sp) (S : List Sp × Vm), Plain S.2 → Plain (d.foldl undoStep S).2
 | [], _, h => h
 | x :: d, S, h => undo_plain d (undoStep S x) (h.bec _ _ _ _ _)
theorem plcL_plain (G : List Sp) : ∀ (r d : List Sp) (V : Vm), Plain V → Plain (plcL G d r V).2.2
 | [], _, _, h => h
 | x :: r, d, V, h => by
  rw [plcL]
  split
  ·exact plcL_plain G r (x :: d) _ (h.bec _ _ _ _ _)
  ·exact undo_plain d ([], _) (h.bec _ _ _ _ _)
theorem placeG_plain {V : Vm} (h : Plain V) (ck : Int) (G : List Sp) : Plain (placeG V ck G).2.2 := by
 unfold placeG
 split
 ·exact plcL_plain G G [] V h
 ·exact h
theorem CmI.open {V : Vm} {L : List Nd} {pg n f bk ev : Int} {G : List Sp} (hP : Plain V) (h0 : ∀ p, Go.Pol.kd V p = 0) (hL : BudOk L) (h2 : L.length = 2) (hr : (L.getD 0 nd0).own = 0) (h1 : (L.getD 1 nd0).own = 0)
  (ho : CrOk ⟨pg, n, f, bk, ev, 1, 0, [], false⟩) (hG : Can G ∧ ∀ q, mem q G = true ↔ (pg ≤ q ∧ q < pg + n) ∧ mem q (runsL pg n f bk ev) = false) (hb : (bec V pg n 0 0 1).1 = 0) (hp : (placeG (bec V pg n 0 0 1).2 0 G).2.1 = 0) :
  CmI (placeG (bec V pg n 0 0 1).2 0 G).2.2 L ⟨pg, n, f, bk, ev, 1, 0, [], false⟩ := by
 have hpl := placeG_plain (hP.bec pg n 0 0 1) 0 G
 obtain ⟨a1, a2, a3, a4⟩ := place_law (bec V pg n 0 0 1).2 0 G (fun _ => hG.1)
 obtain ⟨_, e⟩ := a4 hp
 rw [e] at a2
 rcases bec_cases V pg n 0 0 1 with ⟨g1, _⟩ | ⟨_, g2⟩
 ·exact absurd hb g1
 have hk : ∀ p : Nat, Go.Pol.kd (placeG (bec V pg n 0 0 1).2 0 G).2.2 p = if mem (p : Int) (runsL pg n f bk ev) = true then 1 else if pg ≤ p ∧ (p : Int) < pg + n then 3 else 0 := fun p => by
  rw [a2 p, g2.kd p, h0 p]
  by_cases hm : mem (p : Int) (runsL pg n f bk ev) = true
  ·have hin := runs_inC ho.plan hm
   rw [if_neg (fun hh => by have := ((hG.2 p).1 hh).2; rw [hm] at this; cases this), if_pos hin, if_pos hm]
  ·have hm' : mem (p : Int) (runsL pg n f bk ev) = false := by simpa using hm
   rw [if_neg hm]
   by_cases hin : pg ≤ (p : Int) ∧ (p : Int) < pg + n
   ·rw [if_pos ((hG.2 p).2 ⟨hin, hm'⟩), if_pos hin]
   ·rw [if_neg (fun hh => hin ((hG.2 p).1 hh).1), if_neg hin, if_neg hin]
 generalize (placeG (bec V pg n 0 0 1).2 0 G).2.2 = W at *
 have hz : cmN W = 0 := by
  unfold cmN
  refine cntN_none _ _ (fun q _ _ => ?_)
  simp only [hk, beq_eq_false_iff_ne, ne_eq]
  split
  ·decide
  ·split <;> decide
 refine ⟨hpl, hL, h2, hr, by rw [h1, hz], by rw [hz]; rfl, .inr ⟨ho, rfl, fun _ => ?_, fun hc => (by cases hc)⟩⟩
 intro p
 rw [hk p]
 by_cases hm : mem (p : Int) (runsL pg n f bk ev) = true
 ·rw [if_pos hm, if_pos hm, if_neg]
  have := (idxF_rng (runsL pg n f bk ev) 0 p (runs_pos ho.plan) hm).1
  show ¬ ((decide ((idxF (p : Int) 0 (runsL pg n f bk ev)).1 < 0) || false) = true)
  simp
  omega
 ·rw [if_neg hm, if_neg hm]
theorem KindOk.becN {V : Vm} (h : KindOk V) (tk : Int) {a n : Int} {call : Nat} {fr : Int} (ht : 0 ≤ tk ∧ tk ≤ 3 := by omega) : KindOk (Go.Pol.bec V a n call fr tk).2 := fun p hp => by
 have h0 := h p hp
 rcases bec_cases V a n call fr tk with ⟨_, k⟩ | ⟨_, k⟩
 ·rw [k]; exact h0
 ·rw [k.pg p]
  split
  ·exact ht
  ·exact h0
theorem KindOk.comL : ∀ (XS d : List RnT) (V : Vm), KindOk V → KindOk (comL XS d V).2.1
 | [], _, _, h => h
 | x :: r, d, V, h => by
  rw [Go.Pol.comL]
  split
  ·exact (h.becN 2)
  ·exact KindOk.comL r _ _ (h.becN 2)
theorem KindOk.undo : ∀ (l : List RnT) (S : Vm × List Sp × Int), KindOk S.1 → KindOk (l.foldl undoC S).1
 | [], _, h => h
 | x :: l, S, h => by
  refine KindOk.undo l (undoC S x) ?_
  unfold undoC
  dsimp only
  split <;> exact (h.becN 1)
theorem KindOk.grow {V : Vm} (h : KindOk V) (L : List Nd) (r : Cr) (tt : Int) : KindOk (growC V L r tt).2.2.1 := by
 unfold growC
 split
 ·exact h
 ·split
  ·exact h
  ·split
   ·exact h
   ·dsimp only
    split
    ·exact h
    ·split
     ·exact KindOk.comL _ _ _ h
     ·exact KindOk.undo _ _ (KindOk.comL _ _ _ h)
theorem growC_node (V : Vm) (L : List Nd) (r : Cr) (tt : Int) : (growC V L r tt).1.node = r.node := by
 unfold growC
 split
 ·rfl
 ·split
  ·rfl
  ·split
   ·rfl
   ·dsimp only
    split
    ·rfl
    ·split <;> rfl
theorem shrinkC_node (r : Cr) (tt : Int) : (shrinkC r tt).1.node = r.node := by
 unfold shrinkC
 split
 ·rfl
 ·split
  ·rfl
  ·split <;> rfl
theorem BudOk.growC {L : List Nd} (h : BudOk L) (V : Vm) (r : Cr) (tt : Int) (hn : r.node.toNat < L.length) : BudOk (growC V L r tt).2.2.2 ∧ (growC V L r tt).2.2.2.length = L.length := by
 unfold Go.Pol.growC
 split
 ·exact ⟨h, rfl⟩
 ·split
  ·exact ⟨h, rfl⟩
  ·split
   ·exact ⟨h, rfl⟩
   ·have h1 := chargeB_ok h hn (sumS (commonF (belC r.live tt) (gapsF r.kept (0, 1024))))
    have h2 := chargeB_len L r.node.toNat (sumS (commonF (belC r.live tt) (gapsF r.kept (0, 1024))))
    dsimp only
    split
    ·exact ⟨h1, h2⟩
    ·split
     ·exact ⟨h1, h2⟩
     ·exact ⟨giveB_ok h1 (by rw [h2]; exact hn) _, by rw [giveB_len, h2]⟩
theorem KindOk.closeS (n : Nat) : ∀ (l : List RnT) (S : Vm × List Nd × List Sp × Int), KindOk S.1 → BudOk S.2.1 → n < S.2.1.length → KindOk (l.foldl (closeS n) S).1 ∧ BudOk (l.foldl (closeS n) S).2.1 ∧ (l.foldl (closeS n) S).2.1.length = S.2.1.length
 | [], _, h, h2, _ => ⟨h, h2, rfl⟩
 | x :: l, S, h, h2, h3 => by
  have e : KindOk (Go.Pol.closeS n S x).1 ∧ BudOk (Go.Pol.closeS n S x).2.1 ∧ (Go.Pol.closeS n S x).2.1.length = S.2.1.length := by
   unfold Go.Pol.closeS
   dsimp only
   split
   ·exact ⟨(h.becN 1), giveB_ok h2 h3 _, giveB_len _ _ _⟩
   ·exact ⟨(h.becN 1), h2, rfl⟩
  obtain ⟨a, b, c⟩ := KindOk.closeS n l (Go.Pol.closeS n S x) e.1 e.2.1 (by rw [e.2.2]; exact h3)
  exact ⟨a, b, c.trans e.2.2⟩
theorem KindOk.protL : ∀ (G : List Sp) (V : Vm), KindOk V → KindOk (protL G V).2
 | [], _, h => h
 | x :: G, V, h => by
  rw [Go.Pol.protL]
  split
  ·exact (h.becN 1)
  ·exact KindOk.protL G _ (h.becN 1)
theorem KindOk.closeT {V : Vm} (h : KindOk V) (r : Cr) : KindOk (closeT V r).2.2 := by
 unfold Go.Pol.closeT
 dsimp only
 split
 ·exact KindOk.protL _ _ h
 ·split <;> exact ((KindOk.protL _ _ h).becN 0)
theorem KindOk.close {V : Vm} {L : List Nd} (h : KindOk V) (hL : BudOk L) (r : Cr) (hn : r.node.toNat < L.length) : KindOk (closeC V L r).2.2.1 ∧ BudOk (closeC V L r).2.2.2 ∧ (closeC V L r).2.2.2.length = L.length := by
 unfold closeC
 split
 ·exact ⟨h, hL, rfl⟩
 ·split
  ·exact ⟨KindOk.closeT h r, hL, rfl⟩
  ·obtain ⟨a, b, c⟩ := KindOk.closeS r.node.toNat (runsC (setOf (r.kept ++ belC 0 r.live)) 0 (runsL r.pg r.n r.f r.bk r.ev)) (V, L, setOf (r.kept ++ belC 0 r.live), 0) h hL hn
   dsimp only
   split
   ·exact ⟨a, b, c⟩
   ·exact ⟨KindOk.closeT a _, b, c⟩
theorem KindOk.plcL (G : List Sp) : ∀ (r d : List Sp) (V : Vm), KindOk V → KindOk (plcL G d r V).2.2
 | [], _, _, h => h
 | x :: r, d, V, h => by
  rw [Go.Pol.plcL]
  split
  ·exact KindOk.plcL G r (x :: d) _ (h.becN 3)
  ·have hu : ∀ (d : List Sp) (S : List Sp × Vm), KindOk S.2 → KindOk (d.foldl undoStep S).2 := fun d => by
    induction d with
    | nil => exact fun _ h => h
    | cons x d ih => exact fun S h => ih (undoStep S x) (h.becN 1)
   exact hu d ([], _) (h.becN 3)
theorem KindOk.placeG {V : Vm} (h : KindOk V) (ck : Int) (G : List Sp) : KindOk (placeG V ck G).2.2 := by
 unfold Go.Pol.placeG
 split
 ·exact KindOk.plcL G G [] V h
 ·exact h
theorem newVm_kind : KindOk newVm := fun _ _ => by show (0 : Int) ≤ 0 ∧ (0 : Int) ≤ 3; omega
end Go.Pol
namespace Go.Proofs.YtjmmgoijnhnnaaaGreat
open Go Go.Proofs Go.RowKit Go.Pol Go.Shelf
def sh0 : Cr × Int × Vm := openC newVm 0 8 1 1 0 0
def sh1 : Cr × Int × Vm × List Nd := growC sh0.2.2 (newB 5) sh0.1 3
def sh2 : Cr × Int × Vm × List Nd := growC sh1.2.2.1 sh1.2.2.2 sh1.1 6
def sh3 : Cr × Int := shrinkC sh1.1 1
def sh4 : Cr × Int × Vm × List Nd := growC sh2.2.2.1 sh2.2.2.2 sh3.1 2
def sh5 : Cr × Int × Vm × List Nd := purgeC sh4.2.2.1 sh4.2.2.2 sh4.1 2
def sh6 : Cr × Int × Vm × List Nd := purgeC sh5.2.2.1 sh5.2.2.2 sh5.1 2
def sh7 : Cr × Int × Vm × List Nd := closeC sh6.2.2.1 sh6.2.2.2 sh5.1
set_option maxRecDepth 100000 in
theorem shN : sh0.1.node = 0 := by decide +kernel
set_option maxRecDepth 100000 in
theorem shE : sh7.1.pg = 0 ∧ sh7.1.n = 0 ∧ sh7.1.f = 0 ∧ sh7.1.bk = 0 ∧ sh7.1.ev = 0 ∧ sh7.1.node = 0 ∧ sh7.1.live = 0 ∧ sh7.1.kept.length = 0 ∧ sh7.1.cl = false := by decide +kernel
set_option maxRecDepth 100000 in
theorem shA : sh0.2.1 = 0 ∧ sh1.2.1 = 0 ∧ sh1.1.live = 3 ∧ sh2.2.1 = 5 ∧ sh3.2 = 0 := by decide +kernel
set_option maxRecDepth 100000 in
theorem shB : sh4.2.1 = 0 ∧ sh5.2.1 = 0 ∧ sh6.2.1 = 4 ∧ (sh6.2.2.2.getD 0 nd0).own = 2 ∧ sh5.1.live = 2 ∧ sh5.1.kept.length = 0 := by decide +kernel
set_option maxRecDepth 100000 in
theorem shC : numsV sh6.2.2.1 1024 2 = 2 ∧ numsV sh6.2.2.1 1024 3 = 2 := by decide +kernel
set_option maxRecDepth 100000 in
theorem shD : sh7.2.1 = 0 ∧ (sh7.2.2.2.getD 0 nd0).own = 0 ∧ numsV sh7.2.2.1 1024 0 = 1024 := by decide +kernel
theorem sh7_cr0 : sh7.1 = cr0 := by
 obtain ⟨h1, h2, h3, h4, h5, h6, h7, h8, h9⟩ := shE
 generalize sh7.1 = r at *
 obtain ⟨pg, n, f, bk, ev, node, live, K, cl⟩ := r
 simp only at h1 h2 h3 h4 h5 h6 h7 h8 h9
 rw [h1, h2, h3, h4, h5, h6, h7, List.eq_nil_of_length_eq_zero h8, h9]
 rfl
theorem purgeC_keep {V : Vm} {L : List Nd} {r : Cr} (k : Int) (hV : KindOk V) (hL : BudOk L) (hn : r.node.toNat < L.length) : KindOk (purgeC V L r k).2.2.1 ∧ BudOk (purgeC V L r k).2.2.2 ∧ (purgeC V L r k).2.2.2.length = L.length ∧ (purgeC V L r k).1.node = r.node := by
 unfold purgeC
 split
 ·exact ⟨hV, hL, rfl, rfl⟩
 ·split
  ·exact ⟨hV, hL, rfl, rfl⟩
  ·dsimp only
   split
   ·exact ⟨hV.becN 1, hL, rfl, rfl⟩
   ·exact ⟨hV.becN 1, giveB_ok hL hn _, giveB_len _ _ _, rfl⟩
theorem openC_kind {V : Vm} (hV : KindOk V) (pg n f bk ev node : Int) : KindOk (openC V pg n f bk ev node).2.2 := by
 unfold openC
 dsimp only
 split
 ·exact hV
 ·split
  ·exact hV.becN 1
  ·split
   ·exact (hV.becN 1).placeG _ _
   ·split
    ·split <;> exact ((hV.becN 1).placeG _ _).becN 0
    ·exact (hV.becN 1).placeG _ _
structure ShOk (V : Vm) (L : List Nd) (r : Cr) : Prop where
 knd : KindOk V
 bok : BudOk L
 len : L.length = 1
 node : r.node = 0
theorem ShOk.hn {V : Vm} {L : List Nd} {r : Cr} (h : ShOk V L r) : r.node.toNat < L.length := by rw [h.node, h.len]; decide
theorem ShOk.grow {V : Vm} {L : List Nd} {r : Cr} (h : ShOk V L r) (t : Int) : ShOk (growC V L r t).2.2.1 (growC V L r t).2.2.2 (growC V L r t).1 :=
 ⟨h.knd.grow L r t, (h.bok.growC V r t h.hn).1, (h.bok.growC V r t h.hn).2.trans h.len, (growC_node V L r t).trans h.node⟩
theorem ShOk.purge {V : Vm} {L : List Nd} {r : Cr} (h : ShOk V L r) (t : Int) : ShOk (purgeC V L r t).2.2.1 (purgeC V L r t).2.2.2 (purgeC V L r t).1 := by
 obtain ⟨a, b, c, d⟩ := purgeC_keep t h.knd h.bok h.hn
 exact ⟨a, b, c.trans h.len, d.trans h.node⟩
theorem shK0 : ShOk sh0.2.2 (newB 5) sh0.1 := by
 refine ⟨?_, newB_ok (by decide), rfl, shN⟩
 unfold sh0
 exact openC_kind newVm_kind _ _ _ _ _ _
theorem shK1 : ShOk sh1.2.2.1 sh1.2.2.2 sh1.1 := by
 have h := shK0
 unfold sh1
 generalize sh0 = S at *
 exact h.grow 3
theorem shK2 : ShOk sh2.2.2.1 sh2.2.2.2 sh3.1 := by
 have h := shK1
 unfold sh2 sh3
 generalize sh1 = S at *
 have k := h.grow 6
 exact ⟨k.knd, k.bok, k.len, (shrinkC_node _ _).trans h.node⟩
theorem shK4 : ShOk sh4.2.2.1 sh4.2.2.2 sh4.1 := by
 have h := shK2
 unfold sh4
 generalize sh2 = S at *
 generalize sh3 = R at *
 exact h.grow 2
theorem shK5 : ShOk sh5.2.2.1 sh5.2.2.2 sh5.1 := by
 have h := shK4
 unfold sh5
 generalize sh4 = S at *
 exact h.purge 2
theorem shK6 : ShOk sh6.2.2.1 sh6.2.2.2 sh5.1 := by
 have h := shK5
 unfold sh6
 generalize sh5 = S at *
 have k := h.purge 2
 exact ⟨k.knd, k.bok, k.len, h.node⟩
theorem shK7 : KindOk sh7.2.2.1 ∧ BudOk sh7.2.2.2 ∧ sh7.2.2.2.length = 1 := by
 have h := shK6
 unfold sh7
 generalize sh6 = S at *
 generalize sh5 = R at *
 obtain ⟨a, b, c⟩ := h.knd.close h.bok R.1 h.hn
 exact ⟨a, b, c.trans h.len⟩
end Go.Proofs.YtjmmgoijnhnnaaaGreat
namespace Go.Proofs.YtjmmgoijnhnnaaaGreat
open Go Go.Proofs Go.RowKit Go.Pol Go.Shelf
attribute [local go_sem] Oper.semAt_some Go.Pol.wide_fn Go.Pol.wide_depth Go.Pol.wide_fn' Go.Pol.wide_depth'
def ShO (bs bb : Nat) (V : Vm) (L : List Nd) (r : Cr) (er : Int) (w : World) (e : Ending) (w' : World) : Prop := ∃ v, e = .returned (.tuple #[v, .int .i64 er]) ∧ CrV r w' v ∧ BothTo bs bb V L w w'
theorem shO0 (bs bb : Nat) (W : World) (h : SysIs W bs newVm) (hb : BudIs W bb (newB 5)) :
  Calls Tryz.prog 23 #[.pointer (some ⟨bs, 0, none⟩), planV 0 8 1 1 0, .int .i64 0] W (ShO bs bb sh0.2.2 (newB 5) sh0.1 0 W) := by
 have h1 := cmOpen_any bs newVm 0 8 1 1 0 0 W h newVm_kind
 have h2 := shA.1
 unfold sh0 at h2 ⊢
 generalize openC newVm 0 8 1 1 0 0 = S at *
 refine h1.mono ?_
 rintro e w' ⟨v, rfl, hv, ht⟩
 rw [h2]
 exact ⟨v, rfl, hv, .bySys h hb ht⟩
theorem shO1 (bs bb : Nat) (A : Option Addr) (cap : Nat) (W : World) (h : SysIs W bs sh0.2.2) (hb : BudIs W bb (newB 5)) (hcap : sh0.1.kept.length ≤ cap) (hcm : cap ≤ maxLen) (hk : KeptAt W A sh0.1.kept) :
  Calls Tryz.prog 19 #[.pointer (some ⟨bs, 0, none⟩), .pointer (some ⟨bb, 0, none⟩), .agg (crC sh0.1 (.slice A sh0.1.kept.length cap)), .int .i64 3] W (ShO bs bb sh1.2.2.1 sh1.2.2.2 sh1.1 0 W) := by
 have h2 := shA.2.1
 have hK := shK0
 unfold sh1 at h2 ⊢
 generalize sh0 = S at *
 have h1 := cmGrow_any bs bb S.2.2 (newB 5) S.1 3 A cap W h hK.knd hb hK.bok (fun _ => hK.hn) hcap hcm hk
 generalize growC S.2.2 (newB 5) S.1 3 = R at *
 refine h1.mono ?_
 rintro e w' ⟨v, rfl, hv, ht⟩
 rw [h2]
 exact ⟨v, rfl, hv, ht⟩
theorem shO2 (bs bb : Nat) (A : Option Addr) (cap : Nat) (W : World) (h : SysIs W bs sh1.2.2.1) (hb : BudIs W bb sh1.2.2.2) (hcap : sh1.1.kept.length ≤ cap) (hcm : cap ≤ maxLen) (hk : KeptAt W A sh1.1.kept) :
  Calls Tryz.prog 19 #[.pointer (some ⟨bs, 0, none⟩), .pointer (some ⟨bb, 0, none⟩), .agg (crC sh1.1 (.slice A sh1.1.kept.length cap)), .int .i64 6] W (ShO bs bb sh2.2.2.1 sh2.2.2.2 sh2.1 5 W) := by
 have h2 := shA.2.2.2.1
 have hK := shK1
 unfold sh2 at h2 ⊢
 generalize sh1 = S at *
 have h1 := cmGrow_any bs bb S.2.2.1 S.2.2.2 S.1 6 A cap W h hK.knd hb hK.bok (fun _ => hK.hn) hcap hcm hk
 generalize growC S.2.2.1 S.2.2.2 S.1 6 = R at *
 refine h1.mono ?_
 rintro e w' ⟨v, rfl, hv, ht⟩
 rw [h2]
 exact ⟨v, rfl, hv, ht⟩
theorem shO3 (A : Option Addr) (cap : Nat) (W : World) (hcap : sh1.1.kept.length ≤ cap) (hcm : cap ≤ maxLen) (hk : KeptAt W A sh1.1.kept) :
  Calls Tryz.prog 40 #[.agg (crC sh1.1 (.slice A sh1.1.kept.length cap)), .int .i64 1] W fun e w' => ∃ v, e = .returned (.tuple #[v, .int .i64 0]) ∧ CrV sh3.1 w' v ∧ Below W.heap.size W w' := by
 have h2 := shA.2.2.2.2
 unfold sh3 at h2 ⊢
 generalize sh1 = S at *
 have h1 := shrink_any S.1 1 A cap W hcap hcm hk
 generalize shrinkC S.1 1 = R at *
 rw [h2] at h1
 exact h1
theorem shO4 (bs bb : Nat) (A : Option Addr) (cap : Nat) (W : World) (h : SysIs W bs sh2.2.2.1) (hb : BudIs W bb sh2.2.2.2) (hcap : sh3.1.kept.length ≤ cap) (hcm : cap ≤ maxLen) (hk : KeptAt W A sh3.1.kept) :
  Calls Tryz.prog 19 #[.pointer (some ⟨bs, 0, none⟩), .pointer (some ⟨bb, 0, none⟩), .agg (crC sh3.1 (.slice A sh3.1.kept.length cap)), .int .i64 2] W (ShO bs bb sh4.2.2.1 sh4.2.2.2 sh4.1 0 W) := by
 have h2 := shB.1
 have hK := shK2
 unfold sh4 at h2 ⊢
 generalize sh2 = S at *
 generalize sh3 = T at *
 have h1 := cmGrow_any bs bb S.2.2.1 S.2.2.2 T.1 2 A cap W h hK.knd hb hK.bok (fun _ => hK.hn) hcap hcm hk
 generalize growC S.2.2.1 S.2.2.2 T.1 2 = R at *
 refine h1.mono ?_
 rintro e w' ⟨v, rfl, hv, ht⟩
 rw [h2]
 exact ⟨v, rfl, hv, ht⟩
theorem shO5 (bs bb : Nat) (A : Option Addr) (cap : Nat) (W : World) (h : SysIs W bs sh4.2.2.1) (hb : BudIs W bb sh4.2.2.2) (hcap : sh4.1.kept.length ≤ cap) (hcm : cap ≤ maxLen) (hk : KeptAt W A sh4.1.kept) :
  Calls Tryz.prog 20 #[.pointer (some ⟨bs, 0, none⟩), .pointer (some ⟨bb, 0, none⟩), .agg (crC sh4.1 (.slice A sh4.1.kept.length cap)), .int .i64 2] W (ShO bs bb sh5.2.2.1 sh5.2.2.2 sh5.1 0 W) := by
 have h2 := shB.2.1
 have hK := shK4
 unfold sh5 at h2 ⊢
 generalize sh4 = S at *
 have h1 := purge_any bs bb S.2.2.1 S.2.2.2 S.1 2 A cap W h hK.knd hb hK.bok (fun _ => hK.hn) hcap hcm hk (by decide) (by decide)
 generalize purgeC S.2.2.1 S.2.2.2 S.1 2 = R at *
 refine h1.mono ?_
 rintro e w' ⟨v, rfl, hv, ht⟩
 rw [h2]
 exact ⟨v, rfl, hv, ht⟩
theorem shO6 (bs bb : Nat) (A : Option Addr) (cap : Nat) (W : World) (h : SysIs W bs sh5.2.2.1) (hb : BudIs W bb sh5.2.2.2) (hcap : sh5.1.kept.length ≤ cap) (hcm : cap ≤ maxLen) (hk : KeptAt W A sh5.1.kept) :
  Calls Tryz.prog 20 #[.pointer (some ⟨bs, 0, none⟩), .pointer (some ⟨bb, 0, none⟩), .agg (crC sh5.1 (.slice A sh5.1.kept.length cap)), .int .i64 2] W (ShO bs bb sh6.2.2.1 sh6.2.2.2 sh6.1 4 W) := by
 have h2 := shB.2.2.1
 have hK := shK5
 unfold sh6 at h2 ⊢
 generalize sh5 = S at *
 have h1 := purge_any bs bb S.2.2.1 S.2.2.2 S.1 2 A cap W h hK.knd hb hK.bok (fun _ => hK.hn) hcap hcm hk (by decide) (by decide)
 generalize purgeC S.2.2.1 S.2.2.2 S.1 2 = R at *
 refine h1.mono ?_
 rintro e w' ⟨v, rfl, hv, ht⟩
 rw [h2]
 exact ⟨v, rfl, hv, ht⟩
theorem shO7 (bs bb : Nat) (A : Option Addr) (cap : Nat) (W : World) (h : SysIs W bs sh6.2.2.1) (hb : BudIs W bb sh6.2.2.2) (hcap : sh5.1.kept.length ≤ cap) (hcm : cap ≤ maxLen) (hk : KeptAt W A sh5.1.kept) :
  Calls Tryz.prog 21 #[.pointer (some ⟨bs, 0, none⟩), .pointer (some ⟨bb, 0, none⟩), .agg (crC sh5.1 (.slice A sh5.1.kept.length cap))] W (ShO bs bb sh7.2.2.1 sh7.2.2.2 cr0 0 W) := by
 have h2 := shD.1
 have h3 := sh7_cr0
 have hK := shK6
 unfold sh7 at h2 h3 ⊢
 generalize sh6 = S at *
 generalize sh5 = T at *
 have h1 := cmClose_any bs bb S.2.2.1 S.2.2.2 T.1 A cap W h hK.knd hb hK.bok (fun _ => hK.hn) hcap hcm hk
 generalize closeC S.2.2.1 S.2.2.2 T.1 = R at *
 refine h1.mono ?_
 rintro e w' ⟨v, rfl, hv, ht⟩
 rw [h2, ← h3]
 exact ⟨v, rfl, hv, ht⟩
set_option maxRecDepth 100000 in
set_option maxHeartbeats 3200000 in
theorem shown_any (w : World) : Calls Tryz.prog 11 #[] w fun e w' => e = .returned (.bool true) ∧ Below w.heap.size w w' := by
 have H0 := Lib.hid shO0
 have H1 := Lib.hid shO1
 have H2 := Lib.hid shO2
 have H3 := Lib.hid shO3
 have H4 := Lib.hid shO4
 have H5 := Lib.hid shO5
 have H6 := Lib.hid shO6
 have H7 := Lib.hid shO7
 have a3 := Lib.hid shA.2.2.1
 have b4 := Lib.hid shB.2.2.2
 have cc := Lib.hid shC
 have dd := Lib.hid shD.2
 have hK6 := shK6
 have hK7 := shK7
 have HU6 := Lib.hid (fun bb W hB => usedB_any bb 0 sh6.2.2.2 W hB hK6.bok (by rw [hK6.len]; decide))
 have HC6 := Lib.hid (fun bs W hV => countsV_any bs sh6.2.2.1 W hV hK6.knd)
 have HU7 := Lib.hid (fun bb W hB => usedB_any bb 0 sh7.2.2.2 W hB hK7.2.1 (by rw [hK7.2.2]; decide))
 have HC7 := Lib.hid (fun bs W hV => countsV_any bs sh7.2.2.1 W hV hK7.1)
 have u6 := b4.out.1
 have l5 := Lib.hid b4.out.2
 rw [u6] at HU6
 rw [dd.out.1] at HU7
 dsimp only [numsA] at HC6 HC7
 rw [cc.out.1, cc.out.2] at HC6
 rw [dd.out.2] at HC7
 clear u6 b4 cc dd hK6 hK7
 generalize sh0 = S0 at *
 generalize sh1 = S1 at *
 generalize sh2 = S2 at *
 generalize sh3 = S3 at *
 generalize sh4 = S4 at *
 generalize sh5 = S5 at *
 generalize sh6 = S6 at *
 generalize sh7 = S7 at *
 go_enter Tryz.func11, Tryz.ntmps11
 go_wp2_with fail
 refine (new_any _).mono ?_
 rintro e w1 ⟨bs, rfl, hV1, hbs, hb1⟩
 go_wp2_with fail
 refine (newB_any 5 w1).mono ?_
 rintro e w2 ⟨he, hb2⟩
 rw [if_neg (by decide)] at he
 obtain ⟨bb, rfl, hbb, hB2⟩ := he
 have hV2 := hV1.call hb2
 go_wp2_with fail
 refine (plan12_any w2).mono ?_
 rintro e w3 ⟨rfl, hb3⟩
 have hV3 := hV2.call hb3
 have hB3 := hB2.call hb3
 have B3 := (hb1.trans (hb2.mono hb1.size)).trans (hb3.mono (hb1.trans (hb2.mono hb1.size)).size)
 clear hV1 hV2 hB2
 go_wp2_with fail
 refine (H0.out bs bb w3 hV3 hB3).mono ?_
 rintro e w4 ⟨v4, rfl, ⟨A5, c5, rfl, hl5, hm5, hk4⟩, T4⟩
 dsimp only [crC]
 go_upto_region 4 with fail
 have kx5 := Blk.new w4 43 (crC S0.1 (.slice A5 S0.1.kept.length c5))
 have hba := (Below.refl w4.heap.size w4).alloc (Nat.le_refl _) (.cells (crC S0.1 (.slice A5 S0.1.kept.length c5)) 43)
 have T5 := T4.thenBelow hba
 have hk5 := hk4.call hba
 have hg3 := T4.size
 change Code.wp _ _ _ _ (w4.alloc (.cells (crC S0.1 (.slice A5 S0.1.kept.length c5)) 43))
 obtain ⟨g, hg⟩ : ∃ g, w4.heap.size = g := ⟨_, rfl⟩
 rw [hg] at kx5 hg3
 try simp only [hg]
 generalize w4.alloc (.cells (crC S0.1 (.slice A5 S0.1.kept.length c5)) 43) = w5 at *
 have hz1 := hb1.size
 have hz2 := hb2.size
 clear T4 hk4 hba H0 hb1 hb2 hb3 hV3 hB3
 try dsimp only [crC] at kx5
 have cx5 := kx5.cell
 go_wp2_with fail
 refine ((H1).out bs bb A5 c5 w5 T5.sys T5.bud hl5 hm5 hk5).mono ?_
 rintro e wx6 ⟨v6, rfl, ⟨A6, c6, rfl, hl6, hm6, hkx6⟩, s6⟩
 dsimp only [crC]
 have ky6 := s6.blk T5.sys kx5 (by decide) (by decide)
 have Ty6 := T5.trans s6
 have cy6 := ky6.cell
 have fy6 := ky6.frozen
 clear cx5
 go_upto_region 5 with fail
 change Code.wp _ _ _ _ (put9 wx6 g S1.1 (.slice A6 (S1.1).kept.length c6))
 have kx6 := put9_blk ky6 S1.1 (.slice A6 (S1.1).kept.length c6)
 have FN6 := put9_far wx6 g S1.1 (.slice A6 (S1.1).kept.length c6)
 have T6 := Ty6.fresh FN6 (fun k hk => by rw [hk]; exact hg3) (fun k hk => by rw [hk]; exact ⟨_, _, ky6, by decide, by decide, by decide, by decide⟩)
 have hk6 := hkx6.far FN6 (fun g' cs hG e => by have e : g' = g := e; rw [e] at hG; exact ky6.ne hG (by decide))
 generalize put9 wx6 g S1.1 (.slice A6 (S1.1).kept.length c6) = w6 at *
 clear kx5 hk5 s6 ky6 Ty6 cy6 fy6 FN6 hkx6
 have d3 : (S1.1.live != 3) = false := by rw [a3.out]; rfl
 dsimp only [crC] at kx6
 have cx6 := kx6.cell
 go_upto_region 7 with fail
 clear cx6 d3
 try dsimp only [crC] at kx6
 have cx6 := kx6.cell
 go_wp2_with fail
 refine ((H2).out bs bb A6 c6 w6 T6.sys T6.bud hl6 hm6 hk6).mono ?_
 rintro e wx7 ⟨v7, rfl, ⟨A7, c7, rfl, hl7, hm7, hkx7⟩, s7⟩
 dsimp only [crC]
 have ky7 := s7.blk T6.sys kx6 (by decide) (by decide)
 have Ty7 := T6.trans s7
 have cy7 := ky7.cell
 have fy7 := ky7.frozen
 clear cx6
 go_upto_region 8 with fail
 have kx7 := ky7
 have hk7 := s7.kept T6.sys hk6
 have cx7 := kx7.cell
 clear kx6 hk6 s7 ky7 cy7 fy7 hkx7
 go_wp2_with fail
 refine (H3.out A6 c6 wx7 hl6 hm6 hk7).mono ?_
 rintro e wx8 ⟨v8, rfl, ⟨A8, c8, rfl, hl8, hm8, hkx8⟩, s8⟩
 dsimp only [crC]
 have ky8 := kx7.call s8
 have Ty8 := Ty7.thenBelow s8
 have cy8 := ky8.cell
 have fy8 := ky8.frozen
 clear cx7
 go_upto_region 9 with fail
 change Code.wp _ _ _ _ (put9 wx8 g S3.1 (.slice A8 (S3.1).kept.length c8))
 have kx8 := put9_blk ky8 S3.1 (.slice A8 (S3.1).kept.length c8)
 have FN8 := put9_far wx8 g S3.1 (.slice A8 (S3.1).kept.length c8)
 have T8 := Ty8.fresh FN8 (fun k hk => by rw [hk]; exact hg3) (fun k hk => by rw [hk]; exact ⟨_, _, ky8, by decide, by decide, by decide, by decide⟩)
 have hk8 := hkx8.far FN8 (fun g' cs hG e => by have e : g' = g := e; rw [e] at hG; exact ky8.ne hG (by decide))
 generalize put9 wx8 g S3.1 (.slice A8 (S3.1).kept.length c8) = w8 at *
 clear kx7 hk7 s8 ky8 Ty8 cy8 fy8 FN8 hkx8
 try dsimp only [crC] at kx8
 have cx8 := kx8.cell
 go_wp2_with fail
 refine ((H4).out bs bb A8 c8 w8 T8.sys T8.bud hl8 hm8 hk8).mono ?_
 rintro e wx9 ⟨v9, rfl, ⟨A9, c9, rfl, hl9, hm9, hkx9⟩, s9⟩
 dsimp only [crC]
 have ky9 := s9.blk T8.sys kx8 (by decide) (by decide)
 have Ty9 := T8.trans s9
 have cy9 := ky9.cell
 have fy9 := ky9.frozen
 clear cx8
 go_upto_region 10 with fail
 change Code.wp _ _ _ _ (put9 wx9 g S4.1 (.slice A9 (S4.1).kept.length c9))
 have kx9 := put9_blk ky9 S4.1 (.slice A9 (S4.1).kept.length c9)
 have FN9 := put9_far wx9 g S4.1 (.slice A9 (S4.1).kept.length c9)
 have T9 := Ty9.fresh FN9 (fun k hk => by rw [hk]; exact hg3) (fun k hk => by rw [hk]; exact ⟨_, _, ky9, by decide, by decide, by decide, by decide⟩)
 have hk9 := hkx9.far FN9 (fun g' cs hG e => by have e : g' = g := e; rw [e] at hG; exact ky9.ne hG (by decide))
 generalize put9 wx9 g S4.1 (.slice A9 (S4.1).kept.length c9) = w9 at *
 clear kx8 hk8 s9 ky9 Ty9 cy9 fy9 FN9 hkx9
 try dsimp only [crC] at kx9
 have cx9 := kx9.cell
 go_wp2_with fail
 refine ((H5).out bs bb A9 c9 w9 T9.sys T9.bud hl9 hm9 hk9).mono ?_
 rintro e wx10 ⟨v10, rfl, ⟨A10, c10, rfl, hl10, hm10, hkx10⟩, s10⟩
 dsimp only [crC]
 have ky10 := s10.blk T9.sys kx9 (by decide) (by decide)
 have Ty10 := T9.trans s10
 have cy10 := ky10.cell
 have fy10 := ky10.frozen
 clear cx9
 go_upto_region 11 with fail
 change Code.wp _ _ _ _ (put9 wx10 g S5.1 (.slice A10 (S5.1).kept.length c10))
 have kx10 := put9_blk ky10 S5.1 (.slice A10 (S5.1).kept.length c10)
 have FN10 := put9_far wx10 g S5.1 (.slice A10 (S5.1).kept.length c10)
 have T10 := Ty10.fresh FN10 (fun k hk => by rw [hk]; exact hg3) (fun k hk => by rw [hk]; exact ⟨_, _, ky10, by decide, by decide, by decide, by decide⟩)
 have hk10 := hkx10.far FN10 (fun g' cs hG e => by have e : g' = g := e; rw [e] at hG; exact ky10.ne hG (by decide))
 generalize put9 wx10 g S5.1 (.slice A10 (S5.1).kept.length c10) = w10 at *
 clear kx9 hk9 s10 ky10 Ty10 cy10 fy10 FN10 hkx10
 try dsimp only [crC] at kx10
 have cx10 := kx10.cell
 go_wp2_with fail
 refine ((H6).out bs bb A10 c10 w10 T10.sys T10.bud hl10 hm10 hk10).mono ?_
 rintro e wx11 ⟨v11, rfl, ⟨A11, c11, rfl, hl11, hm11, hkx11⟩, s11⟩
 dsimp only [crC]
 have ky11 := s11.blk T10.sys kx10 (by decide) (by decide)
 have Ty11 := T10.trans s11
 have cy11 := ky11.cell
 have fy11 := ky11.frozen
 clear cx10
 go_upto_region 12 with fail
 have hba12 := (Below.refl wx11.heap.size wx11).alloc (Nat.le_refl _) (.cells (crC S6.1 (.slice A11 S6.1.kept.length c11)) 43)
 have T12 := Ty11.thenBelow hba12
 have kx12 := ky11.call hba12
 have hk12 := (s11.kept T10.sys hk10).call hba12
 change Code.wp _ _ _ _ (wx11.alloc (.cells (crC S6.1 (.slice A11 S6.1.kept.length c11)) 43))
 generalize wx11.alloc (.cells (crC S6.1 (.slice A11 S6.1.kept.length c11)) 43) = w12 at *
 clear kx10 hk10 s11 ky11 Ty11 cy11 fy11 hkx11 hba12 H1 H2 H3 H4 H5 H6 T5 T6 Ty7 T8 T9 T10 hl6 hm6 hl8 hm8 hl9 hm9 hl5 hm5 a3
 go_wp2_with fail
 refine (HU6.out bb w12 T12.bud).mono ?_
 rintro e w13 ⟨rfl, hb13⟩
 have T13 := T12.thenBelow hb13
 have kx13 := kx12.call hb13
 have hk13 := hk12.call hb13
 clear T12 kx12 hk12 hb13 HU6
 go_wp2_with fail
 refine (HC6.out bs w13 T13.sys).mono ?_
 rintro e w14 ⟨rfl, hb14⟩
 have T14 := T13.thenBelow hb14
 have kx14 := kx13.call hb14
 have hk14 := hk13.call hb14
 clear T13 kx13 hk13 hb14 HC6
 go_upto_region 14 with fail
 generalize numsV S6.2.2.1 1024 0 = q0 at *
 generalize numsV S6.2.2.1 1024 1 = q1 at *
 generalize numsV S6.2.2.1 1024 4 = q4 at *
 have kn := Blk.new w14 106 #[.int .i64 q0, .int .i64 q1, .int .i64 2, .int .i64 2, .int .i64 q4]
 have hba15 := (Below.refl w14.heap.size w14).alloc (Nat.le_refl _) (.cells #[.int .i64 q0, .int .i64 q1, .int .i64 2, .int .i64 2, .int .i64 q4] 106)
 have T15 := T14.thenBelow hba15
 have kx15 := kx14.call hba15
 have hk15 := hk14.call hba15
 have hgn3 := T14.size
 obtain ⟨gn, hgn⟩ : ∃ gn, w14.heap.size = gn := ⟨_, rfl⟩
 rw [hgn] at kn hgn3
 try simp only [hgn]
 generalize w14.alloc _ = w15 at *
 clear T14 kx14 hk14 hba15
 have d4 : (S5.1.live != 2) = false := by rw [l5.out.1]; rfl
 have d5 : (((S5.1.kept.length : Nat) : Int) != 0) = false := by rw [l5.out.2]; rfl
 have cx15 := kx15.cell
 have cn := kn.cell
 go_upto_region 16 with fail
 clear cx15 cn d4 d5
 have cx15 := kx15.cell
 go_wp2_with fail
 refine (H7.out bs bb A10 c10 w15 T15.sys T15.bud hl10 hm10 hk15).mono ?_
 rintro e wx16 ⟨v16, rfl, ⟨A16, c16, rfl, hl16, hm16, hkx16⟩, s16⟩
 dsimp only [crC, cr0] at hkx16 hl16 ⊢
 have ky16 := s16.blk T15.sys kx15 (by decide) (by decide)
 have kn16 := s16.blk T15.sys kn (by decide) (by decide)
 have Ty16 := T15.trans s16
 have cy16 := ky16.cell
 have fy16 := ky16.frozen
 clear cx15
 go_upto_region 17 with fail
 change Code.wp _ _ _ _ (put9 wx16 g cr0 (.slice A16 0 c16))
 have kx16 := put9_blk ky16 cr0 (.slice A16 0 c16)
 have FN16 := put9_far wx16 g cr0 (.slice A16 0 c16)
 have T16 := Ty16.fresh FN16 (fun k hk => by rw [hk]; exact hg3) (fun k hk => by rw [hk]; exact ⟨_, _, ky16, by decide, by decide, by decide, by decide⟩)
 have kn17 := FN16.blk kn16 (fun e => by have e : gn = g := e; rw [e] at kn16; exact kn16.ne ky16 (by decide))
 have hk16 := hkx16.far FN16 (fun g' cs hG e => by have e : g' = g := e; rw [e] at hG; exact ky16.ne hG (by decide))
 generalize put9 wx16 g cr0 (.slice A16 0 c16) = w16 at *
 clear kx15 hk15 s16 ky16 Ty16 cy16 fy16 FN16 hkx16 kn16 kn T15 H7
 go_wp2_with fail
 refine (HU7.out bb w16 T16.bud).mono ?_
 rintro e w17 ⟨rfl, hb17⟩
 have T17 := T16.thenBelow hb17
 have kx17 := kx16.call hb17
 have kn18 := kn17.call hb17
 have hk17 := hk16.call hb17
 clear T16 kx16 kn17 hk16 hb17 HU7
 go_wp2_with fail
 refine (HC7.out bs w17 T17.sys).mono ?_
 rintro e w18 ⟨rfl, hb18⟩
 have T18 := T17.thenBelow hb18
 have kx18 := kx17.call hb18
 have kn19 := kn18.call hb18
 have hk18 := hk17.call hb18
 clear T17 kx17 kn18 hk17 hb18 HC7
 generalize numsV S7.2.2.1 1024 1 = q21 at *
 generalize numsV S7.2.2.1 1024 2 = q22 at *
 generalize numsV S7.2.2.1 1024 3 = q23 at *
 generalize numsV S7.2.2.1 1024 4 = q24 at *
 have cn19 := kn19.cell
 have fn19 := kn19.frozen
 go_upto_region 19 with fail
 have kn20 := ((((kn19.set_ 0 (.int .i64 1024)).set_ 1 (.int .i64 q21)).set_ 2 (.int .i64 q22)).set_ 3 (.int .i64 q23)).set_ 4 (.int .i64 q24)
 have F20 : Far (fun k => k = gn) w18 (((((w18.setCell ⟨gn, 0, none⟩ (.int .i64 1024)).setCell ⟨gn, 1, none⟩ (.int .i64 q21)).setCell ⟨gn, 2, none⟩ (.int .i64 q22)).setCell ⟨gn, 3, none⟩ (.int .i64 q23)).setCell ⟨gn, 4, none⟩ (.int .i64 q24)) :=
  ((((((Far.refl (fun k => k = gn) w18).setCell (p := ⟨gn, 0, none⟩) (fun _ => rfl) _).setCell (p := ⟨gn, 1, none⟩) (fun _ => rfl) _).setCell (p := ⟨gn, 2, none⟩) (fun _ => rfl) _).setCell (p := ⟨gn, 3, none⟩) (fun _ => rfl) _).setCell (p := ⟨gn, 4, none⟩) (fun _ => rfl) _)
 have T20 := T18.fresh F20 (fun k hk => by rw [hk]; exact hgn3) (fun k hk => by rw [hk]; exact ⟨_, _, kn19, by decide, by decide, by decide, by decide⟩)
 have kx20 := F20.blk kx18 (fun e => by have e : g = gn := e; rw [e] at kx18; exact kx18.ne kn19 (by decide))
 have hk20 := hk18.far F20 (fun g' cs hG e => by have e : g' = gn := e; rw [e] at hG; exact hG.ne kn19 (by decide))
 generalize ((((w18.setCell ⟨gn, 0, none⟩ (.int .i64 1024)).setCell ⟨gn, 1, none⟩ (.int .i64 q21)).setCell ⟨gn, 2, none⟩ (.int .i64 q22)).setCell ⟨gn, 3, none⟩ (.int .i64 q23)).setCell ⟨gn, 4, none⟩ (.int .i64 q24) = w20 at *
 simp only [List.setIfInBounds_toArray, List.set_cons_zero, List.set_cons_succ] at kn20
 clear kn19 cn19 fn19 F20 kx18 hk18 T18
 dsimp only [crC, cr0] at kx20
 have cn20 := kn20.cell
 have cx20 := kx20.cell
 have HS := same12_any cr0 A16 none c16 0 w20 (by show (0 : Nat) ≤ maxLen; unfold maxLen; omega) hk20.ru RU.nil
 dsimp only [crC, cr0, List.length_nil] at HS
 go_wp2_with fail
 refine HS.mono ?_
 rintro e w21 ⟨rfl, hb21⟩
 go_wp2_with fail
 go_ret
 have T21 := T20.thenBelow hb21
 exact ⟨rfl, B3.trans (T21.far.below (by have := B3.size; omega) (fun k hk h => by
  rcases h with rfl | ⟨h, _⟩ <;> omega))⟩
end Go.Proofs.YtjmmgoijnhnnaaaGreat
namespace Go.Pol
open Go Go.RowKit Go.ChangeShapes Go.WideShapes Go.Deep
section
variable {H : Type} {enc : TypeId × Value → H} {P : Program}
theorem post_of_below {f : Func} {s : ChangeSpec} {apart fresh handsOn again : Bool} {W W' : World} {args : Array Value} {v : Value} {ds gs : List (DataW H)} {before pa pv : List MemPlace}
  (hW : DataW.Whole enc P f.params.toList s.vars apart W args.toList ds gs before)
  (hres : ∀ (b : Nat) (sp : Nat → Bool) (hd : Bool), DataW.TrodAll enc P W' b sp hd f.resultTypes.toList (v.resultList f.resultTypes.size) (s.fn H (ds ++ gs)).results [])
  (hargs : ∀ sp : Nat → Bool, (∀ p ∈ before, sp p.block = true) → DataW.TrodAll enc P W' 0 sp true f.params.toList args.toList (s.fn H (ds ++ gs)).args pa)
  (hvars : ∀ sp : Nat → Bool, (∀ p ∈ before, sp p.block = true) → DataW.TrodVars enc P W' sp s.vars (s.fn H (ds ++ gs)).vars pv)
  (hps : before = pa ++ pv) (hb : Below W.heap.size W W')
  (hok : ∀ (j : Nat) (t : TypeId) (r : Value), f.resultTypes[j]? = some t → (v.resultList f.resultTypes.size)[j]? = some r → Value.okWide P W' .any 0 t r) :
  s.post enc P f apart fresh handsOn again W args v W' := by
 have hlt : ∀ p ∈ before, p.block < W.heap.size := fun p hp => hW.lt p hp
 have hold : ∀ p ∈ before, (fun b => decide (b < W.heap.size)) p.block = true := fun p hp => by simpa using hlt p hp
 refine ⟨ds, gs, before, [], pa, pv, hW, hres _ _ _, hargs _ hold, hvars _ hold, World.keptBut_mono (fun p hp => ⟨hp, ?_⟩) (hb.frame (· ∈ before)), fun _ => ?_⟩
 ·rw [hps, List.mem_append] at hp
  exact Or.inr hp
 ·obtain ⟨_, _, _, _, _, hz, hn⟩ := hW
  refine ⟨hok, _, _, ([] ++ pa) ++ pv, ⟨[] ++ pa, pv, trodAll_append (hargs _ (fun _ _ => rfl)) (hres _ _ _), hvars _ (fun _ _ => rfl), rfl, ?_, ?_⟩, ?_⟩
  ·intro b off hp
   have hin : MemPlace.cell b off ∈ before := by rw [hps]; simpa using hp
   rw [hb.frozen (hlt _ hin)]
   exact hz b off hin
  ·intro ha
   have := hn ha
   rw [hps] at this
   simpa using this
  ·intro p hp _
   rw [hps]
   simpa using hp
end
section
variable {H : Type} {enc : TypeId × Value → H} {P : Program} {w : World} {base : Nat} {spare : Nat → Bool} {held : Bool}
theorem open_slice_fields {t e : TypeId} {fs : Array Field} {fuel : Nat} {cs : List Value} {x : DataW H × List MemPlace} (ht : P.underlying t = some (.slice e)) (he : P.underlying e = some (.struct fs))
  (hone : oneCellFields P fs = true) (hC : P.cellsOf e = fs.size) (h : DataW.trod enc P w base spare held fuel t cs = some x) :
  (cs = [.slice none 0 0] ∧ x = (.nil, [])) ∨
  ∃ (a : Addr) (len cap m : Nat) (D : Nat → DataW H) (Pl : Nat → List MemPlace), cs = [.slice (some a) len cap] ∧ base ≤ a.block ∧ len ≤ cap ∧ cap ≤ maxLen ∧ m = (if spare a.block then cap else len) ∧
   x = (.slice ((List.range len).map D) ((List.range (m - len)).map fun j => D (len + j)), MemPlace.row a (m * fs.size) ++ (List.range m).flatMap Pl) ∧
   ∀ i, i < m → ∃ (ys : List (DataW H × List MemPlace)) (n : Nat), D i = .agg (ys.map (·.1)) ∧ Pl i = ys.flatMap (·.2) ∧ ys.length = fs.size ∧
    ∀ (j : Nat) (f : Field), fs[j]? = some f → ∃ (v : Value) (y : DataW H × List MemPlace), w.cell? (a.add (i * fs.size + j)) = some v ∧ ys[j]? = some y ∧ DataW.trod enc P w base spare held n f.type [v] = some y := by
 rcases open_slice ht h with h0 | ⟨a, len, cap, m, n, D, Pl, hcs, hb, hl, hm, hmm, hx, hi⟩
 ·exact .inl h0
 ·refine .inr ⟨a, len, cap, m, D, Pl, hcs, hb, hl, hm, hmm, by rw [hC] at hx; exact hx, fun i him => ?_⟩
  obtain ⟨cs', hc, ht'⟩ := hi i him
  rw [hC] at hc
  obtain ⟨ys, n', hn', hy, hlen, hyl, hf⟩ := DataW.trod_struct he ht'
  obtain ⟨_, hcl, hat⟩ := World.cells?_some hc
  simp only [Prod.mk.injEq] at hy
  refine ⟨ys, n', hy.1, hy.2, hyl, fun j f hj => ?_⟩
  obtain ⟨ho, hk⟩ := hone_of hone j f hj
  have hjl : j < fs.size := (Array.getElem?_eq_some_iff.1 hj).1
  have hcell := hat j hjl
  have hv : cs'[j]? = some (cs'[j]'(by omega)) := List.getElem?_eq_getElem (by omega)
  have h1 := hf j f hj
  rw [ho, hk] at h1
  have hone' : (cs'.drop j).take 1 = [cs'[j]'(by omega)] := by
   rw [List.drop_eq_getElem_cons (by omega)]
   rfl
  rw [hone'] at h1
  have hys : ys[j]? = some (ys[j]'(by omega)) := List.getElem?_eq_getElem (by omega)
  refine ⟨_, _, ?_, hys, h1.trans hys⟩
  rw [← Go.Deep.add_add, hcell, hv]
end
end Go.Pol
namespace Go.Proofs.YtjmmgoijnhnnaaaGreat
open Go Go.Proofs Go.RowKit Go.Pol Go.ChangeShapes Go.WideShapes Go.Deep
theorem own_ : ownKnob Tryz.prog.godebug = none := by kernel_rfl
theorem laidOut_ : laidOutB Tryz.prog = true := by kernel_rfl
section
variable {H : Type} {enc : TypeId × Value → H} {w : World} {base b0 : Nat} {held : Bool} {r : Reach} {v : Value} {d : DataW H} {p : List MemPlace}
theorem planCells : Tryz.prog.cellsOf 25 = 5 := by kernel_rfl
theorem specCells : Tryz.prog.cellsOf 23 = 3 := by kernel_rfl
theorem intCells : Tryz.prog.cellsOf 3 = 1 := by kernel_rfl
set_option maxRecDepth 100000 in
theorem specOf {n : Nat} {cs : List Value} {x : DataW H × List MemPlace} (h : DataW.trod enc Tryz.prog w base (fun _ => true) held n 23 cs = some x) : ∃ f b ev : Int, cs = [.int .i64 f, .int .i64 b, .int .i64 ev] := by
 obtain ⟨xs, m, _, hx, hl, hlen, hg⟩ := DataW.trod_struct Tryz.underlying23 h
 rw [specCells] at hl
 match cs, hl with
 | [c0, c1, c2], _ =>
  have g0 : DataW.trod enc Tryz.prog w base (fun _ => true) held m 3 [c0] = xs[0]? := by have := hg 0 _ rfl; simpa [intCells] using this
  have g1 : DataW.trod enc Tryz.prog w base (fun _ => true) held m 3 [c1] = xs[1]? := by have := hg 1 _ rfl; simpa [intCells] using this
  have g2 : DataW.trod enc Tryz.prog w base (fun _ => true) held m 3 [c2] = xs[2]? := by have := hg 2 _ rfl; simpa [intCells] using this
  match xs, hlen with
  | [y0, y1, y2], _ =>
   obtain ⟨n0, e0, _⟩ := DataW.trod_int Tryz.underlying3 (g0.trans rfl)
   obtain ⟨n1, e1, _⟩ := DataW.trod_int Tryz.underlying3 (g1.trans rfl)
   obtain ⟨n2, e2, _⟩ := DataW.trod_int Tryz.underlying3 (g2.trans rfl)
   simp only [List.cons.injEq, and_true] at e0 e1 e2
   subst e0; subst e1; subst e2
   exact ⟨n0, n1, n2, rfl⟩
end
section
variable {H : Type} {enc : TypeId × Value → H} {w : World} {base b0 : Nat} {held : Bool} {r : Reach} {v : Value} {d : DataW H} {p : List MemPlace}
set_option maxRecDepth 100000 in
theorem planOf {n : Nat} {cs : List Value} {x : DataW H × List MemPlace} (h : DataW.trod enc Tryz.prog w base (fun _ => true) held n 25 cs = some x) : ∃ pg n f b ev : Int, cs = [.int .i64 pg, .int .i64 n, .int .i64 f, .int .i64 b, .int .i64 ev] := by
 obtain ⟨xs, m, _, hx, hl, hlen, hg⟩ := DataW.trod_struct Tryz.underlying25 h
 rw [planCells] at hl
 match cs, hl with
 | [c0, c1, c2, c3, c4], _ =>
  have g0 : DataW.trod enc Tryz.prog w base (fun _ => true) held m 3 [c0] = xs[0]? := by have := hg 0 _ rfl; simpa [intCells] using this
  have g1 : DataW.trod enc Tryz.prog w base (fun _ => true) held m 3 [c1] = xs[1]? := by have := hg 1 _ rfl; simpa [intCells] using this
  have g2 : DataW.trod enc Tryz.prog w base (fun _ => true) held m 23 [c2, c3, c4] = xs[2]? := by have := hg 2 _ rfl; simpa [intCells, specCells] using this
  match xs, hlen with
  | [y0, y1, y2], _ =>
   obtain ⟨n0, e0, _⟩ := DataW.trod_int Tryz.underlying3 (g0.trans rfl)
   obtain ⟨n1, e1, _⟩ := DataW.trod_int Tryz.underlying3 (g1.trans rfl)
   obtain ⟨f, b, ev, e2⟩ := specOf (g2.trans rfl)
   simp only [List.cons.injEq, and_true] at e0 e1 e2
   obtain ⟨rfl, rfl, rfl⟩ := e2
   subst e0; subst e1
   exact ⟨n0, n1, f, b, ev, rfl⟩
end
end Go.Proofs.YtjmmgoijnhnnaaaGreat
