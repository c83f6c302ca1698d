/- Texts: RWalkV, RLawA. -/
import Derived.Test.YtjmmgoijnhnnaaaGreatR19
set_option maxRecDepth 100000
set_option maxHeartbeats 12800000
namespace Go.Pol
open Go Go.RowKit Go.Proofs.Tryz
theorem fJ.kid {W W':World} {N y bs bb ts tb:Nat} {V U:Vm} {L L' K:List Nd} (h:fJ W N y bs bb ts tb V U L K) (hb:bA W' bb L') (F:af (fun k=>k=bb∨ko bb W k) W W'):fJ W' N y bs bb ts tb V U L' K:=by
 obtain ⟨_,_,kq,_⟩:=h.eD.ex;have hT:∀g t cs,ag W g t cs→t≠75→t≠122→¬(g=bb∨ko bb W g):=by
  rintro g t cs hg g1 g2 (e|⟨_,ds,hd⟩)
  ·rw [e] at hg;exact hg.ne kq g1
  ·exact hg.ne hd g2
 obtain ⟨cv,hcv⟩:=h.sys.typed;obtain ⟨cr,hcr⟩:=h.ref.typed;obtain ⟨cb,hcb⟩:=h.ui.typed;exact ⟨h.sys.far F (hT _ _ _ hcv (by decide) (by decide)) (fun _ _ _ _ _ _ _ _ _ _ ⟨_,hq⟩=>hT _ _ _ hq (by decide) (by decide)),hb,
  h.ref.far F (fun k hk=>⟨by have:=h.lo;rcases hk with rfl|⟨hk,_⟩ <;> omega,fun e=>by subst e;exact hT _ _ _ hcr (by decide) (by decide) hk⟩),
  h.ui.far F (hT _ _ _ hcb (by decide) (by decide)) (fun k ⟨_,ds,hd⟩=>hT _ _ _ hd (by decide) (by decide)),h.lo⟩
theorem fJ.akF {W W':World} {N y bs bb ts tb:Nat} {V U:Vm} {L K K':List Nd} (h:fJ W N y bs bb ts tb V U L K) (hb:eP W' N tb K') (F:af (fun k=>yZ N W k∨k=tb) W W'):fJ W' N y bs bb ts tb V U L K':=by
 obtain ⟨cb,hcb⟩:=h.ui.typed;have hT:∀g t cs,ag W g t cs→t≠227→t≠120→¬(yZ N W g∨g=tb):=by
  rintro g t cs hg g1 g2 (⟨_,ds,hd⟩|e)
  ·exact hg.ne hd g2
  ·rw [e] at hg;exact hg.ne hcb g1
 obtain ⟨cv,hcv⟩:=h.sys.typed;obtain ⟨cr,hcr⟩:=h.ref.typed;obtain ⟨_,_,kq,_⟩:=h.eD.ex;exact ⟨h.sys.far F (hT _ _ _ hcv (by decide) (by decide)) (fun _ _ _ _ _ _ _ _ _ _ ⟨_,hq⟩=>hT _ _ _ hq (by decide) (by decide)),
  h.eD.far F (hT _ _ _ kq (by decide) (by decide)) (fun k ⟨_,ds,hd⟩=>hT _ _ _ hd (by decide) (by decide)),
  h.ref.far F (fun k hk=>⟨by have:=h.lo;rcases hk with ⟨hk,_⟩|rfl <;> omega,fun e=>by subst e;exact hT _ _ _ hcr (by decide) (by decide) hk⟩),hb,h.lo⟩
end Go.Pol
namespace Go.Proofs.YtjmmgoijnhnnaaaGreat
open Go Go.Proofs Go.RowKit Go.Pol Go.Shelf Tryz
attribute [local go_sem] Oper.semAt_some aC au az ah
theorem TY (V:Vm) (pg n f bk ev:Int):iW (kC V pg n f bk ev 1).1:=by
 unfold kC;dsimp only;by_cases c1:bE ⟨pg,n,f,bk,ev,1,0,[],false⟩≠0
 ·rw [if_pos c1];exact .inr rfl
 rw [if_neg c1];have hck:bN pg n f bk ev=0:=bU.2 (gB.1 (by simpa using c1)).plan;have hp:∀c,iW ⟨pg,n,f,bk,ev,1,0,[],c⟩:=fun c=>.inl ⟨hck,rfl⟩
 split
 ·exact .inr rfl
 ·split
  ·exact hp _
  ·split
   ·split
    ·exact .inr rfl
    ·exact hp _
   ·exact hp _
def akG (N:Nat) (l:List Ru) (e:Ending) (w':World):Prop:=e= .returned (.tuple #[.pointer none,.int .i64 2])∨∃y bs bb ts tb S,e= .returned (.tuple #[.pointer (some ⟨y,0,none⟩),.int .i64 0])∧fA w' N y bs bb ts tb l S
theorem Na (b:Nat) (m lim:Int) (w:World) (hB:bA w b (fo m)) (hm:0≤m∧m≤4096) (h1:lim<0∨4096<lim) :
  Calls prog 42 #[.pointer (some ⟨b,0,none⟩),.int .i64 0,.int .i64 lim] w fun e w'=>e= .returned (.tuple #[.int .i64 0,.int .i64 7])∧Below w.heap.size w w':=by
 have HK:=ae (yx b 0 (fo m) w hB (yw hm).ch Nat.zero_lt_one);have hb1:=aV w (.cells #[.int .i64 0] 3);have HO:=ae (fun W=>kQ lim 4096 W);obtain ⟨w1,hw1⟩:=aj (w.alloc (.cells #[.int .i64 0] 3));rw [show ((0:Nat):Int)=0 from rfl,hw1] at HK;rw [hw1] at hb1;rw [decide_eq_true h1] at HO;clear h1 hB;go_enter func42,ntmps42
 go_wp2_with (first|(go_at_call 76;refine HK.out.mono ?_;rintro e w2 ⟨rfl,hw2⟩;replace hw2:=hw2.symm;subst hw2)|(go_at_call 48;refine (HO.out _).mono ?_;rintro e w2 ⟨rfl,hw2⟩;replace hw2:=hw2.symm;subst hw2))
 go_ret2;exact ⟨rfl,hb1⟩
theorem TZ (N:Nat) (A1 A2:Option Addr) (n1 c1 n2 c2:Nat) (pg n f bk ev lim:Int) (l:List Ru) (w:World) (hl:l.length=n1) (hm:n1≤1000) (hz:A1=none→c1=0) (hNe:N=w.heap.size) (hr:Rd w N A1 (fl iN l)) :
  Calls prog 28 #[.agg #[.int .i64 pg,.int .i64 n,.int .i64 f,.int .i64 bk,.int .i64 ev,.int .i64 lim,.slice A1 n1 c1,.slice A2 n2 c2]] w fun e w'=>akG N l e w'∧Below w.heap.size w w':=by
 have hb0:=aV w (.cells #[.int .i64 pg,.int .i64 n,.int .i64 f,.int .i64 bk,.int .i64 ev,.int .i64 lim,.slice A1 n1 c1,.slice A2 n2 c2] 31);have k0:=ag.new w 31 #[.int .i64 pg,.int .i64 n,.int .i64 f,.int .i64 bk,.int .i64 ev,.int .i64 lim,.slice A1 n1 c1,.slice A2 n2 c2];have HN:=ae (fun W h=>Wt A1 n1 c1 l W hl hm hz h);have HN6:=ae (fun W h1 h2=>TU N A1 n1 c1 l W hl hz h1 h2);have gI:=ae hr;have hN:N≤w.heap.size:=by omega
 have hNH:=ae hNe;obtain ⟨re,hre⟩:=aj ((ic l).2);have akI:=ae hre;rw [hre] at HN HN6;obtain ⟨s,hs⟩:=aj (w.heap.size);rw [hs] at k0;clear hl hz hr hre hNe;go_enter func28,ntmps28;go_upto_region 1 with fail
 generalize w.alloc _=w0 at *;try simp only [hs]
 have dJ:=aV w0 (.cells (twC none none bn (.slice none 0 0)) 49);have ky:=ag.new w0 49 (twC none none bn (.slice none 0 0));dsimp only [twC,bn] at dJ ky;have k1:=k0.call dJ;have B1:=hb0.trans (dJ.mono hb0.size);obtain ⟨y,hy⟩:=aj (w0.heap.size);have hyw:w.heap.size≤y:=by rw [←hy];exact hb0.size
 rw [hy] at ky;go_upto_region 2 with fail
 generalize w0.alloc _=w1 at *;try simp only [hy]
 have c1':=k1.cell;have hr1:=(gI.out.below (B1.mono hN)).more (Nat.le_trans hN B1.size);clear k0 dJ hb0;go_wp2_with fail;refine (HN.out _ hr1).mono ?_;rintro e w2 ⟨hcase,hb2⟩;have B2:=B1.trans (hb2.mono B1.size);have jf:=ky.call hb2;have k2:=k1.call hb2;have Xj:=jf.cell;have fy2:=jf.frozen;have XL:=B1.size;clear HN hr1 ky k1 B1 hb2 c1';rcases hcase with ⟨h0,rfl⟩|⟨h0,bs,rfl,hV,hbs⟩
 ·have d0:(re != 0)=true:=by simpa using h0
  have MJ:=ae h0;have F3:af (fun k=>k=y) w2 (w2.setCell ⟨y,0,none⟩ (.pointer none)):=af.setCell (T:=fun k=>k=y) (p:=⟨y,0,none⟩) (af.refl _ w2) (fun _=>rfl) _;have B3:=B2.setCell (p:=⟨y,0,none⟩) (by show w.heap.size≤y;omega) (.pointer none);have fP:=jf.aO 0 (.pointer none);have k3:=F3.blk k2 (fun e=>by have e:s=y:=e;rw [e] at k2;exact k2.ne jf);clear h0 k2;go_upto_region 4 with fail
  generalize w2.setCell ⟨y,0,none⟩ _=w3 at *;simp only [List.setIfInBounds_toArray,List.set_cons_zero] at fP;have c3:=k3.cell;have hr3:=gI.out.below (B3.mono hN);have Xl:=Nat.le_trans hN B3.size;clear jf Xj fy2 F3 B2;go_wp2_with fail;refine (HN6.out _ Xl hr3).mono ?_;rintro e w4 ⟨hcase,hb4⟩;rcases hcase with ⟨_,rfl⟩|⟨h0',_⟩
  ·have B4:=B3.trans (hb4.mono B3.size)
   have l7:=fP.call hb4;have cy4:=l7.cell;have fy4:=l7.frozen;have B5:=B4.setCell (p:=⟨y,11,none⟩) (by show w.heap.size≤y;omega) (.pointer none);clear HN6 hr3 fP k3 c3 B3 hb4;go_wp2_with fail;go_ret2;exact ⟨.inl rfl,B5⟩
  ·exact absurd h0' MJ.out
 subst h0;have aoc:w.heap.size≤bs:=Nat.le_trans XL hbs;have F3:af (fun k=>k=y) w2 (w2.setCell ⟨y,0,none⟩ (.pointer (some ⟨bs,0,none⟩))):=af.setCell (T:=fun k=>k=y) (p:=⟨y,0,none⟩) (af.refl _ w2) (fun _=>rfl) _;have B3:=B2.setCell (p:=⟨y,0,none⟩) (by show w.heap.size≤y;omega) (.pointer (some ⟨bs,0,none⟩));have fP:=jf.aO 0 (.pointer (some ⟨bs,0,none⟩));obtain ⟨cv,hcv⟩:=hV.typed;have hyb:y≠bs:=fun e=>by subst e;exact jf.ne hcv
 have V3:=hV.far F3 (fun e=>hyb e.symm) (fun _ _ _ _ _ _ q _ _ _ ⟨_,hq⟩ e=>by have e:q=y:=e;rw [e] at hq;exact hq.ne jf);have k3:=F3.blk k2 (fun e=>by have e:s=y:=e;rw [e] at k2;exact k2.ne jf);have hQ0:Hid (tO l (uU lg l)):=ae ⟨fK.new.plan l,by rw [KW l akI.out];rfl⟩;generalize uU lg l=V0 at *;clear hV hcv k2 hbs XL;go_upto_region 4 with fail
 generalize w2.setCell ⟨y,0,none⟩ _=w3 at *;simp only [List.setIfInBounds_toArray,List.set_cons_zero] at fP;have c3:=k3.cell;have hr3:=gI.out.below (B3.mono hN);have Xl:=Nat.le_trans hN B3.size;clear jf Xj fy2 F3 B2;go_wp2_with fail;refine (HN6.out _ Xl hr3).mono ?_;rintro e w4 ⟨hcase,hb4⟩;rcases hcase with ⟨h0',_⟩|⟨_,ts,rfl,hU,hts⟩
 ·exact absurd rfl h0'
 have V4:=V3.call hb4;have B4:=B3.trans (hb4.mono B3.size);have l7:=fP.call hb4;have k4:=k3.call hb4;have cy4:=l7.cell;have fy4:=l7.frozen;have aod:w.heap.size≤ts:=Nat.le_trans B3.size hts;have F5:af (fun k=>k=y) w4 (w4.setCell ⟨y,11,none⟩ (.pointer (some ⟨ts,0,none⟩))):=af.setCell (T:=fun k=>k=y) (p:=⟨y,11,none⟩) (af.refl _ w4) (fun _=>rfl) _;have B5:=B4.setCell (p:=⟨y,11,none⟩) (by show w.heap.size≤y;omega) (.pointer (some ⟨ts,0,none⟩));have l8:=l7.aO 11 (.pointer (some ⟨ts,0,none⟩));have V5:=V4.far F5 (fun e=>hyb e.symm) (fun _ _ _ _ _ _ q _ _ _ ⟨_,hq⟩ e=>by have e:q=y:=e;rw [e] at hq;exact hq.ne l7);obtain ⟨cu,Vn⟩:=hU.typed;have hyt:y≠ts:=fun e=>by subst e;exact l7.ne Vn
 have U5:=hU.far F5 (fun k hk=>⟨by have e:k=y:=hk;omega,fun e=>by have e2:k=y:=hk;exact hyt (e2.symm.trans e)⟩);have k5:=F5.blk k4 (fun e=>by have e:s=y:=e;rw [e] at k4;exact k4.ne l7);clear V4 V3 hU Vn k4 k3 c3 hr3 Xl B3 hb4 HN6 hts fP;go_upto_region 5 with fail
 generalize w4.setCell ⟨y,11,none⟩ _=w5 at *;simp only [List.setIfInBounds_toArray,List.set_cons_zero,List.set_cons_succ] at l8;clear l7 cy4 fy4 F5 B4;go_wp2_with fail;refine (KL 4096 w5).mono ?_;rintro e w6 ⟨he,hb6⟩;rw [if_neg (by decide)] at he;obtain ⟨bb,rfl,hbb,hB6⟩:=he;have V6:=V5.call hb6;have U6:=U5.call hb6;have iq:=l8.call hb6;have k6:=k5.call hb6;have B6:=B5.trans (hb6.mono B5.size);have aoe:=B5.size;have Ho:=iq.cell;have Hq:=iq.frozen;have F7:af (fun k=>k=y) w6 (w6.setCell ⟨y,1,none⟩ (.pointer (some ⟨bb,0,none⟩))):=af.setCell (T:=fun k=>k=y) (p:=⟨y,1,none⟩) (af.refl _ w6) (fun _=>rfl) _;have B7:=B6.setCell (p:=⟨y,1,none⟩) (by show w.heap.size≤y;omega) (.pointer (some ⟨bb,0,none⟩));have uf:=iq.aO 1 (.pointer (some ⟨bb,0,none⟩));have V7:=V6.far F7 (fun e=>hyb e.symm) (fun _ _ _ _ _ _ q _ _ _ ⟨_,hq⟩ e=>by have e:q=y:=e;rw [e] at hq;exact hq.ne iq);have U7:=U6.far F7 (fun k hk=>⟨by have e:k=y:=hk;omega,fun e=>by have e2:k=y:=hk;exact hyt (e2.symm.trans e)⟩);have BV:=hB6.far F7 (fun e=>by obtain ⟨_,_,kq,_⟩:=hB6.ex;have e:bb=y:=e;rw [e] at kq;exact kq.ne iq) (fun q ⟨_,_,hq⟩ e=>by have e:q=y:=e;rw [e] at hq;exact hq.ne iq);have k7:=F7.blk k6 (fun e=>by have e:s=y:=e;rw [e] at k6;exact k6.ne iq);clear V6 V5 U6 U5 hB6 k6 k5 l8 B5 hb6;go_upto_region 8 with fail
 generalize w6.setCell ⟨y,1,none⟩ _=w7 at *;simp only [List.setIfInBounds_toArray,List.set_cons_zero,List.set_cons_succ] at uf;have hN7:=Nat.le_trans hN B7.size;clear iq Ho Hq F7 B6;go_wp2_with fail;refine (WW N w7 hN7).mono ?_;rintro e w8 ⟨tb,rfl,qp,htb,uh⟩;have V8:=V7.call uh;have U8:=U7.call uh;have hB8:=BV.call uh;have DF:=uf.call uh;have k8:=k7.call uh;have B8:=B7.trans (uh.mono B7.size);have cy8:=DF.cell;have fy8:=DF.frozen;have aof:=Nat.le_trans B7.size htb;have P8:fJ w8 N y bs bb ts tb V0 V0 (fo 4096) (fo 4096):=⟨V8,hB8,U8,qp,by have:=B7.size;omega⟩;have F9:af (fun k=>k=y) w8 (w8.setCell ⟨y,12,none⟩ (.pointer (some ⟨tb,0,none⟩))):=af.setCell (T:=fun k=>k=y) (p:=⟨y,12,none⟩) (af.refl _ w8) (fun _=>rfl) _;have B9:=B8.setCell (p:=⟨y,12,none⟩) (by show w.heap.size≤y;omega) (.pointer (some ⟨tb,0,none⟩));have CG:=DF.aO 12 (.pointer (some ⟨tb,0,none⟩));have P9:=P8.ze DF F9;have k9:=F9.blk k8 (fun e=>by have e:s=y:=e;rw [e] at k8;exact k8.ne DF);clear V8 V7 U8 U7 hB8 BV qp k8 k7 uf B7 uh P8;go_upto_region 9 with fail
 generalize w8.setCell ⟨y,12,none⟩ _=w9 at *;simp only [List.setIfInBounds_toArray,List.set_cons_zero,List.set_cons_succ] at CG;have cy9:=CG.cell;have c9:=k9.cell;clear DF cy8 fy8 F9 B8;have HD:=ae (fun W h=>PZ N tb (fo 4096) lim W h (yw (by decide)) rfl);by_cases hlim:lim<0∨4096<lim
 ·have HC:=ae (Na bb 4096 lim w9 P9.eD (by decide) hlim)
  have hCH:fF (fo 4096) lim=(7,fo 4096):=by unfold fF;rw [if_pos hlim]
  rw [hCH] at HD;simp only [show ¬((7:Int)=0) by decide,if_false] at HD;clear hCH hlim;go_wp2_with fail;refine HC.out.mono ?_;rintro e il ⟨rfl,oN⟩;have Ua:=P9.call oN;have k10:=k9.call oN;have uL:=CG.call oN;have OW:=uL.cell;have c10:=k10.cell;have B10:=B9.trans (oN.mono B9.size);clear P9 CG k9 B9 cy9 c9 HC oN;go_wp2_with fail;refine (HD.out _ Ua.ui).mono ?_;rintro e w11 ⟨rfl,_,vV⟩;have B11:=B10.trans (vV.below B10.size (fun k hk e=>by
   have:=hNH.out;rcases e with ⟨e,_⟩|rfl <;> omega))
  clear vV HD Ua uL k10 B10 OW c10;go_wp2_with fail;go_ret2;exact ⟨.inl rfl,B11⟩
 have HC:=ae (Sy bb 4096 lim w9 P9.eD (by decide));have hch:=ae (WE (l:=lim));have aaD:=ae (Ih (l:=lim) (m:=4096) (by decide));have hse:(fF (fo 4096) lim).1=0:=by unfold fF;rw [if_neg hlim]
 obtain ⟨CH,hCH⟩:=aj (fF (fo 4096) lim);rw [hCH] at HC HD hch aaD hse;obtain ⟨se,sL⟩:=CH;simp only at HC HD hch aaD hse;subst hse;rw [if_pos rfl] at HD;clear hCH hlim;go_wp2_with fail;refine HC.out.mono ?_;rintro e il ⟨⟨ck,rfl,hck⟩,adV,nz⟩;obtain rfl:=hck trivial;have Ua:=P9.kid adV nz;have hne:∀g t cs,ag w9 g t cs→t≠75→t≠122→¬(g=bb∨ko bb w9 g):=by
  obtain ⟨_,_,kq,_⟩:=P9.eD.ex;rintro g t cs hg g1 g2 (e|⟨_,ds,hd⟩)
  ·rw [e] at hg;exact hg.ne kq g1
  ·exact hg.ne hd g2
 have uL:=nz.blk CG (hne _ _ _ CG (by decide) (by decide));have k10:=nz.blk k9 (hne _ _ _ k9 (by decide) (by decide));have B10:=B9.trans (nz.below B9.size (fun k hk e=>by rcases e with rfl|⟨e,_⟩ <;> omega));have OW:=uL.cell;have c10:=k10.cell;clear P9 CG k9 B9 nz hne adV cy9 c9 HC;go_wp2_with fail;refine (HD.out _ Ua.ui).mono ?_;rintro e w11 ⟨rfl,adW,vV⟩;have Ub:=Ua.akF adW vV;have hne:∀g t cs,ag il g t cs→t≠227→t≠120→¬(yZ N il g∨g=tb):=by
  obtain ⟨_,hcb⟩:=Ua.ui.typed;rintro g t cs hg g1 g2 (⟨_,ds,hd⟩|e)
  ·exact hg.ne hd g2
  ·rw [e] at hg;exact hg.ne hcb g1
 have Ew:=vV.blk uL (hne _ _ _ uL (by decide) (by decide));have k11:=vV.blk k10 (hne _ _ _ k10 (by decide) (by decide));have B11:=B10.trans (vV.below B10.size (fun k hk e=>by
  have:=hNH.out;rcases e with ⟨e,_⟩|rfl <;> omega))
 have Y2:=Ew.cell;have c11:=k11.cell;clear Ua uL k10 B10 vV hne adW OW c10 HD;have HO:=ae (fun W h=>Er bs V0 pg n f bk ev 1 W h hQ0.out.1.kinds);have HP:=ae (fun W h=>M0 N ts V0 pg n f bk ev 1 W h);have hpl:=ae (TY V0 pg n f bk ev);have Jm:=ae (Xd (zG l) hQ0.out pg n f bk ev 1);unfold eQ at HO HP;generalize kC V0 pg n f bk ev 1=S at *;obtain ⟨sr,se,sV⟩:=S;simp only at HO HP hpl Jm;go_wp2_with fail;refine (HO.out _ Ub.sys).mono ?_;rintro e R8 ⟨v12,rfl,⟨A12,c12,rfl,hl12,jC,qU⟩,Qq⟩;dsimp only [ai];have pF:=aS.iK Ub.sys Ub.eD Qq;have P12:=Ub.prog pF;have Ja:=pF.blk Ub.sys Ew;have k12:=pF.blk Ub.sys k11;have B12:=B11.trans (pF.far.below B11.size (fun k hk e=>by rcases e with rfl|⟨e,_⟩ <;> omega));have akP:=Ja.cell;have akQ:=Ja.frozen;clear Ub Ew k11 B11 Y2 c11 Qq pF HO;go_upto_region 18 with fail
 have F13:=vY R8 y sr (.slice A12 sr.kept.length c12);have B13:=B12.trans (F13.below B12.size (fun k hk e=>by have e:k=y:=e;omega));have aaG:=vX Ja sr (.slice A12 sr.kept.length c12);have k13:=F13.blk k12 (fun e=>by have e:s=y:=e;rw [e] at k12;exact k12.ne Ja);have Uc:=P12.ze Ja F13;have xL:=qU.far F13 (fun g cs hG e=>by have e:g=y:=e;rw [e] at hG;exact hG.ne Ja);change Code.wp _ _ _ _ (vW R8 y sr (.slice A12 sr.kept.length c12));generalize vW R8 y sr (.slice A12 sr.kept.length c12)=Mr at *;have akR:=aaG.cell;have c13:=k13.cell;clear akP akQ Ja k12 P12 F13 B12 qU;go_wp2_with fail;refine (HP.out _ Uc.ref).mono ?_;rintro e Mt ⟨v14,rfl,⟨A14,c14,rfl,akS,akT,yM⟩,S14⟩;dsimp only [ai];have Bw:=bI.iK Uc.ref Uc.ui S14;have P14:=Uc.C8 Bw;have Jb:=Bw.blk Uc.ref aaG;have aaI:=Bw.kept Uc.ref xL;have B14:=B13.trans (Bw.far.below B13.size (fun k hk e=>by
  have:=hNH.out;rcases e with rfl|⟨e,_⟩ <;> omega))
 have akW:=Jb.cell;have akX:=Jb.frozen;clear Uc aaG k13 B13 akR c13 S14 Bw HP xL;go_upto_region 19 with fail
 have IZ:=wE Mt y sr (.slice A14 sr.kept.length c14);have B15:=B14.trans (IZ.below B14.size (fun k hk e=>by have e:k=y:=e;omega));have aaJ:=wD Jb sr (.slice A14 sr.kept.length c14);have P15:=P14.ze Jb IZ;have yN:=yM.far IZ (fun g cs hG e=>by have e:g=y:=e;rw [e] at hG;exact hG.ne Jb);have aaK:=aaI.far IZ (fun g cs hG e=>by have e:g=y:=e;rw [e] at hG;exact hG.ne Jb);change Code.wp _ _ _ _ (wC Mt y sr (.slice A14 sr.kept.length c14));generalize wC Mt y sr (.slice A14 sr.kept.length c14)=Wi at *;clear akW akX Jb P14 IZ B14 yM aaI;have pR:fA Wi N y bs bb ts tb l (sV,sL,sr):=⟨P15,⟨A12,c12,A14,c14,aaJ,aaK,hl12,jC,yN,akS,akT⟩,⟨Jm.out,aaD.out,(hch.out trivial).2.1,hpl.out⟩⟩;clear P15 yN aaK;go_wp2_with fail;refine (kK N y bs bb ts tb l _ _ pR).mono ?_;rintro e w16 ⟨rfl,Vb⟩;have adX:=pR.call Vb;have CJ:=aaJ.call Vb;have ac1:=CJ.cell;have B16:=B15.trans (Vb.mono B15.size);clear pR aaJ B15 Vb;by_cases h0:se=0
 ·subst h0
  go_wp2_with fail;go_ret2;exact ⟨.inr ⟨y,bs,bb,ts,tb,(sV,sL,sr),rfl,adX⟩,B16⟩
 have d0:(se != 0)=true:=by simpa using h0
 cases hcl:sr.cl with
 | true =>
  go_wp2_with fail;go_ret2;exact ⟨.inr ⟨y,bs,bb,ts,tb,(sV,sL,sr),rfl,adX⟩,B16⟩
 | false =>
  go_wp2_with fail;go_ret2;exact ⟨.inl rfl,B16⟩
theorem J9 (A1 A2:Option Addr) (n1 c1 n2 c2:Nat) (pg n f bk ev lim:Int) (l:List Ru) (us:List (Int×Int)) (w:World) (hl:l.length=n1) (hr:Rd w w.heap.size A1 (fl iN l)) (hz:A1=none→c1=0) (hul:us.length=n2) (hm2:n2≤maxLen) (hA2:Rd w w.heap.size A2 (fl acC us))
  (ER:∀x∈us,0≤x.1∧x.1≤255∧-9223372036854775808≤x.2∧x.2≤9223372036854775807) :
  Calls prog 6 #[.agg #[.int .i64 pg,.int .i64 n,.int .i64 f,.int .i64 bk,.int .i64 ev,.int .i64 lim,.slice A1 n1 c1,.slice A2 n2 c2]] w fun e w'=>e= .returned (.bool true)∧Below w.heap.size w w':=by
 have HFa:=ae (fun W=>Sz A1 A2 n1 c1 n2 c2 pg n f bk ev lim W);have hb0:=aV w (.cells #[.int .i64 pg,.int .i64 n,.int .i64 f,.int .i64 bk,.int .i64 ev,.int .i64 lim,.slice A1 n1 c1,.slice A2 n2 c2] 31);have k0:=ag.new w 31 #[.int .i64 pg,.int .i64 n,.int .i64 f,.int .i64 bk,.int .i64 ev,.int .i64 lim,.slice A1 n1 c1,.slice A2 n2 c2];have ak0:=ae hA2;have adY:=ae hul;have ak1:=ae ER;have gI:=ae hr;obtain ⟨s,hs⟩:=aj (w.heap.size);rw [hs] at k0;clear hA2 hul ER hr;by_cases nE:((decide (100<n)||decide (30<(n2:Int)))||decide (60<(n1:Int)))=true
 ·rw [nE] at HFa
  clear nE;go_enter func6,ntmps6;go_upto_region 1 with fail
  generalize w.alloc _=w0 at *;try simp only [hs]
  have c0:=k0.cell;go_wp2_with fail;refine (HFa.out _).mono ?_;rintro e w1 ⟨rfl,hb1⟩;have B1:=hb0.trans (hb1.mono hb0.size);go_wp2_with fail;refine (xh _).mono ?_;rintro e w2 ⟨rfl,hb2⟩;go_wp2_with fail;go_ret;exact ⟨rfl,B1.trans (hb2.mono B1.size)⟩
 have Nb:((decide (100<n)||decide (30<(n2:Int)))||decide (60<(n1:Int)))=false:=by simpa using nE
 rw [Nb] at HFa;have hn1:n1≤60:=by simp at Nb;omega
 have hn2:n2≤30:=by simp at Nb;omega
 clear nE Nb;have HPl:=ae (fun N W h1 h2=>TZ N A1 A2 n1 c1 n2 c2 pg n f bk ev lim l W hl (by omega) hz h1 h2);clear hl hz;go_enter func6,ntmps6;go_upto_region 1 with fail
 generalize w.alloc _=w0 at *;try simp only [hs]
 have c0:=k0.cell;go_wp2_with fail;refine (HFa.out _).mono ?_;rintro e w1 ⟨rfl,hb1⟩;have B1:=hb0.trans (hb1.mono hb0.size);have k1:=k0.call hb1;have hr1:=gI.out.fw B1;have c1':=k1.cell;clear c0 k0 hb0 hb1 HFa;go_wp2_with fail;refine (HPl.out _ w1 rfl hr1).mono ?_;rintro e w2 ⟨hcase,hb2⟩;have B2:=B1.trans (hb2.mono B1.size);have k2:=k1.call hb2;have adZ:=k1.lt;have ad1:=hb2.size;clear c1' k1 hb2 hr1 HPl B1;rcases hcase with rfl|⟨y,bs,bb,ts,tb,S,rfl,hP⟩
 ·go_wp2_with fail
  refine (xh _).mono ?_;rintro e w3 ⟨rfl,hb3⟩;go_wp2_with fail;go_ret;exact ⟨rfl,B2.trans (hb3.mono B2.size)⟩
 obtain ⟨N,hN⟩:=aj (w1.heap.size);rw [hN] at hP;have hsN:s<N:=by rw [←hN];exact adZ
 have ad3:N≤w2.heap.size:=by rw [←hN];exact ad1
 have hwN:w.heap.size≤N:=by omega
 clear hN adZ ad1;go_upto_region 7 with fail
 go_loopw [5] (fun u wr=>∃(i:Nat) (S:Vm×List Nd×Cr),u= .int .i64 i∧i≤n2∧fA wr N y bs bb ts tb l S∧Below w.heap.size w wr∧N≤wr.heap.size∧ag wr s 31 #[.int .i64 pg,.int .i64 n,.int .i64 f,.int .i64 bk,.int .i64 ev,.int .i64 lim,.slice A1 n1 c1,.slice A2 n2 c2]) (fun u _=>n2 - (intOf u).toNat)
 case atStart=>exact ⟨0,S,rfl,by omega,hP,B2,ad3,k2⟩
 case round =>
  clear k2 B2 hP ad3;obtain ⟨i,S,rfl,hi,hP,hB,hNw,kp⟩:=hrel;have cp:=kp.cell;by_cases hin:i<n2
  ·have d1:decide ((i:Int)<(n2:Int))=true:=by simpa using hin
   obtain ⟨ab,ao,rfl,hab,hac⟩:=(ak0.out).elem Pm (by omega) (0,0) (k:=i) (by have:=adY.out;omega);have hx:=ak1.out (us.getD i (0,0)) (KG _ (by have:=adY.out;omega));generalize us.getD i (0,0)=x at *;obtain ⟨xa,xb⟩:=x;have x0:=(hB.cell (p:=⟨ab,ao+i*2+0,none⟩) hab).trans (hac 0 _ rfl);have x1:=(hB.cell (p:=⟨ab,ao+i*2+1,none⟩) hab).trans (hac 1 _ rfl);simp only [Nat.add_zero] at x0;simp only at hx;have HA:=ae (Xk N y bs bb ts tb l S xa xb wr hP hNw ⟨hx.1,hx.2.1⟩ hx.2.2.1 hx.2.2.2);clear hac hP;go_upto_region 9 with fail
   go_wp2_with fail;refine HA.out.mono ?_;rintro e w3 ⟨rfl,hP3,hb3⟩;have kp3:ag w3 s 31 _:=(hb3.block s hsN).trans kp;have B3:=hB.trans (hb3.mono hwN);have Xl:N≤w3.heap.size:=Nat.le_trans hNw hb3.size;generalize qM S (xa,xb)=S3 at *;obtain ⟨A,cap,B,cap',ky,_⟩:=hP3.two;dsimp only [I4] at ky;have cy:=ky.cell;clear HA kp cp hB hNw x0 x1;by_cases hn0:S3.2.2.n=0
   ·have d2:(S3.2.2.n==0)=true:=by simpa using hn0
    clear hn0;go_wp2_with fail;refine (xh _).mono ?_;rintro e w4 ⟨rfl,hb4⟩;go_wp2_with fail;go_ret;exact ⟨rfl,B3.trans (hb4.mono B3.size)⟩
   ·have d2:(S3.2.2.n==0)=false:=by simpa using hn0
    clear hn0;go_wp2_with fail;go_roundw
    case rel=>exact ⟨i+1,S3,by go_num,by omega,hP3,B3,Xl,kp3⟩
    case measure=>simp [intOf];omega
  ·obtain rfl:i=n2:=by omega
   have d1:decide ((i:Int)<(i:Int))=false:=by simp
   go_wp2_with fail;refine (xh _).mono ?_;rintro e w4 ⟨rfl,hb4⟩;go_wp2_with fail;go_ret;exact ⟨rfl,hB.trans (hb4.mono hB.size)⟩
end Go.Proofs.YtjmmgoijnhnnaaaGreat
