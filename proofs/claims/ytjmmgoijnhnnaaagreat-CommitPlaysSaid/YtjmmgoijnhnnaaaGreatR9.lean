/- Walks of layer 12 (commit): Close. -/
import Derived.Test.YtjmmgoijnhnnaaaGreatRows
import Derived.Carry
import Derived.ChangeSlices
import Derived.RowKit2
import Derived.RowKit3
import Derived.JoinedAt
import Derived.Test.YtjmmgoijnhnnaaaGreatR8
set_option maxRecDepth 100000
set_option maxHeartbeats 12800000
namespace Go.Pol
open Go Go.RowKit Go.Proofs.Tryz
theorem KS (V:Vm) (p k:Int):∀m:Nat,mem k (qm V p m)=true↔(p≤k∧k<p+m)∧Du V k=3
 | 0=>by
  rw [qm,fB];simp;omega
 | m+1=>by
  rw [qm];have ih:=KS V p k m;by_cases h:Du V (p+m)=3
  ·rw [if_pos h,mem_append,Bool.or_eq_true,ih,iM]
   simp only;constructor
   ·rintro (⟨h1,h2⟩|h1)
    ·exact ⟨by omega,h2⟩
    ·have:k=p+m:=by omega
     subst this;exact ⟨by omega,h⟩
   ·rintro ⟨h1,h2⟩
    by_cases hk:k=p+m
    ·exact .inr (by omega)
    ·exact .inl ⟨by omega,h2⟩
  ·rw [if_neg h,ih]
   constructor
   ·rintro ⟨h1,h2⟩;exact ⟨by omega,h2⟩
   ·rintro ⟨h1,h2⟩
    have:k≠p+m:=fun e=>h (by rw [←e];exact h2)
    exact ⟨by omega,h2⟩
theorem aQ.oO {V:Vm} (h:aQ V) (tk:Int) {a n:Int} {call:Nat} {fr:Int} (ht:0≤tk∧tk≤3:=by omega):aQ (Go.Pol.bJ V a n call fr tk).2:=fun p hp=>by
 have h0:=h p hp;rcases RH V a n call fr tk with ⟨_,k⟩|⟨_,k⟩
 ·rw [k];exact h0
 ·rw [k.pg p]
  split
  ·exact ht
  ·exact h0
theorem aQ.jy:∀(XS d:List iF) (V:Vm),aQ V→aQ (jy XS d V).2.1
 | [],_,_,h=>h
 | x::r,d,V,h=>by
  rw [Go.Pol.jy];split
  ·exact (h.oO 2)
  ·exact aQ.jy r _ _ (h.oO 2)
theorem aQ.OT:∀(l:List iF) (S:Vm×List Sp×Int),aQ S.1→aQ (l.foldl dK S).1
 | [],_,h=>h
 | x::l,S,h=>by
  refine aQ.OT l (dK S x) ?_;unfold dK;dsimp only;split <;> exact (h.oO 1)
theorem aQ.grow {V:Vm} (h:aQ V) (L:List Nd) (r:Cr) (tt:Int):aQ (cZ V L r tt).2.2.1:=by
 unfold cZ;split
 ·exact h
 ·split
  ·exact h
  ·split
   ·exact h
   ·dsimp only
    split
    ·exact h
    ·split
     ·exact aQ.jy _ _ _ h
     ·exact aQ.OT _ _ (aQ.jy _ _ _ h)
theorem OU (V:Vm) (L:List Nd) (r:Cr) (tt:Int):(cZ V L r tt).1.node=r.node:=by
 unfold cZ;split
 ·rfl
 ·split
  ·rfl
  ·split
   ·rfl
   ·dsimp only
    split
    ·rfl
    ·split <;> rfl
theorem JI (r:Cr) (tt:Int):(iE r tt).1.node=r.node:=by
 unfold iE;split
 ·rfl
 ·split
  ·rfl
  ·split <;> rfl
theorem bg.cZ {L:List Nd} (h:bg L) (V:Vm) (r:Cr) (tt:Int) (hn:r.node.toNat<L.length):bg (cZ V L r tt).2.2.2∧(cZ V L r tt).2.2.2.length=L.length:=by
 unfold Go.Pol.cZ;split
 ·exact ⟨h,rfl⟩
 ·split
  ·exact ⟨h,rfl⟩
  ·split
   ·exact ⟨h,rfl⟩
   ·have h1:=uG h hn (aI (ay (bG r.live tt) (aZ r.kept (0,1024))))
    have h2:=wZ L r.node.toNat (aI (ay (bG r.live tt) (aZ r.kept (0,1024))));dsimp only;split
    ·exact ⟨h1,h2⟩
    ·split
     ·exact ⟨h1,h2⟩
     ·exact ⟨rQ h1 (by rw [h2];exact hn) _,by rw [o6,h2]⟩
theorem aQ.dD (n:Nat):∀(l:List iF) (S:Vm×List Nd×List Sp×Int),aQ S.1→bg S.2.1→n<S.2.1.length→aQ (l.foldl (dD n) S).1∧bg (l.foldl (dD n) S).2.1∧(l.foldl (dD n) S).2.1.length=S.2.1.length
 | [],_,h,h2,_=>⟨h,h2,rfl⟩
 | x::l,S,h,h2,h3=>by
  have e:aQ (Go.Pol.dD n S x).1∧bg (Go.Pol.dD n S x).2.1∧(Go.Pol.dD n S x).2.1.length=S.2.1.length:=by
   unfold Go.Pol.dD;dsimp only;split
   ·exact ⟨(h.oO 1),rQ h2 h3 _,o6 _ _ _⟩
   ·exact ⟨(h.oO 1),h2,rfl⟩
  obtain ⟨a,b,c⟩:=aQ.dD n l (Go.Pol.dD n S x) e.1 e.2.1 (by rw [e.2.2];exact h3);exact ⟨a,b,c.trans e.2.2⟩
theorem aQ.iG:∀(G:List Sp) (V:Vm),aQ V→aQ (iG G V).2
 | [],_,h=>h
 | x::G,V,h=>by
  rw [Go.Pol.iG];split
  ·exact (h.oO 1)
  ·exact aQ.iG G _ (h.oO 1)
theorem aQ.fT {V:Vm} (h:aQ V) (r:Cr):aQ (fT V r).2.2:=by
 unfold Go.Pol.fT;dsimp only;split
 ·exact aQ.iG _ _ h
 ·split <;> exact ((aQ.iG _ _ h).oO 0)
theorem aQ.close {V:Vm} {L:List Nd} (h:aQ V) (hL:bg L) (r:Cr) (hn:r.node.toNat<L.length):aQ (dG V L r).2.2.1∧bg (dG V L r).2.2.2∧(dG V L r).2.2.2.length=L.length:=by
 unfold dG;split
 ·exact ⟨h,hL,rfl⟩
 ·split
  ·exact ⟨aQ.fT h r,hL,rfl⟩
  ·obtain ⟨a,b,c⟩:=aQ.dD r.node.toNat (bS (setOf (r.kept++bG 0 r.live)) 0 (aA r.pg r.n r.f r.bk r.ev)) (V,L,setOf (r.kept++bG 0 r.live),0) h hL hn
   dsimp only;split
   ·exact ⟨a,b,c⟩
   ·exact ⟨aQ.fT a _,b,c⟩
theorem aQ.oL (G:List Sp):∀(r d:List Sp) (V:Vm),aQ V→aQ (oL G d r V).2.2
 | [],_,_,h=>h
 | x::r,d,V,h=>by
  rw [Go.Pol.oL];split
  ·exact aQ.oL G r (x::d) _ (h.oO 3)
  ·have hu:∀(d:List Sp) (S:List Sp×Vm),aQ S.2→aQ (d.foldl jk S).2:=fun d=>by
    induction d with
    | nil=>exact fun _ h=>h
    | cons x d ih=>exact fun S h=>ih (jk S x) (h.oO 1)
   exact hu d ([],_) (h.oO 3)
theorem aQ.jw {V:Vm} (h:aQ V) (ck:Int) (G:List Sp):aQ (jw V ck G).2.2:=by
 unfold Go.Pol.jw;split
 ·exact aQ.oL G G [] V h
 ·exact h
theorem Ev:aQ lg:=fun _ _=>by show (0:Int)≤0∧(0:Int)≤3;omega
end Go.Pol
namespace Go.Proofs.YtjmmgoijnhnnaaaGreat
open Go Go.Proofs Go.RowKit Go.Pol Go.Shelf Tryz
attribute [local go_sem] Oper.semAt_some aC au az ah
theorem CE (bs bb:Nat) (V:Vm) (L:List Nd) (r:Cr) (A:Option Addr) (cap:Nat) (w:World) (hV:aD w bs V) (xU:aQ V) (hB:bA w bb L) (hO:bg L) (hnl:bE r=0→r.node.toNat<L.length) (hcap:r.kept.length≤cap) (hcm:cap≤maxLen) (hk:KeptAt w A r.kept) :
  Calls prog 21 #[.pointer (some ⟨bs,0,none⟩),.pointer (some ⟨bb,0,none⟩),.agg (ai r (.slice A r.kept.length cap))] w fun e w'=>∃v,e= .returned (.tuple #[v,.int .i64 (dG V L r).2.1])∧Bj (dG V L r).1 w' v∧aS bs bb (dG V L r).2.2.1 (dG V L r).2.2.2 w w':=by
 have hr:=hk.ru;have HK:=ae (fun W (h1:aD W bs V) (h2:bA W bb L) (h3:RU W W.heap.size A r.kept)=>Bi bs bb V L r A cap W h1 xU h2 hO hcap hcm h3);obtain ⟨R,hR⟩:=aj (dG V L r);rw [hR];unfold dG at hR;have hz:=@gB r;have hZ:bE r=0→ND r:=hz.1;clear hz;generalize bE r=ck at *;obtain ⟨pg,n,f,bk,ev,node,live,K,cl⟩:=r;simp only at hcap hcm hr hk hR hZ HK hnl ⊢;obtain ⟨m,hm0⟩:=aj (K.length);rw [hm0] at hcap HK ⊢;have hm:=ae hm0;obtain ⟨w0,hw0,hsz,hb0,k1,k2,k3,k4⟩:=Md 44 45 43 43 #[.pointer (some ⟨bs,0,none⟩)] #[.pointer (some ⟨bb,0,none⟩)] (ai ⟨pg,n,f,bk,ev,node,live,K,cl⟩ (.slice A m cap)) (ai bn (.slice none 0 0)) w;have hr0:=ae (hr.on hb0);have gI:=ae hk;dsimp only [ai,bn] at k3 k4 hw0 HK ⊢;clear hm0 hr hk;by_cases h0:ck=0
 case neg =>
  have h0':(ck != 0)=true:=by simpa using h0
  rw [if_pos h0] at hR;subst hR;clear h0 hZ;refine bM func21 rfl ?_;simp only [ntmps21,List.size_toArray,List.length_cons,List.length_nil,Nat.reduceAdd,Nat.reduceSub,Array.replicate_succ,Array.replicate_zero,List.push_toArray,List.append_toArray,List.nil_append,List.cons_append];go_upto_region 1 with fail
  rw [←hw0];have c1:=k1.cell;have c2:=k2.cell;have c3:=k3.cell;clear hw0;go_wp2_with fail;refine (HK.out _ (hV.call hb0) (hB.call hb0) hr0.out).mono ?_;rintro e w1 ⟨rfl,hb1⟩;have k11:=k1.call hb1;have k21:=k2.call hb1;have lh:=k3.call hb1;have iQ:=k4.call hb1;have B1:=hb0.trans (hb1.mono hb0.size);have c11:=k11.cell;have c21:=k21.cell;have c31:=lh.cell;have G7:=iQ.cell;have f41:=iQ.frozen;clear HK k1 k2 k3 k4 hb0 hr0 hb1 c1 c2 c3;go_wp2_with fail;change bodyPostM _ _ _ _ _ _ _ (aL w1 (w.heap.size+3) ⟨pg,n,f,bk,ev,node,live,K,cl⟩ (.slice A m cap));have aR:=aG iQ ⟨pg,n,f,bk,ev,node,live,K,cl⟩ (.slice A m cap);have F9:=aH w1 (w.heap.size+3) ⟨pg,n,f,bk,ev,node,live,K,cl⟩ (.slice A m cap);generalize aL w1 (w.heap.size+3) ⟨pg,n,f,bk,ev,node,live,K,cl⟩ (.slice A m cap)=w9 at *;dsimp only [ai] at aR;have bV:=aR.cell;refine iw (v:=.tuple #[.agg (ai ⟨pg,n,f,bk,ev,node,live,K,cl⟩ (.slice A m cap)),.int .i64 ck]) (by simp [results,results21,go_sem,bV,ai]) ?_;have T9:=(aS.below hV hB B1).fresh F9 (fun k hk=>by subst hk;omega) (fun k hk=>by subst hk;exact ⟨_,_,iQ,by decide,by decide,by decide,by decide⟩);exact ⟨_,rfl,⟨A,cap,by rw [hm.out],by rw [hm.out];exact hcap,hcm,T9.kept hV gI.out⟩,T9⟩
 subst h0;rw [if_neg (by simp)] at hR;have xe:=hZ rfl;have hp:=xe.plan;simp only at hp;obtain ⟨nn,rfl⟩:∃nn:Nat,n=nn:=⟨n.toNat,by have:=hp.n0;omega⟩;have hp0:=hp.De;have hpn:pg+(nn:Int)≤1024:=by have:=hp.n1;omega
 by_cases h1:cl=true
 case pos =>
  subst h1;rw [if_pos rfl] at hR;unfold fT at hR;simp only at hR;have HS:=ae (fun W h=>zZ bs V pg f bk ev nn W h hp0 hpn);unfold eQ at HS;clear hZ xe hp;refine bM func21 rfl ?_;simp only [ntmps21,List.size_toArray,List.length_cons,List.length_nil,Nat.reduceAdd,Nat.reduceSub,Array.replicate_succ,Array.replicate_zero,List.push_toArray,List.append_toArray,List.nil_append,List.cons_append];go_upto_region 1 with fail
  rw [←hw0];have c1:=k1.cell;have c2:=k2.cell;have c3:=k3.cell;clear hw0;go_wp2_with fail;refine (HK.out _ (hV.call hb0) (hB.call hb0) hr0.out).mono ?_;rintro e w1 ⟨rfl,hb1⟩;have k11:=k1.call hb1;have k21:=k2.call hb1;have lh:=k3.call hb1;have iQ:=k4.call hb1;have B1:=hb0.trans (hb1.mono hb0.size);have c11:=k11.cell;have c21:=k21.cell;have c31:=lh.cell;have G7:=iQ.cell;have f41:=iQ.frozen;clear HK k1 k2 k3 k4 hb0 hr0 hb1 c1 c2 c3;have T1:=aS.below hV hB B1;have HD1:mK none w1:=mK.nil _;have hk1:=T1.kept hV gI.out;obtain ⟨SL,EX⟩:=aj (pX V pg nn);rw [EX] at hR HS;obtain ⟨P,hP⟩:=aj (iG SL V);rw [hP] at hR;have YN:=ae hP;have RZ:=ae hR.symm;obtain ⟨ln,He⟩:=aj (SL.length);rw [He] at HS;have hln:=ae He;clear EX hP hR He;go_wp2_with fail;refine (HS.out _ (T1).sys).mono ?_;rintro e w2 ⟨A8,c8,rfl,YO,YP,hm8,hc8,hb2⟩;have T2:=(T1).aU hb2;have k12:=(k11).call hb2;have iU:=(lh).call hb2;have gU:=(iQ).call hb2;have HD2:=(HD1).call hb2;have hk2:=(hk1).call hb2;have YQ:=ae (fun g o (e:A8=some ⟨g,o,none⟩)=>show ¬g=bs by have:=YP g o e;have:=(T1).sys.lt;omega);have aix:ln≤9223372036854775807:=by unfold maxLen at hc8;omega
  clear HS YP hb2;go_wp2_with fail
  go_loopw [82] (fun i wr=>∃(k:Nat) (U:Vm),k≤ln∧i= .int .i64 k∧Hid (iG (SL.drop k) U=P)∧aS bs bb U L w wr∧ag wr w.heap.size 44 #[.pointer (some ⟨bs,0,none⟩)]∧ag wr (w.heap.size+2) 43 #[.int .i64 pg,.int .i64 nn,.int .i64 f,.int .i64 bk,.int .i64 ev,.int .i64 node,.int .i64 live,.slice A m cap,.bool true]∧ag wr (w.heap.size+3) 43 #[.int .i64 0,.int .i64 0,.int .i64 0,.int .i64 0,.int .i64 0,.int .i64 0,.int .i64 0,.slice none 0 0,.bool false]∧mK none wr∧KeptAt wr A K∧RU wr wr.heap.size A8 SL) (fun i _=>ln - (intOf i).toNat)
  case atStart=>exact ⟨0,V,by omega,rfl,ae (by simpa using YN.out),T2,k12,iU,gU,HD2,hk2,YO⟩
  case round =>
   clear T2 k12 iU gU HD2 hk2 YO YN;obtain ⟨k,U,hk,rfl,hU,T3,k13,mH,tZ,HD3,hk3,hr3⟩:=hrel;have c13:=k13.cell;have Mm:=mH.cell;by_cases hlt:k<ln
   ·have hlt':decide ((k:Int)<(ln:Int))=true:=by simpa using hlt
    have Dt:k<SL.length:=by rw [hln.out];exact hlt
    obtain ⟨b8,o8,rfl,_,hc,hd⟩:=hr3.at_' Dt;have hst:Hid (iG (SL.getD k (0,0)::SL.drop (k+1)) U=P):=ae (by
     rw [←hU.out,List.drop_eq_getElem_cons Dt,List.getD_eq_getElem?_getD,List.getElem?_eq_getElem Dt];rfl)
    generalize SL.getD k (0,0)=x at *;obtain ⟨xa,xb⟩:=x;dsimp only at hc hd;obtain ⟨J,hJ⟩:=aj (bJ U xa xb 4 3 1);have df:=hst.out;rw [iG] at df;dsimp only at df;rw [hJ] at df;have HU:=ae (fun W h=>ry bs xa xb U W h);rw [hJ] at HU;obtain ⟨je,jV⟩:=J;dsimp only at df HU;have dJ:=aV wr (.cells #[.int .i64 xa,.int .i64 xb] 140);have kX:=ag.new wr 140 #[.int .i64 xa,.int .i64 xb];have T4:=T3.aU dJ;have k14:=k13.call dJ;have nQ:=mH.call dJ;have Cx:=tZ.call dJ;have HD4:=HD3.call dJ;have hk4:=hk3.call dJ;have hr4:=hr3.on dJ;obtain ⟨gx,hgx⟩:=aj (wr.heap.size);rw [hgx] at kX;have c14:=k14.cell;have cX:=kX.cell;clear hU hst hJ;go_upto_region 22 with fail
    clear hc hd c13 Mm;generalize wr.alloc _=wa at *;go_wp2_with fail;refine (HU.out _ T4.sys).mono ?_;rintro e w5 ⟨rfl,h5⟩;have S5:=aS.iK T4.sys T4.eD h5;have T5:=T4.trans S5;have k15:=S5.blk T4.sys k14;have yI:=S5.blk T4.sys nQ;have lK:=S5.blk T4.sys Cx;have HD5:=HD4.both T4.sys S5;have hk5:=S5.kept T4.sys hk4;have hr5:=(hr4.Uw h5.2 (fun g o e=>YQ.out g o e)).more h5.2.size;have R5:=yI.cell;have c45:=lK.cell;have f45:=lK.frozen;clear T3 k13 mH tZ HD3 hk3 hr3 dJ kX k14 nQ Cx HD4 hk4 hr4 c14 cX HU h5;by_cases h3:je=0
    ·subst h3
     rw [if_neg (by simp)] at df;have CF:=ae df;clear df;go_wp2_with fail;go_roundw
     case rel=>exact ⟨k+1,jV,by omega,by go_num,CF,T5,k15,yI,lK,HD5,hk5,hr5⟩
     case measure=>simp [intOf];omega
    ·have h3':(je != 0)=true:=by simpa using h3
     rw [if_pos h3] at df;have yH:=ae RZ.out;rw [←df,if_pos h3] at yH;clear df h3;go_wp2_with fail;change bodyPostM _ _ _ _ _ _ _ (aL w5 (w.heap.size+3) ⟨pg,nn,f,bk,ev,node,live,K,true⟩ (.slice A m cap));have aR:=aG lK ⟨pg,nn,f,bk,ev,node,live,K,true⟩ (.slice A m cap);have F9:=aH w5 (w.heap.size+3) ⟨pg,nn,f,bk,ev,node,live,K,true⟩ (.slice A m cap);generalize aL w5 (w.heap.size+3) ⟨pg,nn,f,bk,ev,node,live,K,true⟩ (.slice A m cap)=w9 at *;dsimp only [ai] at aR;have bV:=aR.cell;refine iw (v:=.tuple #[.agg (ai ⟨pg,nn,f,bk,ev,node,live,K,true⟩ (.slice A m cap)),.int .i64 je]) (by simp [results,results21,go_sem,bV,ai]) ?_;have T9:=T5.fresh F9 (fun k hk=>by subst hk;omega) (fun k hk=>by subst hk;exact ⟨_,_,lK,by decide,by decide,by decide,by decide⟩);have mg:=hk5.far F9 (fun g cs hg e=>by subst e;exact lK.ne hg);have SF:=jW.refl w.heap.size w9;rw [yH.out];exact ⟨_,rfl,⟨A,cap,by rw [(hm).out],by rw [(hm).out];exact hcap,hcm,mg.soft SF⟩,T9.soft (Nat.le_refl _) SF⟩
   ·obtain rfl:k=ln:=by omega
    have hlt':decide ((k:Int)<(k:Int))=false:=by simp
    have xV:P=(0,U):=by rw [←hU.out,List.drop_of_length_le (by rw [hln.out];omega)];rfl
    have qp:=RZ.out;rw [xV] at qp;dsimp only at qp;rw [if_neg (by simp)] at qp;have HE:=ae (fun W h=>wP bs pg nn U W h);obtain ⟨E,hE⟩:=aj (bJ U pg nn 1 1 0);rw [hE] at qp HE;obtain ⟨ee,eV⟩:=E;dsimp only at qp HE;clear hU hE xV RZ;go_wp2_with fail;refine (HE.out _ T3.sys).mono ?_;rintro e w5 ⟨rfl,h5⟩;have S5:=aS.iK T3.sys T3.eD h5;have T5:=T3.trans S5;have yI:=S5.blk T3.sys mH;have lK:=S5.blk T3.sys tZ;have HD5:=HD3.both T3.sys S5;have hk5:=S5.kept T3.sys hk3;have R5:=yI.cell;have c45:=lK.cell;have f45:=lK.frozen;clear T3 k13 mH tZ HD3 hk3 hr3 c13 Mm h5 HE;by_cases h3:ee=0
    ·subst h3
     rw [if_neg (by simp)] at qp;have yH:=ae qp;clear qp;go_wp2_with fail;change bodyPostM _ _ _ _ _ _ _ (aL w5 (w.heap.size+3) bn (.slice none 0 0));have aR:=aG lK bn (.slice none 0 0);have F9:=aH w5 (w.heap.size+3) bn (.slice none 0 0);generalize aL w5 (w.heap.size+3) bn (.slice none 0 0)=w9 at *;dsimp only [ai] at aR;have bV:=aR.cell;refine iw (v:=.tuple #[.agg (ai bn (.slice none 0 0)),.int .i64 0]) (by simp [results,results21,go_sem,bV,ai]) ?_;have T9:=T5.fresh F9 (fun k hk=>by subst hk;omega) (fun k hk=>by subst hk;exact ⟨_,_,lK,by decide,by decide,by decide,by decide⟩);have SF:=jW.refl w.heap.size w9;rw [yH.out];exact ⟨_,rfl,⟨none,0,rfl,Nat.le_refl _,by unfold maxLen;omega,KeptAt.none _ _⟩,T9.soft (Nat.le_refl _) SF⟩
    ·have h3':(ee != 0)=true:=by simpa using h3
     rw [if_pos h3] at qp;have yH:=ae qp;clear qp h3;go_wp2_with fail;change bodyPostM _ _ _ _ _ _ _ (aL w5 (w.heap.size+3) ⟨pg,nn,f,bk,ev,node,live,K,true⟩ (.slice A m cap));have aR:=aG lK ⟨pg,nn,f,bk,ev,node,live,K,true⟩ (.slice A m cap);have F9:=aH w5 (w.heap.size+3) ⟨pg,nn,f,bk,ev,node,live,K,true⟩ (.slice A m cap);generalize aL w5 (w.heap.size+3) ⟨pg,nn,f,bk,ev,node,live,K,true⟩ (.slice A m cap)=w9 at *;dsimp only [ai] at aR;have bV:=aR.cell;refine iw (v:=.tuple #[.agg (ai ⟨pg,nn,f,bk,ev,node,live,K,true⟩ (.slice A m cap)),.int .i64 ee]) (by simp [results,results21,go_sem,bV,ai]) ?_;have T9:=T5.fresh F9 (fun k hk=>by subst hk;omega) (fun k hk=>by subst hk;exact ⟨_,_,lK,by decide,by decide,by decide,by decide⟩);have mg:=hk5.far F9 (fun g cs hg e=>by subst e;exact lK.ne hg);have SF:=jW.refl w.heap.size w9;rw [yH.out];exact ⟨_,rfl,⟨A,cap,by rw [(hm).out],by rw [(hm).out];exact hcap,hcm,mg.soft SF⟩,T9.soft (Nat.le_refl _) SF⟩
 have h1':cl=false:=by simpa using h1
 subst h1';clear h1;rw [if_neg (by simp)] at hR;have hlv:=xe.AU;have hlv1:=Int.le_trans xe.Dj (zm xe.plan);have jN:=xe.can;have hnd:=xe.node;simp only at hlv hlv1 jN hnd;obtain ⟨nd,rfl⟩:∃nd:Nat,node=nd:=⟨node.toNat,by omega⟩;have KO:=hnl rfl;rw [Int.toNat_natCast] at hR KO;have zK:Go.Pol.Can (bG 0 live):=lZ (by omega) hlv1;have Bu:=ng (K++bG 0 live);have HB:=ae (fun W=>wW 0 live W (by omega) (by omega));have HU:=ae (fun W (A2:Option Addr) (c2:Nat) h1 h2 h3 h4=>yB A A2 m cap (bG 0 live).length c2 K (bG 0 live) W hm.out hcap hcm h1 rfl h2 h3 h4 jN zK);generalize setOf (K++bG 0 live)=all at *;generalize bG 0 live=L2 at *;have yF:=zo Bu hp;have Mi:=Bu.len;obtain ⟨al,Cw⟩:=aj (all.length);have hal:=ae Cw;rw [Cw] at Mi;unfold nV at HU;rw [Cw] at HU;clear Cw jN zK hnl hZ xe;refine bM func21 rfl ?_;simp only [ntmps21,List.size_toArray,List.length_cons,List.length_nil,Nat.reduceAdd,Nat.reduceSub,Array.replicate_succ,Array.replicate_zero,List.push_toArray,List.append_toArray,List.nil_append,List.cons_append];go_upto_region 1 with fail
 rw [←hw0];have c1:=k1.cell;have c2:=k2.cell;have c3:=k3.cell;clear hw0;go_wp2_with fail;refine (HK.out _ (hV.call hb0) (hB.call hb0) hr0.out).mono ?_;rintro e w1 ⟨rfl,hb1⟩;have k11:=k1.call hb1;have k21:=k2.call hb1;have lh:=k3.call hb1;have iQ:=k4.call hb1;have B1:=hb0.trans (hb1.mono hb0.size);have c11:=k11.cell;have c21:=k21.cell;have c31:=lh.cell;have G7:=iQ.cell;have f41:=iQ.frozen;clear HK k1 k2 k3 k4 hb0 hr0 hb1 c1 c2 c3;go_upto_region 5 with fail
 have hS:GD (w.heap.size+2) live (.slice A m cap) w1:=⟨lh.cell 6,lh.cell 7⟩;have Oi:=k11.call ((Below.refl _ w1).drew);have YH:=k21.call ((Below.refl _ w1).drew);have YI:=lh.call ((Below.refl _ w1).drew);have YJ:=iQ.call ((Below.refl _ w1).drew);have Oj:=B1.trans ((Below.refl w1.heap.size w1).drew.mono B1.size);have Ol:=ae ((gI.out.call Oj).ru);have hS:=hS.call ((Below.refl _ w1).drew);refine bO ?_;refine bD (GD (w.heap.size+2) live (.slice A m cap)) [] (by kernel_rfl) ?_;generalize w1.drew=wd at *;clear k11 k21 lh iQ B1 c11 c21 c31 G7 f41;refine aX 0 hS ?_;refine aX 1 hS ?_;refine aX 2 hS ?_;refine aX 3 hS ?_;refine fu 4 fun K hK=>?_
 go_simp;refine (HB.out wd).mono ?_;rintro (e w2 ⟨A2,c2,rfl,En,hl2,hc2,_,hb2⟩);refine hK.out _ _ (fun _=>hS.call hb2) (fun hS=>?_);clear hK K;replace hS:=hS rfl;try simp only [Act.put,gM,gN,gP]
 have k12:=Oi.call hb2;have k22:=YH.call hb2;have iU:=YI.call hb2;have gU:=YJ.call hb2;have B2:=Oj.trans (hb2.mono Oj.size);have hr2:=Ol.out.on hb2;refine fu 5 fun K hK=>?_
 go_simp;refine (HU.out w2 A2 c2 hr2 hl2 hc2 En).mono ?_;rintro (e w3 ⟨A3,c3,rfl,xI,hl3,hc3,hb3⟩);refine hK.out _ _ (fun _=>hS.call hb3) (fun hS=>?_);clear hK K;replace hS:=hS rfl;try simp only [Act.put,gM,gN,gP]
 have k13:=k12.call hb3;have k23:=k22.call hb3;have mH:=iU.call hb3;have tZ:=gU.call hb3;have B3:=B2.trans (hb3.mono B2.size);clear HB HU En hl2 Oi YH YI YJ Oj Ol k12 k22 iU gU B2 hr2 hb2 hb3;refine aX 6 hS ?_;refine aX 7 hS ?_;refine aX 8 hS ?_;refine aX 9 hS ?_;refine aX 10 hS ?_;refine bz (by kernel_rfl) ?_ _;refine aT ?_;clear hS;have hk3:=xI;have kf:=ag.new w3 36 #[.int .i64 0];have dJ:=aV w3 (.cells #[.int .i64 0] 36);have k14:=k13.call dJ;have k24:=k23.call dJ;have nQ:=mH.call dJ;have Cx:=tZ.call dJ;have hk4:=hk3.call dJ;have B4:=B3.trans (dJ.mono B3.size);have hgs:w.heap.size+4≤w3.heap.size:=by have:=tZ.lt;omega
 obtain ⟨gf,hgf⟩:=aj (w3.heap.size);rw [hgf] at kf hgs;go_upto_region 7 with fail
 generalize w3.alloc _=w4 at *;clear k13 k23 mH tZ hk3 xI B3 dJ;have YR:=ae (Gn A3 al c3 all w4 hal.out (by omega) hk4.ru);have KR:ag w4 (w.heap.size+1+1) 43 #[.int .i64 pg,.int .i64 nn,.int .i64 f,.int .i64 bk,.int .i64 ev,.int .i64 nd,.int .i64 live,.slice A m cap,.bool false]:=nQ;go_upto_region 8 with (go_at_call 66;refine YR.out.mono ?_;rintro e w5 ⟨v5,rfl,Dh,hb5⟩;obtain ⟨A5,c5,rfl,hk5,hl5,OB⟩:=KeptAt.own Dh hal.out;have f35:=(KR.call hb5).frozen;have R5:=(KR.call hb5).cell)
 have k16:=((k14.call hb5).far (p:=⟨w.heap.size+1+1,6,none⟩) (by show w.heap.size≠w.heap.size+1+1;omega) (.int .i64 0)).far (p:=⟨w.heap.size+1+1,7,none⟩) (by show w.heap.size≠w.heap.size+1+1;omega) (.slice A5 al c5);have k26:=((k24.call hb5).far (p:=⟨w.heap.size+1+1,6,none⟩) (by show w.heap.size+1≠w.heap.size+1+1;omega) (.int .i64 0)).far (p:=⟨w.heap.size+1+1,7,none⟩) (by show w.heap.size+1≠w.heap.size+1+1;omega) (.slice A5 al c5);have JF:=((KR.call hb5).aO 6 (.int .i64 0)).aO 7 (.slice A5 al c5);have RN:=((Cx.call hb5).far (p:=⟨w.heap.size+1+1,6,none⟩) (by show w.heap.size+3≠w.heap.size+1+1;omega) (.int .i64 0)).far (p:=⟨w.heap.size+1+1,7,none⟩) (by show w.heap.size+3≠w.heap.size+1+1;omega) (.slice A5 al c5);have YS:=((kf.call hb5).far (p:=⟨w.heap.size+1+1,6,none⟩) (by show gf≠w.heap.size+1+1;omega) (.int .i64 0)).far (p:=⟨w.heap.size+1+1,7,none⟩) (by show gf≠w.heap.size+1+1;omega) (.slice A5 al c5);have F6:af (fun k=>k=w.heap.size+1+1) w5 ((w5.setCell ⟨w.heap.size+1+1,6,none⟩ (.int .i64 0)).setCell ⟨w.heap.size+1+1,7,none⟩ (.slice A5 al c5)):=af.setCell (T:=fun k=>k=w.heap.size+1+1) (p:=⟨w.heap.size+1+1,7,none⟩) (af.setCell (T:=fun k=>k=w.heap.size+1+1) (p:=⟨w.heap.size+1+1,6,none⟩) (af.refl _ w5) (fun _=>rfl) (.int .i64 0)) (fun _=>rfl) (.slice A5 al c5);have acv:=hk5.far F6 (fun g cs hg e=>by subst e;exact (KR.call hb5).ne hg);have acw:=(hk4.call hb5).far F6 (fun g cs hg e=>by subst e;exact (KR.call hb5).ne hg);have B6:=(B4.trans (hb5.mono B4.size)).setCell (p:=⟨w.heap.size+1+1,6,none⟩) (by show w.heap.size≤w.heap.size+1+1;omega) (.int .i64 0) |>.setCell (p:=⟨w.heap.size+1+1,7,none⟩) (by show w.heap.size≤w.heap.size+1+1;omega) (.slice A5 al c5)
 generalize (w5.setCell ⟨w.heap.size+1+1,6,none⟩ (.int .i64 0)).setCell ⟨w.heap.size+1+1,7,none⟩ (.slice A5 al c5)=w6 at *;simp only [List.setIfInBounds_toArray,List.set_cons_zero,List.set_cons_succ] at JF;have c36:=JF.cell;have hg6:gf<w6.heap.size:=YS.lt;clear k14 k24 nQ KR Cx hk4 B4 hk5 Dh f35 R5 F6 YR hb5;have zL:=below_alloc2 (aV w6 (.cells (ai ⟨pg,nn,f,bk,ev,nd,0,all,false⟩ (.slice A5 al c5)) 43)) (.cells #[.slice A3 al c3] 41);have kB1:=(ag.new w6 43 (ai ⟨pg,nn,f,bk,ev,nd,0,all,false⟩ (.slice A5 al c5))).dU (.cells #[.slice A3 al c3] 41);have kB2:=ag.nL w6 (.cells (ai ⟨pg,nn,f,bk,ev,nd,0,all,false⟩ (.slice A5 al c5)) 43) 41 #[.slice A3 al c3];have vP:=ae (Ep _ (.slice A5 al c5) ⟨pg,nn,f,bk,ev,nd,0,all,false⟩ w6 rfl A3 al c3);dsimp only [ai] at zL kB1 kB2 vP
 go_wp2_with (go_at_call 58;refine vP.out.mono ?_;rintro e w7 ⟨rfl,hw7⟩)
 rw [←hw7] at zL kB1 kB2 ⊢;obtain ⟨B1,hB1⟩:=aj (w6.heap.size);rw [hB1] at kB1 kB2 hg6;have k17:=k16.call zL;have k27:=k26.call zL;have tV:=JF.call zL;have EZ:=RN.call zL;have kf7:=YS.call zL;have acx:=acv.call zL;have UE:=acw.call zL;have B7:=B6.trans (zL.mono B6.size);have hsB:w.heap.size+4≤B1:=by omega
 have aim:bs<B1:=by have:=hV.lt;omega
 have OH:=ae (Cq ⟨pg,nn,f,bk,ev,nd,0,all,false⟩ (.slice A5 al c5) B1 (B1+1) A3 al c3 all (fun k=>k=B1∨k=B1+1∨(all≠[]∧∃o,A3=some ⟨k,o,none⟩)) w7 hp Bu hal.out hl3 hc3 (.inl rfl) (.inr (.inl rfl)) (fun hn g o e=>.inr (.inr ⟨hn,o,e⟩)) kB1 kB2 UE.ru);have UA:∀k,(k=B1∨k=B1+1∨(all≠[]∧∃o,A3=some ⟨k,o,none⟩))→k<w7.heap.size:=fun k hk=>by
  rcases hk with rfl|rfl|⟨hn,o,e⟩
  ·exact kB1.lt
  ·exact kB2.lt
  ·obtain ⟨cs,hc⟩:=UE.block hn e
   exact hc.lt
 clear k16 k26 JF RN YS acv acw B6 zL hw7 c36 vP;simp only at OH;obtain ⟨XS,VZ⟩:=aj (bS all 0 (aA pg (nn:Int) f bk ev));rw [VZ] at OH hR yF;clear VZ;simp only [hB1];have acy:nM w7 (w.heap.size+1+1) ⟨pg,nn,f,bk,ev,nd,0,all,false⟩:=⟨A5,c5,by simp only;rw [hal.out];exact tV,acx,by simp only;rw [hal.out];exact hl5,OB⟩;refine Oz 12 45 137 (by rfl) xJ OH.out rfl UA
  (fun pre W=>∃S,Hid (pre.foldl (dD nd) (V,L,all,0)=S)∧aS bs bb S.1 S.2.1 w W∧ag W w.heap.size 44 #[.pointer (some ⟨bs,0,none⟩)]∧ag W (w.heap.size+1) 45 #[.pointer (some ⟨bb,0,none⟩)]∧nM W (w.heap.size+1+1) ⟨pg,nn,f,bk,ev,nd,0,S.2.2.1,false⟩∧ag W (w.heap.size+3) 43 #[.int .i64 0,.int .i64 0,.int .i64 0,.int .i64 0,.int .i64 0,.int .i64 0,.int .i64 0,.slice none 0 0,.bool false]∧ag W gf 36 #[.int .i64 S.2.2.2]∧(∃cs,ag W B1 43 cs)∧(∃cs,ag W (B1+1) 41 cs)∧KeptAt W A3 all)
  (fun _ _ _=>False) ?hI (fun _ _ _ _ h _=>h.elim) ⟨_,ae rfl,.below hV hB B7,k17,k27,acy,EZ,kf7,⟨_,kB1⟩,⟨_,kB2⟩,UE⟩ ?assign ?body ?done (fun _ _ _ _ _ h _=>h.elim)
 case hI =>
  rintro pre WA WB ⟨S,h1,h2,h3,h4,h5,h6,h7,⟨c8,h8⟩,⟨c9,h9⟩,h10⟩ hs;have hN:w.heap.size≤w7.heap.size:=B7.size;exact ⟨S,h1,h2.soft hN hs,hs.blk h3,hs.blk h4,h5.soft hs,hs.blk h6,hs.blk h7,⟨c8,hs.blk h8⟩,⟨c9,hs.blk h9⟩,h10.soft hs⟩
 case assign =>
  intro mm l x W C hC;obtain ⟨xa,xb,xn⟩:=x;simp only [oM,List.setIfInBounds_toArray,List.set_cons_succ,List.set_cons_zero] at hC ⊢
  gi_wp2
  exact hC
 case body =>
  rintro mm l X pre x Bx W hs2 hX hD hE ⟨S,hS,T1,k1,k2,sN,k4,kf,⟨c8,Cy⟩,⟨c9,Cz⟩,OJ⟩ kx hpre;simp only [List.setIfInBounds_toArray,List.set_cons_succ,List.set_cons_zero];have kZ:=yF x (hpre.subset (by simp));have hfo:=Ct pre (V,L,all,0) (fun y hy=>yF y (hpre.subset (by simp [hy]))) hO KO Bu;rw [hS.out] at hfo;have hst:Hid ((pre++[x]).foldl (dD nd) (V,L,all,0)=dD nd S x):=ae (by rw [List.foldl_append,hS.out];rfl);unfold dD at hst;obtain ⟨xa,xb,xn⟩:=x;obtain ⟨SV,SL,Sk,Sf⟩:=S;simp only at T1 sN kf hfo hst kZ;obtain ⟨q,cq,k3,hk3,yJ,xK⟩:=sN.ex;simp only at k3 hk3 yJ;obtain ⟨sl,hsl0⟩:=aj (Sk.length);have hsl:=ae hsl0;rw [hsl0] at k3 yJ;have Cu:∀k t cs,ag W k t cs→t≠140→t≠41→(t=43→k≠B1)→¬((k=B1∨k=B1+1∨(all≠[]∧∃o,A3=some ⟨k,o,none⟩))∨X k∨k=w7.heap.size∨k=w7.heap.size+1):=by
   intro k t cs hb h1 h2 h3 hz;rcases hz with (h|h|⟨hn,o,h⟩)|h|h|h
   ·by_cases e:t=43
    ·exact h3 e h
    ·subst h;exact hb.ne Cy e
   ·subst h;exact hb.ne Cz h2
   ·obtain ⟨cs',hc'⟩:=OJ.block hn h;exact hb.ne hc' h1
   ·obtain ⟨cs',hc'⟩:=hX k h;exact hb.ne hc' h1
   ·subst h;exact hD _ _ hb
   ·subst h;exact hE _ _ hb
  have noT:∀k,(l9 W bs bb k∨k=w.heap.size+1+1∨k=gf)→¬((k=B1∨k=B1+1∨(all≠[]∧∃o,A3=some ⟨k,o,none⟩))∨X k∨k=w7.heap.size∨k=w7.heap.size+1):=by
   rintro k ((rfl|⟨_,cs,hc⟩)|rfl|rfl)
   ·obtain ⟨cs,hc⟩:=T1.sys.typed
    exact Cu _ _ _ hc (by decide) (by decide) (fun h=>absurd h (by decide))
   ·exact Cu _ _ _ hc (by decide) (by decide) (fun h=>absurd h (by decide))
   ·exact Cu _ _ _ k3 (by decide) (by decide) (fun _=>by omega)
   ·exact Cu _ _ _ kf (by decide) (by decide) (fun h=>absurd h (by decide))
  have KQ:=ae noT;have aiz:=ae OJ;clear Cu noT hD hE hX hsl0 hS sN;have RS:=ae (fun W h=>uV bs xa xb SV W h);obtain ⟨J,hJ⟩:=aj (bJ SV xa xb 3 2 1);rw [hJ] at RS hst;obtain ⟨je,jV⟩:=J;simp only at RS hst;have c1:=k1.cell;have cx:=kx.cell;clear hJ
  gi_wp2_with fail
  refine (callsIn_wide.2 (RS.out _ T1.sys)).mono ?_;rintro e w1 ⟨rfl,h1⟩;have S1:=aS.iK T1.sys T1.eD h1;have k12:=S1.blk T1.sys k1;have k22:=S1.blk T1.sys k2;have iU:=S1.blk T1.sys k3;have gU:=S1.blk T1.sys k4;have Dz:=S1.blk T1.sys kf;have gp:=S1.blk T1.sys kx;have Ha:=S1.blk T1.sys Cy;have Hd:=S1.blk T1.sys Cz;have Hf:=S1.kept T1.sys hk3;have KP:=S1.kept T1.sys aiz.out;by_cases hj0:je=0
  ·subst hj0
   rw [if_pos rfl] at hst;have df:=ae hst.out;have HG:=ae (fun W h=>Bh bb nd xb SL W h hfo.1 hfo.2.1);have HM:=ae (fun W A2 h h2=>uH q A2 sl cq 1 1 Sk [(xn,xb)] W hsl.out yJ xK h rfl (Nat.le_refl _) (by unfold maxLen;omega) h2 hfo.2.2 (Can.one kZ));unfold nV at HM;generalize ay Sk (aZ [(xn,xb)] (0,1024))=JH at *;generalize iT SL nd xb=G at *;have YG:=k22.cell;have c32:=iU.cell;have Nt:=gp.cell;clear c1 cx k1 k2 k3 k4 kf kx Cy Cz OJ hk3 hst RS
   gi_wp2_with fail
   refine (callsIn_wide.2 (HG.out _ S1.eD)).mono ?_;rintro e w2 ⟨rfl,h2⟩;have S2:=S1.trans (aS.mi S1.sys h2);have S2':=aS.mi S1.sys h2;have k13:=S2'.blk S1.sys k12;have k23:=S2'.blk S1.sys k22;have mH:=S2'.blk S1.sys iU;have tZ:=S2'.blk S1.sys gU;have kf3:=S2'.blk S1.sys Dz;have kv:=S2'.blk S1.sys gp;have yK:=S2'.blk S1.sys Ha;have acz:=S2'.blk S1.sys Hd;have acA:=S2'.kept S1.sys Hf;have acB:=S2'.kept S1.sys KP;clear k12 k22 iU gU Dz gp Ha Hd Hf KP YG c32 Nt S2' h1 h2 S1 HG
   gi_upto_region 13 with fail
   have hS:Rz (w.heap.size+1+1) (.slice q sl cq) Bx (.int .i64 xa) (.int .i64 xb) (.int .i64 xn) w2:=⟨mH.cell 7,kv.cell 0,kv.cell 1,kv.cell 2⟩;have hbd:=(Below.refl w2.heap.size w2).drew;have S3:=S2.aU hbd;have k14:=k13.call hbd;have k24:=k23.call hbd;have nQ:=mH.call hbd;have Cx:=tZ.call hbd;have Ob:=kf3.call hbd;have OQ:=yK.call hbd;have acD:=acz.call hbd;have acE:=acA.call hbd;have acF:=acB.call hbd;have hS:=hS.call hbd;refine Js ?_;refine Gq (Rz (w.heap.size+1+1) (.slice q sl cq) Bx (.int .i64 xa) (.int .i64 xb) (.int .i64 xn)) [6,7,8,9] (by kernel_rfl) (by kernel_rfl) ?hlo ?_
   case hlo=>rintro ⟨a,w,h⟩;exact h
   generalize w2.drew=wd at *;clear k13 k23 mH tZ kf3 kv yK acz acA acB S2 hbd;refine aX 0 hS ?_;refine aX 1 hS ?_;refine aX 2 hS ?_;refine fu 3 fun K hK=>?_
   go_simp;refine ((Cm xa xb xn wd)).mono ?_;rintro (e w4 ⟨g4,rfl,Ox,hg4,hb4⟩);refine hK.out _ _ (fun _=>hS.call hb4) (fun hS=>?_);clear hK K;replace hS:=hS rfl;try simp only [Act.put,gM,gN,gP]
   have HM4:=ae (HM.out w4 _ (acE.call hb4).ru Ox);rw [show sl=sl from rfl] at HM4;refine fu 4 fun K hK=>?_
   go_simp;refine (HM4.out).mono ?_;rintro (e w5 ⟨Hg,Hl,rfl,aiB,aiC,ae7,acG⟩);refine hK.out _ _ (fun _=>hS.call acG) (fun hS=>?_);clear hK K;replace hS:=hS rfl;try simp only [Act.put,gM,gN,gP]
   have uI:=hb4.trans (acG.mono hb4.size);have S5:=S3.aU uI;have k15:=k14.call uI;have k25:=k24.call uI;have yI:=nQ.call uI;have lK:=Cx.call uI;have L8:=Ob.call uI;have acH:=OQ.call uI;have acI:=acD.call uI;have acJ:=acF.call uI;refine aX 5 hS ?_;refine fD 6 ?_;refine fD 7 ?_;refine fD 8 ?_;have R5:=yI.cell;have f35:=yI.frozen;refine fu 9 fun K hK=>?_
   go_simp;refine hK.out _ _ (fun h=>absurd h (by decide)) (fun _=>?_);clear hK K;refine bz (by kernel_rfl) ?_ _;refine aT ?_;have FS:=af.setCell (T:=fun k=>k=w.heap.size+1+1) (p:=⟨w.heap.size+1+1,7,none⟩) (af.refl _ w5) (fun _=>rfl) (.slice Hg JH.length Hl);have T6:=(T1.trans S5).fresh FS (fun k hk=>by rw [hk];omega) (fun k hk=>by rw [hk];exact ⟨_,_,yI,by decide,by decide,by decide,by decide⟩);have FF:af (fun k=>l9 W bs bb k∨k=w.heap.size+1+1∨k=gf) W (w5.setCell ⟨w.heap.size+1+1,7,none⟩ (.slice Hg JH.length Hl)):=(S5.far.mono (fun _ _ h=>.inl h)).trans' FS (fun _ _ h=>.inr (.inl h));have k16:=k15.far (p:=⟨w.heap.size+1+1,7,none⟩) (by show w.heap.size≠w.heap.size+1+1;omega) (.slice Hg JH.length Hl);have k26:=k25.far (p:=⟨w.heap.size+1+1,7,none⟩) (by show w.heap.size+1≠w.heap.size+1+1;omega) (.slice Hg JH.length Hl);have JF:=yI.aO 7 (.slice Hg JH.length Hl);have RN:=lK.far (p:=⟨w.heap.size+1+1,7,none⟩) (by show w.heap.size+3≠w.heap.size+1+1;omega) (.slice Hg JH.length Hl);have YS:=L8.far (p:=⟨w.heap.size+1+1,7,none⟩) (by show gf≠w.heap.size+1+1;omega) (.slice Hg JH.length Hl);have aiD:=acH.far (p:=⟨w.heap.size+1+1,7,none⟩) (by show B1≠w.heap.size+1+1;omega) (.slice Hg JH.length Hl);have aiE:=acI.far (p:=⟨w.heap.size+1+1,7,none⟩) (by show B1+1≠w.heap.size+1+1;omega) (.slice Hg JH.length Hl);have vO:=aiB.far FS (fun g cs hg e=>by subst e;exact yI.ne hg);have aiF:=acJ.far FS (fun g cs hg e=>by subst e;exact yI.ne hg);generalize w5.setCell ⟨w.heap.size+1+1,7,none⟩ (.slice Hg JH.length Hl)=w6' at *;simp only [List.setIfInBounds_toArray,List.set_cons_zero,List.set_cons_succ] at JF;clear k14 k24 nQ Cx Ob OQ acD acE acF k15 k25 yI lK L8 acH acI acJ R5 f35 HM HM4 hS FS
   gi_wp2_with fail
   exact ⟨FF.mono (fun k _ h=>KQ.out k h),_,df,T6,k16,k26,⟨Hg,Hl,JF,vO,aiC,ae7⟩,RN,YS,⟨_,aiD⟩,⟨_,aiE⟩,aiF⟩
  ·have aio:(je==0)=false:=by simpa using hj0
   rw [if_neg hj0] at hst;have cf2:=Dz.cell;have ff2:=Dz.frozen;have FFs:=S1.far.mono (fun _ _ h=>.inl h:∀k,k<W.heap.size→l9 W bs bb k→(l9 W bs bb k∨k=w.heap.size+1+1∨k=gf));clear c1 cx k1 k2 k3 k4 kf kx Cy Cz OJ hk3 RS h1;by_cases o7:Sf=0
   ·subst o7
    rw [if_pos rfl] at hst;have df:=ae hst.out;clear hst
    gi_wp2_with fail
    have FS:=af.setCell (T:=fun k=>k=gf) (p:=⟨gf,0,none⟩) (af.refl _ w1) (fun _=>rfl) (.int .i64 je);have T6:=(T1.trans S1).fresh FS (fun k hk=>by rw [hk];omega) (fun k hk=>by rw [hk];exact ⟨_,_,Dz,by decide,by decide,by decide,by decide⟩);refine ⟨(FFs.trans' FS (fun _ _ h=>.inr (.inr h))).mono (fun k _ h=>KQ.out k h),_,df,T6,k12.far (by show w.heap.size≠gf;omega) _,k22.far (by show w.heap.size+1≠gf;omega) _,⟨q,cq,?_,Hf.far FS (fun g cs hg e=>by subst e;exact Dz.ne hg),by simp only;rw [hsl.out];exact yJ,xK⟩,gU.far (by show w.heap.size+3≠gf;omega) _,Dz.aO 0 (.int .i64 je),⟨_,Ha.far (by show B1≠gf;omega) _⟩,⟨_,Hd.far (by show B1+1≠gf;omega) _⟩,KP.far FS (fun g cs hg e=>by subst e;exact Dz.ne hg)⟩;simp only;rw [hsl.out];exact iU.far (by show w.heap.size+1+1≠gf;omega) _
   ·have YT:(Sf==0)=false:=by simpa using o7
    rw [if_neg o7] at hst;have df:=ae hst.out;clear hst o7
    gi_wp2_with fail
    exact ⟨FFs.mono (fun k _ h=>KQ.out k h),_,df,T1.trans S1,k12,k22,⟨q,cq,by simp only;rw [hsl.out];exact iU,Hf,by simp only;rw [hsl.out];exact yJ,xK⟩,gU,Dz,⟨_,Ha⟩,⟨_,Hd⟩,KP⟩
 case done =>
  rintro W hs2 ⟨S,hS,T1,k1,k2,sN,k4,kf,_,_,_⟩ hd;rw [hS.out] at hR;obtain ⟨SV,SLx,Sk,Sf⟩:=S;simp only at T1 sN kf hR;obtain ⟨q,cq,k3,hk3,yJ,xK⟩:=sN.ex;simp only at k3 hk3 yJ;obtain ⟨sl,hsl0⟩:=aj (Sk.length);have hsl:=ae hsl0;rw [hsl0] at k3 yJ;have GU:w.heap.size≤w7.heap.size:=B7.size;have HD0:mK (some w7.heap.size) W:=fun D e=>by cases e;exact hd
  generalize w7.heap.size=D at *;clear hsl0 hS sN OH UA k17 k27 tV EZ kf7 acx UE B7 acy hd hs2;have cf:=kf.cell;by_cases o7:Sf=0
  case neg =>
   have YT:(Sf != 0)=true:=by simpa using o7
   rw [if_pos o7] at hR;have yH:=ae hR.symm;clear hR o7;have f4:=k4.frozen;go_upto_region 17 with fail
   have hbd:=(Below.refl W.heap.size W).drew;have T2:=T1.aU hbd;have iU:=k3.call hbd;have gU:=k4.call hbd;have Dz:=kf.call hbd;have Hf:=hk3.call hbd;have HD2:=HD0.call hbd;refine bO ?_;refine bD (RA (w.heap.size+1+1) ⟨pg,nn,f,bk,ev,nd,0,Sk,false⟩ (.slice q sl cq) gf Sf) [3] (by kernel_rfl) ?_;generalize W.drew=wd at *;have hS:RA (w.heap.size+1+1) ⟨pg,nn,f,bk,ev,nd,0,Sk,false⟩ (.slice q sl cq) gf Sf wd:=RA.of iU Dz;dsimp only [RA] at hS ⊢;clear k3 k4 kf hk3 HD0 f4 cf T1;refine aX 0 hS ?_;refine aX 1 hS ?_;have VV:=gU.cell;have f42:=gU.frozen;have aR:=aG gU ⟨pg,nn,f,bk,ev,nd,0,Sk,false⟩ (.slice q sl cq);have F9:=aH wd (w.heap.size+3) ⟨pg,nn,f,bk,ev,nd,0,Sk,false⟩ (.slice q sl cq);have sM:=F9.blk iU (by show ¬w.heap.size+1+1=w.heap.size+3;omega);have kf9:=F9.blk Dz (by show ¬gf=w.heap.size+3;omega);have xg:=HD2.far F9 (fun k hk=>by rw [hk];exact ⟨_,_,gU⟩);have T9:=T2.fresh F9 (fun k hk=>by rw [hk];omega) (fun k hk=>by rw [hk];exact ⟨_,_,gU,by decide,by decide,by decide,by decide⟩);have mg:=Hf.far F9 (fun g cs hg e=>by subst e;exact gU.ne hg);refine fu 2 fun K hK=>?_
   go_simp;refine hK.out _ (aL wd (w.heap.size+3) ⟨pg,nn,f,bk,ev,nd,0,Sk,false⟩ (.slice q sl cq)) (fun _=>RA.of sM kf9) (fun _=>?_);clear hK K hS VV f42 iU gU Dz Hf HD2;generalize aL wd (w.heap.size+3) ⟨pg,nn,f,bk,ev,nd,0,Sk,false⟩ (.slice q sl cq)=w9 at *;try simp only [Act.put,gM,gN,gP]
   refine fD 3 ?_;refine bz (by kernel_rfl) ?_ _;refine aT ?_;go_wp2_with fail;have Hm:=(af.putObj (T:=fun k=>k=D) (af.refl _ w9) (fun _=>rfl) (.deferred none)).blk aR (fun e=>lH (xg _ rfl) (fun _ _ _ h=>by cases h) _ _ (e ▸ aR));dsimp only [ai] at Hm;have R6:=Hm.cell;refine eY (v:=.tuple #[.agg (ai ⟨pg,nn,f,bk,ev,nd,0,Sk,false⟩ (.slice q sl cq)),.int .i64 Sf]) (xg _ rfl) (by simp [results,results21,go_sem,R6,ai]) ?_;have SF:=xg.soft GU;rw [yH.out];exact ⟨_,rfl,⟨q,cq,by rw [hsl.out],by rw [hsl.out];exact yJ,xK,mg.soft SF⟩,T9.soft (Nat.le_refl _) SF⟩
  subst o7;rw [if_neg (by simp)] at hR;unfold fT at hR;simp only at hR;have HS:=ae (fun W h=>zZ bs SV pg f bk ev nn W h hp0 hpn);unfold eQ at HS;have c3:=k3.cell;have f3:=k3.frozen;have c1:=k1.cell;go_upto_region 19 with fail
  have FS:=af.setCell (T:=fun k=>k=w.heap.size+1+1) (p:=⟨w.heap.size+1+1,8,none⟩) (af.refl _ W) (fun _=>rfl) (.bool true);have Tt:=T1.fresh FS (fun k hk=>by rw [hk];omega) (fun k hk=>by rw [hk];exact ⟨_,_,k3,by decide,by decide,by decide,by decide⟩);have We:=k1.far (p:=⟨w.heap.size+1+1,8,none⟩) (by show w.heap.size≠w.heap.size+1+1;omega) (.bool true);have kt3:ag (W.setCell ⟨w.heap.size+1+1,8,none⟩ (.bool true)) (w.heap.size+2) 43 _:=k3.aO 8 (.bool true);have kt4:=k4.far (p:=⟨w.heap.size+1+1,8,none⟩) (by show w.heap.size+3≠w.heap.size+1+1;omega) (.bool true);have HDt:=HD0.far FS (fun k hk=>by rw [hk];exact ⟨_,_,k3⟩);have hkt:=hk3.far FS (fun g cs hg e=>by subst e;exact k3.ne hg);generalize W.setCell ⟨w.heap.size+1+1,8,none⟩ (.bool true)=wt at *;simp only [List.setIfInBounds_toArray,List.set_cons_zero,List.set_cons_succ] at kt3;have ct1:=We.cell;have ct3:=kt3.cell;clear T1 k1 k3 k4 kf hk3 HD0 FS c1 c3 f3 cf;obtain ⟨SL,EX⟩:=aj (pX SV pg nn);rw [EX] at hR HS;obtain ⟨P,hP⟩:=aj (iG SL SV);rw [hP] at hR;have YN:=ae hP;have RZ:=ae hR.symm;obtain ⟨ln,He⟩:=aj (SL.length);rw [He] at HS;have hln:=ae He;clear EX hP hR He;go_wp2_with fail;refine (HS.out _ (Tt).sys).mono ?_;rintro e w2 ⟨A8,c8,rfl,YO,YP,hm8,hc8,hb2⟩;have T2:=(Tt).aU hb2;have k12:=(We).call hb2;have iU:=(kt3).call hb2;have gU:=(kt4).call hb2;have HD2:=(HDt).call hb2;have hk2:=(hkt).call hb2;have YQ:=ae (fun g o (e:A8=some ⟨g,o,none⟩)=>show ¬g=bs by have:=YP g o e;have:=(Tt).sys.lt;omega);have aix:ln≤9223372036854775807:=by unfold maxLen at hc8;omega
  clear HS YP hb2;go_wp2_with fail
  go_loopw [82] (fun i wr=>∃(k:Nat) (U:Vm),k≤ln∧i= .int .i64 k∧Hid (iG (SL.drop k) U=P)∧aS bs bb U SLx w wr∧ag wr w.heap.size 44 #[.pointer (some ⟨bs,0,none⟩)]∧ag wr (w.heap.size+2) 43 #[.int .i64 pg,.int .i64 nn,.int .i64 f,.int .i64 bk,.int .i64 ev,.int .i64 (nd:Int),.int .i64 0,.slice q sl cq,.bool true]∧ag wr (w.heap.size+3) 43 #[.int .i64 0,.int .i64 0,.int .i64 0,.int .i64 0,.int .i64 0,.int .i64 0,.int .i64 0,.slice none 0 0,.bool false]∧mK (some D) wr∧KeptAt wr q Sk∧RU wr wr.heap.size A8 SL) (fun i _=>ln - (intOf i).toNat)
  case atStart=>exact ⟨0,SV,by omega,rfl,ae (by simpa using YN.out),T2,k12,iU,gU,HD2,hk2,YO⟩
  case round =>
   clear T2 k12 iU gU HD2 hk2 YO YN;obtain ⟨k,U,hk,rfl,hU,T3,k13,mH,tZ,HD3,hk3,hr3⟩:=hrel;have c13:=k13.cell;have Mm:=mH.cell;by_cases hlt:k<ln
   ·have hlt':decide ((k:Int)<(ln:Int))=true:=by simpa using hlt
    have Dt:k<SL.length:=by rw [hln.out];exact hlt
    obtain ⟨b8,o8,rfl,_,hc,hd⟩:=hr3.at_' Dt;have hst:Hid (iG (SL.getD k (0,0)::SL.drop (k+1)) U=P):=ae (by
     rw [←hU.out,List.drop_eq_getElem_cons Dt,List.getD_eq_getElem?_getD,List.getElem?_eq_getElem Dt];rfl)
    generalize SL.getD k (0,0)=x at *;obtain ⟨xa,xb⟩:=x;dsimp only at hc hd;obtain ⟨J,hJ⟩:=aj (bJ U xa xb 4 3 1);have df:=hst.out;rw [iG] at df;dsimp only at df;rw [hJ] at df;have HU:=ae (fun W h=>ry bs xa xb U W h);rw [hJ] at HU;obtain ⟨je,jV⟩:=J;dsimp only at df HU;have dJ:=aV wr (.cells #[.int .i64 xa,.int .i64 xb] 140);have kX:=ag.new wr 140 #[.int .i64 xa,.int .i64 xb];have T4:=T3.aU dJ;have k14:=k13.call dJ;have nQ:=mH.call dJ;have Cx:=tZ.call dJ;have HD4:=HD3.call dJ;have hk4:=hk3.call dJ;have hr4:=hr3.on dJ;obtain ⟨gx,hgx⟩:=aj (wr.heap.size);rw [hgx] at kX;have c14:=k14.cell;have cX:=kX.cell;clear hU hst hJ;go_upto_region 22 with fail
    clear hc hd c13 Mm;generalize wr.alloc _=wa at *;go_wp2_with fail;refine (HU.out _ T4.sys).mono ?_;rintro e w5 ⟨rfl,h5⟩;have S5:=aS.iK T4.sys T4.eD h5;have T5:=T4.trans S5;have k15:=S5.blk T4.sys k14;have yI:=S5.blk T4.sys nQ;have lK:=S5.blk T4.sys Cx;have HD5:=HD4.both T4.sys S5;have hk5:=S5.kept T4.sys hk4;have hr5:=(hr4.Uw h5.2 (fun g o e=>YQ.out g o e)).more h5.2.size;have R5:=yI.cell;have c45:=lK.cell;have f45:=lK.frozen;clear T3 k13 mH tZ HD3 hk3 hr3 dJ kX k14 nQ Cx HD4 hk4 hr4 c14 cX HU h5;by_cases h3:je=0
    ·subst h3
     rw [if_neg (by simp)] at df;have CF:=ae df;clear df;go_wp2_with fail;go_roundw
     case rel=>exact ⟨k+1,jV,by omega,by go_num,CF,T5,k15,yI,lK,HD5,hk5,hr5⟩
     case measure=>simp [intOf];omega
    ·have h3':(je != 0)=true:=by simpa using h3
     rw [if_pos h3] at df;have yH:=ae RZ.out;rw [←df,if_pos h3] at yH;clear df h3;go_wp2_with fail;change bodyPostM _ _ _ _ _ _ _ (aL w5 (w.heap.size+3) ⟨pg,nn,f,bk,ev,(nd:Int),0,Sk,true⟩ (.slice q sl cq));have aR:=aG lK ⟨pg,nn,f,bk,ev,(nd:Int),0,Sk,true⟩ (.slice q sl cq);have F9:=aH w5 (w.heap.size+3) ⟨pg,nn,f,bk,ev,(nd:Int),0,Sk,true⟩ (.slice q sl cq);have xg:=HD5.far F9 (fun k hk=>by rw [hk];exact ⟨_,_,lK⟩);generalize aL w5 (w.heap.size+3) ⟨pg,nn,f,bk,ev,(nd:Int),0,Sk,true⟩ (.slice q sl cq)=w9 at *;have Hm:=(af.putObj (T:=fun k=>k=D) (af.refl _ w9) (fun _=>rfl) (.deferred none)).blk aR (fun e=>lH (xg _ rfl) (fun _ _ _ h=>by cases h) _ _ (e ▸ aR));dsimp only [ai] at Hm;have R6:=Hm.cell;refine eY (v:=.tuple #[.agg (ai ⟨pg,nn,f,bk,ev,(nd:Int),0,Sk,true⟩ (.slice q sl cq)),.int .i64 je]) (xg _ rfl) (by simp [results,results21,go_sem,R6,ai]) ?_;have T9:=T5.fresh F9 (fun k hk=>by subst hk;omega) (fun k hk=>by subst hk;exact ⟨_,_,lK,by decide,by decide,by decide,by decide⟩);have mg:=hk5.far F9 (fun g cs hg e=>by subst e;exact lK.ne hg);have SF:=xg.soft GU;rw [yH.out];exact ⟨_,rfl,⟨q,cq,by rw [(hsl).out],by rw [(hsl).out];exact yJ,xK,mg.soft SF⟩,T9.soft (Nat.le_refl _) SF⟩
   ·obtain rfl:k=ln:=by omega
    have hlt':decide ((k:Int)<(k:Int))=false:=by simp
    have xV:P=(0,U):=by rw [←hU.out,List.drop_of_length_le (by rw [hln.out];omega)];rfl
    have qp:=RZ.out;rw [xV] at qp;dsimp only at qp;rw [if_neg (by simp)] at qp;have HE:=ae (fun W h=>wP bs pg nn U W h);obtain ⟨E,hE⟩:=aj (bJ U pg nn 1 1 0);rw [hE] at qp HE;obtain ⟨ee,eV⟩:=E;dsimp only at qp HE;clear hU hE xV RZ;go_wp2_with fail;refine (HE.out _ T3.sys).mono ?_;rintro e w5 ⟨rfl,h5⟩;have S5:=aS.iK T3.sys T3.eD h5;have T5:=T3.trans S5;have yI:=S5.blk T3.sys mH;have lK:=S5.blk T3.sys tZ;have HD5:=HD3.both T3.sys S5;have hk5:=S5.kept T3.sys hk3;have R5:=yI.cell;have c45:=lK.cell;have f45:=lK.frozen;clear T3 k13 mH tZ HD3 hk3 hr3 c13 Mm h5 HE;by_cases h3:ee=0
    ·subst h3
     rw [if_neg (by simp)] at qp;have yH:=ae qp;clear qp;go_wp2_with fail;change bodyPostM _ _ _ _ _ _ _ (aL w5 (w.heap.size+3) bn (.slice none 0 0));have aR:=aG lK bn (.slice none 0 0);have F9:=aH w5 (w.heap.size+3) bn (.slice none 0 0);have xg:=HD5.far F9 (fun k hk=>by rw [hk];exact ⟨_,_,lK⟩);generalize aL w5 (w.heap.size+3) bn (.slice none 0 0)=w9 at *;have Hm:=(af.putObj (T:=fun k=>k=D) (af.refl _ w9) (fun _=>rfl) (.deferred none)).blk aR (fun e=>lH (xg _ rfl) (fun _ _ _ h=>by cases h) _ _ (e ▸ aR));dsimp only [ai] at Hm;have R6:=Hm.cell;refine eY (v:=.tuple #[.agg (ai bn (.slice none 0 0)),.int .i64 0]) (xg _ rfl) (by simp [results,results21,go_sem,R6,ai]) ?_;have T9:=T5.fresh F9 (fun k hk=>by subst hk;omega) (fun k hk=>by subst hk;exact ⟨_,_,lK,by decide,by decide,by decide,by decide⟩);have SF:=xg.soft GU;rw [yH.out];exact ⟨_,rfl,⟨none,0,rfl,Nat.le_refl _,by unfold maxLen;omega,KeptAt.none _ _⟩,T9.soft (Nat.le_refl _) SF⟩
    ·have h3':(ee != 0)=true:=by simpa using h3
     rw [if_pos h3] at qp;have yH:=ae qp;clear qp h3;go_wp2_with fail;change bodyPostM _ _ _ _ _ _ _ (aL w5 (w.heap.size+3) ⟨pg,nn,f,bk,ev,(nd:Int),0,Sk,true⟩ (.slice q sl cq));have aR:=aG lK ⟨pg,nn,f,bk,ev,(nd:Int),0,Sk,true⟩ (.slice q sl cq);have F9:=aH w5 (w.heap.size+3) ⟨pg,nn,f,bk,ev,(nd:Int),0,Sk,true⟩ (.slice q sl cq);have xg:=HD5.far F9 (fun k hk=>by rw [hk];exact ⟨_,_,lK⟩);generalize aL w5 (w.heap.size+3) ⟨pg,nn,f,bk,ev,(nd:Int),0,Sk,true⟩ (.slice q sl cq)=w9 at *;have Hm:=(af.putObj (T:=fun k=>k=D) (af.refl _ w9) (fun _=>rfl) (.deferred none)).blk aR (fun e=>lH (xg _ rfl) (fun _ _ _ h=>by cases h) _ _ (e ▸ aR));dsimp only [ai] at Hm;have R6:=Hm.cell;refine eY (v:=.tuple #[.agg (ai ⟨pg,nn,f,bk,ev,(nd:Int),0,Sk,true⟩ (.slice q sl cq)),.int .i64 ee]) (xg _ rfl) (by simp [results,results21,go_sem,R6,ai]) ?_;have T9:=T5.fresh F9 (fun k hk=>by subst hk;omega) (fun k hk=>by subst hk;exact ⟨_,_,lK,by decide,by decide,by decide,by decide⟩);have mg:=hk5.far F9 (fun g cs hg e=>by subst e;exact lK.ne hg);have SF:=xg.soft GU;rw [yH.out];exact ⟨_,rfl,⟨q,cq,by rw [(hsl).out],by rw [(hsl).out];exact yJ,xK,mg.soft SF⟩,T9.soft (Nat.le_refl _) SF⟩
def xW:Cr×Int×Vm:=kC lg 0 8 1 1 0 0
def oI:Cr×Int×Vm×List Nd:=cZ xW.2.2 (fo 5) xW.1 3
def Bv:Cr×Int×Vm×List Nd:=cZ oI.2.2.1 oI.2.2.2 oI.1 6
def DC:Cr×Int:=iE oI.1 1
def vo:Cr×Int×Vm×List Nd:=cZ Bv.2.2.1 Bv.2.2.2 DC.1 2
def nA:Cr×Int×Vm×List Nd:=bX vo.2.2.1 vo.2.2.2 vo.1 2
def vQ:Cr×Int×Vm×List Nd:=bX nA.2.2.1 nA.2.2.2 nA.1 2
def rE:Cr×Int×Vm×List Nd:=dG vQ.2.2.1 vQ.2.2.2 nA.1
theorem shN:xW.1.node=0:=by decide +kernel
theorem shE:rE.1.pg=0∧rE.1.n=0∧rE.1.f=0∧rE.1.bk=0∧rE.1.ev=0∧rE.1.node=0∧rE.1.live=0∧rE.1.kept.length=0∧rE.1.cl=false:=by decide +kernel
theorem YU:xW.2.1=0∧oI.2.1=0∧oI.1.live=3∧Bv.2.1=5∧DC.2=0:=by decide +kernel
theorem shB:vo.2.1=0∧nA.2.1=0∧vQ.2.1=4∧(vQ.2.2.2.getD 0 nd0).own=2∧nA.1.live=2∧nA.1.kept.length=0:=by decide +kernel
theorem shC:eU vQ.2.2.1 1024 2=2∧eU vQ.2.2.1 1024 3=2:=by decide +kernel
theorem shD:rE.2.1=0∧(rE.2.2.2.getD 0 nd0).own=0∧eU rE.2.2.1 1024 0=1024:=by decide +kernel
theorem YV:rE.1=bn:=by
 obtain ⟨h1,h2,h3,h4,h5,h6,h7,h8,h9⟩:=shE;generalize rE.1=r at *;obtain ⟨pg,n,f,bk,ev,node,live,K,cl⟩:=r;simp only at h1 h2 h3 h4 h5 h6 h7 h8 h9;rw [h1,h2,h3,h4,h5,h6,h7,List.eq_nil_of_length_eq_zero h8,h9];rfl
theorem Mo {V:Vm} {L:List Nd} {r:Cr} (k:Int) (hV:aQ V) (hL:bg L) (hn:r.node.toNat<L.length):aQ (bX V L r k).2.2.1∧bg (bX V L r k).2.2.2∧(bX V L r k).2.2.2.length=L.length∧(bX V L r k).1.node=r.node:=by
 unfold bX;split
 ·exact ⟨hV,hL,rfl,rfl⟩
 ·split
  ·exact ⟨hV,hL,rfl,rfl⟩
  ·dsimp only
   split
   ·exact ⟨hV.oO 1,hL,rfl,rfl⟩
   ·exact ⟨hV.oO 1,rQ hL hn _,o6 _ _ _,rfl⟩
theorem OV {V:Vm} (hV:aQ V) (pg n f bk ev node:Int):aQ (kC V pg n f bk ev node).2.2:=by
 unfold kC;dsimp only;split
 ·exact hV
 ·split
  ·exact hV.oO 1
  ·split
   ·exact (hV.oO 1).jw _ _
   ·split
    ·split <;> exact ((hV.oO 1).jw _ _).oO 0
    ·exact (hV.oO 1).jw _ _
structure uK (V:Vm) (L:List Nd) (r:Cr):Prop where
 E5:aQ V
 DD:bg L
 len:L.length=1
 node:r.node=0
theorem uK.hn {V:Vm} {L:List Nd} {r:Cr} (h:uK V L r):r.node.toNat<L.length:=by rw [h.node,h.len];decide
theorem uK.grow {V:Vm} {L:List Nd} {r:Cr} (h:uK V L r) (t:Int):uK (cZ V L r t).2.2.1 (cZ V L r t).2.2.2 (cZ V L r t).1 :=
 ⟨h.E5.grow L r t,(h.DD.cZ V r t h.hn).1,(h.DD.cZ V r t h.hn).2.trans h.len,(OU V L r t).trans h.node⟩
theorem uK.YW {V:Vm} {L:List Nd} {r:Cr} (h:uK V L r) (t:Int):uK (bX V L r t).2.2.1 (bX V L r t).2.2.2 (bX V L r t).1:=by
 obtain ⟨a,b,c,d⟩:=Mo t h.E5 h.DD h.hn;exact ⟨a,b,c.trans h.len,d.trans h.node⟩
theorem acK:uK xW.2.2 (fo 5) xW.1:=by
 refine ⟨?_,yw (by decide),rfl,shN⟩;unfold xW;exact OV Ev _ _ _ _ _ _
theorem acL:uK oI.2.2.1 oI.2.2.2 oI.1:=by
 have h:=acK;unfold oI;generalize xW=S at *;exact h.grow 3
theorem acM:uK Bv.2.2.1 Bv.2.2.2 DC.1:=by
 have h:=acL;unfold Bv DC;generalize oI=S at *;have k:=h.grow 6;exact ⟨k.E5,k.DD,k.len,(JI _ _).trans h.node⟩
theorem acN:uK vo.2.2.1 vo.2.2.2 vo.1:=by
 have h:=acM;unfold vo;generalize Bv=S at *;generalize DC=R at *;exact h.grow 2
theorem acO:uK nA.2.2.1 nA.2.2.2 nA.1:=by
 have h:=acN;unfold nA;generalize vo=S at *;exact h.YW 2
theorem YX:uK vQ.2.2.1 vQ.2.2.2 nA.1:=by
 have h:=acO;unfold vQ;generalize nA=S at *;have k:=h.YW 2;exact ⟨k.E5,k.DD,k.len,h.node⟩
theorem aiJ:aQ rE.2.2.1∧bg rE.2.2.2∧rE.2.2.2.length=1:=by
 have h:=YX;unfold rE;generalize vQ=S at *;generalize nA=R at *;obtain ⟨a,b,c⟩:=h.E5.close h.DD R.1 h.hn;exact ⟨a,b,c.trans h.len⟩
def R7 (bs bb:Nat) (V:Vm) (L:List Nd) (r:Cr) (er:Int) (w:World) (e:Ending) (w':World):Prop:=∃v,e= .returned (.tuple #[v,.int .i64 er])∧Bj r w' v∧aS bs bb V L w w'
theorem aiK (bs bb:Nat) (W:World) (h:aD W bs lg) (hb:bA W bb (fo 5)) :
  Calls prog 23 #[.pointer (some ⟨bs,0,none⟩),eQ 0 8 1 1 0,.int .i64 0] W (R7 bs bb xW.2.2 (fo 5) xW.1 0 W):=by
 have h1:=Er bs lg 0 8 1 1 0 0 W h Ev;have h2:=YU.1;unfold xW at h2 ⊢;generalize kC lg 0 8 1 1 0 0=S at *;refine h1.mono ?_;rintro e w' ⟨v,rfl,hv,ht⟩;rw [h2];exact ⟨v,rfl,hv,.iK h hb ht⟩
theorem aiL (bs bb:Nat) (A:Option Addr) (cap:Nat) (W:World) (h:aD W bs xW.2.2) (hb:bA W bb (fo 5)) (hcap:xW.1.kept.length≤cap) (hcm:cap≤maxLen) (hk:KeptAt W A xW.1.kept) :
  Calls prog 19 #[.pointer (some ⟨bs,0,none⟩),.pointer (some ⟨bb,0,none⟩),.agg (ai xW.1 (.slice A xW.1.kept.length cap)),.int .i64 3] W (R7 bs bb oI.2.2.1 oI.2.2.2 oI.1 0 W):=by
 have h2:=YU.2.1;have hK:=acK;unfold oI at h2 ⊢;generalize xW=S at *;have h1:=uJ bs bb S.2.2 (fo 5) S.1 3 A cap W h hK.E5 hb hK.DD (fun _=>hK.hn) hcap hcm hk;generalize cZ S.2.2 (fo 5) S.1 3=R at *;refine h1.mono ?_;rintro e w' ⟨v,rfl,hv,ht⟩;rw [h2];exact ⟨v,rfl,hv,ht⟩
theorem aiM (bs bb:Nat) (A:Option Addr) (cap:Nat) (W:World) (h:aD W bs oI.2.2.1) (hb:bA W bb oI.2.2.2) (hcap:oI.1.kept.length≤cap) (hcm:cap≤maxLen) (hk:KeptAt W A oI.1.kept) :
  Calls prog 19 #[.pointer (some ⟨bs,0,none⟩),.pointer (some ⟨bb,0,none⟩),.agg (ai oI.1 (.slice A oI.1.kept.length cap)),.int .i64 6] W (R7 bs bb Bv.2.2.1 Bv.2.2.2 Bv.1 5 W):=by
 have h2:=YU.2.2.2.1;have hK:=acL;unfold Bv at h2 ⊢;generalize oI=S at *;have h1:=uJ bs bb S.2.2.1 S.2.2.2 S.1 6 A cap W h hK.E5 hb hK.DD (fun _=>hK.hn) hcap hcm hk;generalize cZ S.2.2.1 S.2.2.2 S.1 6=R at *;refine h1.mono ?_;rintro e w' ⟨v,rfl,hv,ht⟩;rw [h2];exact ⟨v,rfl,hv,ht⟩
theorem aiN (A:Option Addr) (cap:Nat) (W:World) (hcap:oI.1.kept.length≤cap) (hcm:cap≤maxLen) (hk:KeptAt W A oI.1.kept) :
  Calls prog 40 #[.agg (ai oI.1 (.slice A oI.1.kept.length cap)),.int .i64 1] W fun e w'=>∃v,e= .returned (.tuple #[v,.int .i64 0])∧Bj DC.1 w' v∧Below W.heap.size W w':=by
 have h2:=YU.2.2.2.2;unfold DC at h2 ⊢;generalize oI=S at *;have h1:=Em S.1 1 A cap W hcap hcm hk;generalize iE S.1 1=R at *;rw [h2] at h1;exact h1
theorem aiO (bs bb:Nat) (A:Option Addr) (cap:Nat) (W:World) (h:aD W bs Bv.2.2.1) (hb:bA W bb Bv.2.2.2) (hcap:DC.1.kept.length≤cap) (hcm:cap≤maxLen) (hk:KeptAt W A DC.1.kept) :
  Calls prog 19 #[.pointer (some ⟨bs,0,none⟩),.pointer (some ⟨bb,0,none⟩),.agg (ai DC.1 (.slice A DC.1.kept.length cap)),.int .i64 2] W (R7 bs bb vo.2.2.1 vo.2.2.2 vo.1 0 W):=by
 have h2:=shB.1;have hK:=acM;unfold vo at h2 ⊢;generalize Bv=S at *;generalize DC=T at *;have h1:=uJ bs bb S.2.2.1 S.2.2.2 T.1 2 A cap W h hK.E5 hb hK.DD (fun _=>hK.hn) hcap hcm hk;generalize cZ S.2.2.1 S.2.2.2 T.1 2=R at *;refine h1.mono ?_;rintro e w' ⟨v,rfl,hv,ht⟩;rw [h2];exact ⟨v,rfl,hv,ht⟩
theorem aiP (bs bb:Nat) (A:Option Addr) (cap:Nat) (W:World) (h:aD W bs vo.2.2.1) (hb:bA W bb vo.2.2.2) (hcap:vo.1.kept.length≤cap) (hcm:cap≤maxLen) (hk:KeptAt W A vo.1.kept) :
  Calls prog 20 #[.pointer (some ⟨bs,0,none⟩),.pointer (some ⟨bb,0,none⟩),.agg (ai vo.1 (.slice A vo.1.kept.length cap)),.int .i64 2] W (R7 bs bb nA.2.2.1 nA.2.2.2 nA.1 0 W):=by
 have h2:=shB.2.1;have hK:=acN;unfold nA at h2 ⊢;generalize vo=S at *;have h1:=Bl bs bb S.2.2.1 S.2.2.2 S.1 2 A cap W h hK.E5 hb hK.DD (fun _=>hK.hn) hcap hcm hk (by decide) (by decide);generalize bX S.2.2.1 S.2.2.2 S.1 2=R at *;refine h1.mono ?_;rintro e w' ⟨v,rfl,hv,ht⟩;rw [h2];exact ⟨v,rfl,hv,ht⟩
theorem aiQ (bs bb:Nat) (A:Option Addr) (cap:Nat) (W:World) (h:aD W bs nA.2.2.1) (hb:bA W bb nA.2.2.2) (hcap:nA.1.kept.length≤cap) (hcm:cap≤maxLen) (hk:KeptAt W A nA.1.kept) :
  Calls prog 20 #[.pointer (some ⟨bs,0,none⟩),.pointer (some ⟨bb,0,none⟩),.agg (ai nA.1 (.slice A nA.1.kept.length cap)),.int .i64 2] W (R7 bs bb vQ.2.2.1 vQ.2.2.2 vQ.1 4 W):=by
 have h2:=shB.2.2.1;have hK:=acO;unfold vQ at h2 ⊢;generalize nA=S at *;have h1:=Bl bs bb S.2.2.1 S.2.2.2 S.1 2 A cap W h hK.E5 hb hK.DD (fun _=>hK.hn) hcap hcm hk (by decide) (by decide);generalize bX S.2.2.1 S.2.2.2 S.1 2=R at *;refine h1.mono ?_;rintro e w' ⟨v,rfl,hv,ht⟩;rw [h2];exact ⟨v,rfl,hv,ht⟩
theorem aiR (bs bb:Nat) (A:Option Addr) (cap:Nat) (W:World) (h:aD W bs vQ.2.2.1) (hb:bA W bb vQ.2.2.2) (hcap:nA.1.kept.length≤cap) (hcm:cap≤maxLen) (hk:KeptAt W A nA.1.kept) :
  Calls prog 21 #[.pointer (some ⟨bs,0,none⟩),.pointer (some ⟨bb,0,none⟩),.agg (ai nA.1 (.slice A nA.1.kept.length cap))] W (R7 bs bb rE.2.2.1 rE.2.2.2 bn 0 W):=by
 have h2:=shD.1;have h3:=YV;have hK:=YX;unfold rE at h2 h3 ⊢;generalize vQ=S at *;generalize nA=T at *;have h1:=CE bs bb S.2.2.1 S.2.2.2 T.1 A cap W h hK.E5 hb hK.DD (fun _=>hK.hn) hcap hcm hk;generalize dG S.2.2.1 S.2.2.2 T.1=R at *;refine h1.mono ?_;rintro e w' ⟨v,rfl,hv,ht⟩;rw [h2,←h3];exact ⟨v,rfl,hv,ht⟩
theorem xh (w:World):Calls prog 11 #[] w fun e w'=>e= .returned (.bool true)∧Below w.heap.size w w':=by
 have H0:=ae aiK;have H1:=ae aiL;have H2:=ae aiM;have H3:=ae aiN;have H4:=ae aiO;have H5:=ae aiP;have H6:=ae aiQ;have H7:=ae aiR;have a3:=ae YU.2.2.1;have b4:=ae shB.2.2.2;have cc:=ae shC;have dd:=ae shD.2;have hK6:=YX;have hK7:=aiJ;have HU6:=ae (fun bb W hB=>Gz bb 0 vQ.2.2.2 W hB hK6.DD (by rw [hK6.len];decide));have HC6:=ae (fun bs W hV=>CB bs vQ.2.2.1 W hV hK6.E5);have HU7:=ae (fun bb W hB=>Gz bb 0 rE.2.2.2 W hB hK7.2.1 (by rw [hK7.2.2];decide));have HC7:=ae (fun bs W hV=>CB bs rE.2.2.1 W hV hK7.1);have u6:=b4.out.1;have l5:=ae b4.out.2;rw [u6] at HU6;rw [dd.out.1] at HU7;dsimp only [RX] at HC6 HC7;rw [cc.out.1,cc.out.2] at HC6;rw [dd.out.2] at HC7;clear u6 b4 cc dd hK6 hK7;generalize xW=S0 at *;generalize oI=S1 at *;generalize Bv=S2 at *;generalize DC=S3 at *;generalize vo=S4 at *;generalize nA=S5 at *;generalize vQ=S6 at *;generalize rE=S7 at *;go_enter func11,ntmps11;go_wp2_with fail;refine (Ya _).mono ?_;rintro e w1 ⟨bs,rfl,hV1,hbs,hb1⟩;go_wp2_with fail;refine (KL 5 w1).mono ?_;rintro e w2 ⟨he,hb2⟩;rw [if_neg (by decide)] at he;obtain ⟨bb,rfl,hbb,hB2⟩:=he;have hV2:=hV1.call hb2;go_wp2_with fail;refine (OP w2).mono ?_;rintro e w3 ⟨rfl,hb3⟩;have hV3:=hV2.call hb3;have hB3:=hB2.call hb3;have B3:=(hb1.trans (hb2.mono hb1.size)).trans (hb3.mono (hb1.trans (hb2.mono hb1.size)).size);clear hV1 hV2 hB2;go_wp2_with fail;refine (H0.out bs bb w3 hV3 hB3).mono ?_;rintro e w4 ⟨v4,rfl,⟨A5,c5,rfl,hl5,hm5,hk4⟩,T4⟩;dsimp only [ai];go_upto_region 4 with fail
 have l6:=ag.new w4 43 (ai S0.1 (.slice A5 S0.1.kept.length c5));have dJ:=aV w4 (.cells (ai S0.1 (.slice A5 S0.1.kept.length c5)) 43);have T5:=T4.aU dJ;have hk5:=hk4.call dJ;have hg3:=T4.size;change Code.wp _ _ _ _ (w4.alloc (.cells (ai S0.1 (.slice A5 S0.1.kept.length c5)) 43));obtain ⟨g,hg⟩:=aj (w4.heap.size);rw [hg] at l6 hg3;try simp only [hg]
 generalize w4.alloc (.cells (ai S0.1 (.slice A5 S0.1.kept.length c5)) 43)=w5 at *;have hz1:=hb1.size;have hz2:=hb2.size;clear T4 hk4 dJ H0 hb1 hb2 hb3 hV3 hB3;try dsimp only [ai] at l6
 have cx5:=l6.cell;go_wp2_with fail;refine ((H1).out bs bb A5 c5 w5 T5.sys T5.eD hl5 hm5 hk5).mono ?_;rintro e wx6 ⟨v6,rfl,⟨A6,c6,rfl,Co,E8,acP⟩,s6⟩;dsimp only [ai];have iq:=s6.blk T5.sys l6;have Ty6:=T5.trans s6;have Ho:=iq.cell;have Hq:=iq.frozen;clear cx5;go_upto_region 5 with fail
 change Code.wp _ _ _ _ (aL wx6 g S1.1 (.slice A6 (S1.1).kept.length c6));have oH:=aG iq S1.1 (.slice A6 (S1.1).kept.length c6);have FN6:=aH wx6 g S1.1 (.slice A6 (S1.1).kept.length c6);have T6:=Ty6.fresh FN6 (fun k hk=>by rw [hk];exact hg3) (fun k hk=>by rw [hk];exact ⟨_,_,iq,by decide,by decide,by decide,by decide⟩);have vO:=acP.far FN6 (fun g' cs hG e=>by have e:g'=g:=e;rw [e] at hG;exact iq.ne hG);generalize aL wx6 g S1.1 (.slice A6 (S1.1).kept.length c6)=w6 at *;clear l6 hk5 s6 iq Ty6 Ho Hq FN6 acP;have d3:(S1.1.live != 3)=false:=by rw [a3.out];rfl
 dsimp only [ai] at oH;have cx6:=oH.cell;go_upto_region 7 with fail
 clear cx6 d3;try dsimp only [ai] at oH
 have cx6:=oH.cell;go_wp2_with fail;refine ((H2).out bs bb A6 c6 w6 T6.sys T6.eD Co E8 vO).mono ?_;rintro e wx7 ⟨v7,rfl,⟨A7,c7,rfl,LG,hm7,aiV⟩,s7⟩;dsimp only [ai];have uf:=s7.blk T6.sys oH;have Ty7:=T6.trans s7;have cy7:=uf.cell;have fy7:=uf.frozen;clear cx6;go_upto_region 8 with fail
 have Cc:=uf;have yG:=s7.kept T6.sys vO;have cx7:=Cc.cell;clear oH vO s7 uf cy7 fy7 aiV;go_wp2_with fail;refine (H3.out A6 c6 wx7 Co E8 yG).mono ?_;rintro e wx8 ⟨v8,rfl,⟨A8,c8,rfl,hl8,hm8,acQ⟩,s8⟩;dsimp only [ai];have DF:=Cc.call s8;have Ty8:=Ty7.aU s8;have cy8:=DF.cell;have fy8:=DF.frozen;clear cx7;go_upto_region 9 with fail
 change Code.wp _ _ _ _ (aL wx8 g S3.1 (.slice A8 (S3.1).kept.length c8));have kx8:=aG DF S3.1 (.slice A8 (S3.1).kept.length c8);have FN8:=aH wx8 g S3.1 (.slice A8 (S3.1).kept.length c8);have T8:=Ty8.fresh FN8 (fun k hk=>by rw [hk];exact hg3) (fun k hk=>by rw [hk];exact ⟨_,_,DF,by decide,by decide,by decide,by decide⟩);have YL:=acQ.far FN8 (fun g' cs hG e=>by have e:g'=g:=e;rw [e] at hG;exact DF.ne hG);generalize aL wx8 g S3.1 (.slice A8 (S3.1).kept.length c8)=w8 at *;clear Cc yG s8 DF Ty8 cy8 fy8 FN8 acQ;try dsimp only [ai] at kx8
 have cx8:=kx8.cell;go_wp2_with fail;refine ((H4).out bs bb A8 c8 w8 T8.sys T8.eD hl8 hm8 YL).mono ?_;rintro e wx9 ⟨v9,rfl,⟨A9,c9,rfl,EL,hm9,acR⟩,s9⟩;dsimp only [ai];have CG:=s9.blk T8.sys kx8;have Ty9:=T8.trans s9;have cy9:=CG.cell;have fy9:=CG.frozen;clear cx8;go_upto_region 10 with fail
 change Code.wp _ _ _ _ (aL wx9 g S4.1 (.slice A9 (S4.1).kept.length c9));have kx9:=aG CG S4.1 (.slice A9 (S4.1).kept.length c9);have FN9:=aH wx9 g S4.1 (.slice A9 (S4.1).kept.length c9);have T9:=Ty9.fresh FN9 (fun k hk=>by rw [hk];exact hg3) (fun k hk=>by rw [hk];exact ⟨_,_,CG,by decide,by decide,by decide,by decide⟩);have mg:=acR.far FN9 (fun g' cs hG e=>by have e:g'=g:=e;rw [e] at hG;exact CG.ne hG);generalize aL wx9 g S4.1 (.slice A9 (S4.1).kept.length c9)=w9 at *;clear kx8 YL s9 CG Ty9 cy9 fy9 FN9 acR;try dsimp only [ai] at kx9
 have cx9:=kx9.cell;go_wp2_with fail;refine ((H5).out bs bb A9 c9 w9 T9.sys T9.eD EL hm9 mg).mono ?_;rintro e YY ⟨v10,rfl,⟨Wh,c10,rfl,acS,acT,YZ⟩,s10⟩;dsimp only [ai];have uL:=s10.blk T9.sys kx9;have acU:=T9.trans s10;have OW:=uL.cell;have ai1:=uL.frozen;clear cx9;go_upto_region 11 with fail
 change Code.wp _ _ _ _ (aL YY g S5.1 (.slice Wh (S5.1).kept.length c10));have UF:=aG uL S5.1 (.slice Wh (S5.1).kept.length c10);have Y0:=aH YY g S5.1 (.slice Wh (S5.1).kept.length c10);have vk:=acU.fresh Y0 (fun k hk=>by rw [hk];exact hg3) (fun k hk=>by rw [hk];exact ⟨_,_,uL,by decide,by decide,by decide,by decide⟩);have hk10:=YZ.far Y0 (fun g' cs hG e=>by have e:g'=g:=e;rw [e] at hG;exact uL.ne hG);generalize aL YY g S5.1 (.slice Wh (S5.1).kept.length c10)=il at *;clear kx9 mg s10 uL acU OW ai1 Y0 YZ;try dsimp only [ai] at UF
 have ai2:=UF.cell;go_wp2_with fail;refine ((H6).out bs bb Wh c10 il vk.sys vk.eD acS acT hk10).mono ?_;rintro e Y1 ⟨v11,rfl,⟨A11,c11,rfl,anO,anP,afk⟩,s11⟩;dsimp only [ai];have Ew:=s11.blk vk.sys UF;have acV:=vk.trans s11;have Y2:=Ew.cell;have ai3:=Ew.frozen;clear ai2;go_upto_region 12 with fail
 have Mq:=aV Y1 (.cells (ai S6.1 (.slice A11 S6.1.kept.length c11)) 43);have pF:=acV.aU Mq;have acW:=Ew.call Mq;have qU:=(s11.kept vk.sys hk10).call Mq;change Code.wp _ _ _ _ (Y1.alloc (.cells (ai S6.1 (.slice A11 S6.1.kept.length c11)) 43));generalize Y1.alloc (.cells (ai S6.1 (.slice A11 S6.1.kept.length c11)) 43)=R8 at *;clear UF hk10 s11 Ew acV Y2 ai3 afk Mq H1 H2 H3 H4 H5 H6 T5 T6 Ty7 T8 T9 vk Co E8 hl8 hm8 EL hm9 hl5 hm5 a3;go_wp2_with fail;refine (HU6.out bb R8 pF.eD).mono ?_;rintro e Mr ⟨rfl,yL⟩;have Ms:=pF.aU yL;have acX:=acW.call yL;have xL:=qU.call yL;clear pF acW qU yL HU6;go_wp2_with fail;refine (HC6.out bs Mr Ms.sys).mono ?_;rintro e Mt ⟨rfl,UG⟩;have Bw:=Ms.aU UG;have acY:=acX.call UG;have yM:=xL.call UG;clear Ms acX xL UG HC6;go_upto_region 14 with fail
 generalize eU S6.2.2.1 1024 0=q0 at *;generalize eU S6.2.2.1 1024 1=q1 at *;generalize eU S6.2.2.1 1024 4=q4 at *;have kn:=ag.new Mt 106 #[.int .i64 q0,.int .i64 q1,.int .i64 2,.int .i64 2,.int .i64 q4];have Mv:=aV Mt (.cells #[.int .i64 q0,.int .i64 q1,.int .i64 2,.int .i64 2,.int .i64 q4] 106);have Hr:=Bw.aU Mv;have UH:=acY.call Mv;have yN:=yM.call Mv;have acZ:=Bw.size;obtain ⟨gn,hgn⟩:=aj (Mt.heap.size);rw [hgn] at kn acZ;try simp only [hgn]
 generalize Mt.alloc _=Wi at *;clear Bw acY yM Mv;have d4:(S5.1.live != 2)=false:=by rw [l5.out.1];rfl
 have d5:(((S5.1.kept.length:Nat):Int) != 0)=false:=by rw [l5.out.2];rfl
 have Y3:=UH.cell;have cn:=kn.cell;go_upto_region 16 with fail
 clear Y3 cn d4 d5;have Y3:=UH.cell;go_wp2_with fail;refine (H7.out bs bb Wh c10 Wi Hr.sys Hr.eD acS acT yN).mono ?_;rintro e Y4 ⟨v16,rfl,⟨Y5,c16,rfl,ai4,anQ,R9⟩,s16⟩;dsimp only [ai,bn] at R9 ai4 ⊢;have CJ:=s16.blk Hr.sys UH;have UI:=s16.blk Hr.sys kn;have ac0:=Hr.trans s16;have ac1:=CJ.cell;have ai5:=CJ.frozen;clear Y3;go_upto_region 17 with fail
 change Code.wp _ _ _ _ (aL Y4 g bn (.slice Y5 0 c16));have ac2:=aG CJ bn (.slice Y5 0 c16);have UJ:=aH Y4 g bn (.slice Y5 0 c16);have Y6:=ac0.fresh UJ (fun k hk=>by rw [hk];exact hg3) (fun k hk=>by rw [hk];exact ⟨_,_,CJ,by decide,by decide,by decide,by decide⟩);have ac3:=UJ.blk UI (fun e=>by have e:gn=g:=e;rw [e] at UI;exact UI.ne CJ);have UK:=R9.far UJ (fun g' cs hG e=>by have e:g'=g:=e;rw [e] at hG;exact CJ.ne hG);generalize aL Y4 g bn (.slice Y5 0 c16)=w16 at *;clear UH yN s16 CJ ac0 ac1 ai5 UJ R9 UI kn Hr H7;go_wp2_with fail;refine (HU7.out bb w16 Y6.eD).mono ?_;rintro e w17 ⟨rfl,OX⟩;have T17:=Y6.aU OX;have ac4:=ac2.call OX;have ac5:=ac3.call OX;have ac6:=UK.call OX;clear Y6 ac2 ac3 UK OX HU7;go_wp2_with fail;refine (HC7.out bs w17 T17.sys).mono ?_;rintro e w18 ⟨rfl,OY⟩;have T18:=T17.aU OY;have UL:=ac4.call OY;have Ht:=ac5.call OY;have ac7:=ac6.call OY;clear T17 ac4 ac5 ac6 OY HC7;generalize eU S7.2.2.1 1024 1=q21 at *;generalize eU S7.2.2.1 1024 2=q22 at *;generalize eU S7.2.2.1 1024 3=q23 at *;generalize eU S7.2.2.1 1024 4=q24 at *;have ai7:=Ht.cell;have ai8:=Ht.frozen;go_upto_region 19 with fail
 have ac8:=((((Ht.aO 0 (.int .i64 1024)).aO 1 (.int .i64 q21)).aO 2 (.int .i64 q22)).aO 3 (.int .i64 q23)).aO 4 (.int .i64 q24);have F20:af (fun k=>k=gn) w18 (((((w18.setCell ⟨gn,0,none⟩ (.int .i64 1024)).setCell ⟨gn,1,none⟩ (.int .i64 q21)).setCell ⟨gn,2,none⟩ (.int .i64 q22)).setCell ⟨gn,3,none⟩ (.int .i64 q23)).setCell ⟨gn,4,none⟩ (.int .i64 q24)) :=
  ((((((af.refl (fun k=>k=gn) w18).setCell (p:=⟨gn,0,none⟩) (fun _=>rfl) _).setCell (p:=⟨gn,1,none⟩) (fun _=>rfl) _).setCell (p:=⟨gn,2,none⟩) (fun _=>rfl) _).setCell (p:=⟨gn,3,none⟩) (fun _=>rfl) _).setCell (p:=⟨gn,4,none⟩) (fun _=>rfl) _)
 have T20:=T18.fresh F20 (fun k hk=>by rw [hk];exact acZ) (fun k hk=>by rw [hk];exact ⟨_,_,Ht,by decide,by decide,by decide,by decide⟩);have ac9:=F20.blk UL (fun e=>by have e:g=gn:=e;rw [e] at UL;exact UL.ne Ht);have ai9:=ac7.far F20 (fun g' cs hG e=>by have e:g'=gn:=e;rw [e] at hG;exact hG.ne Ht);generalize ((((w18.setCell ⟨gn,0,none⟩ (.int .i64 1024)).setCell ⟨gn,1,none⟩ (.int .i64 q21)).setCell ⟨gn,2,none⟩ (.int .i64 q22)).setCell ⟨gn,3,none⟩ (.int .i64 q23)).setCell ⟨gn,4,none⟩ (.int .i64 q24)=w20 at *;simp only [List.setIfInBounds_toArray,List.set_cons_zero,List.set_cons_succ] at ac8;clear Ht ai7 ai8 F20 UL ac7 T18;dsimp only [ai,bn] at ac9;have anR:=ac8.cell;have anS:=ac9.cell;have HS:=Eu bn Y5 none c16 0 w20 (by show (0:Nat)≤maxLen;unfold maxLen;omega) ai9.ru RU.nil;dsimp only [ai,bn,List.length_nil] at HS;go_wp2_with fail;refine HS.mono ?_;rintro e w21 ⟨rfl,aja⟩;go_wp2_with fail;go_ret;have T21:=T20.aU aja;exact ⟨rfl,B3.trans (T21.far.below (by have:=B3.size;omega) (fun k hk h=>by
  rcases h with rfl|⟨h,_⟩ <;> omega))⟩
end Go.Proofs.YtjmmgoijnhnnaaaGreat
namespace Go.Pol
open Go Go.RowKit Go.ChangeShapes Go.WideShapes Go.Deep Go.Proofs.Tryz
section
variable {H:Type} {enc:TypeId×Value→H} {P:Program}
theorem Hu {f:Func} {s:ChangeSpec} {apart fresh handsOn again:Bool} {W W':World} {args:Array Value} {v:Value} {ds gs:List (DataW H)} {before pa pv:List MemPlace}
  (hW:DataW.Whole enc P f.params.toList s.vars apart W args.toList ds gs before)
  (hres:∀(b:Nat) (sp:Nat→Bool) (hd:Bool),DataW.TrodAll enc P W' b sp hd f.resultTypes.toList (v.resultList f.resultTypes.size) (s.fn H (ds++gs)).results [])
  (hargs:∀sp:Nat→Bool,(∀p∈before,sp p.block=true)→DataW.TrodAll enc P W' 0 sp true f.params.toList args.toList (s.fn H (ds++gs)).args pa)
  (hvars:∀sp:Nat→Bool,(∀p∈before,sp p.block=true)→DataW.TrodVars enc P W' sp s.vars (s.fn H (ds++gs)).vars pv)
  (hps:before=pa++pv) (hb:Below W.heap.size W W')
  (hok:∀(j:Nat) (t:TypeId) (r:Value),f.resultTypes[j]? = some t→(v.resultList f.resultTypes.size)[j]? = some r→Value.okWide P W' .any 0 t r) :
  s.post enc P f apart fresh handsOn again W args v W':=by
 have hlt:∀p∈before,p.block<W.heap.size:=fun p hp=>hW.lt p hp
 have hold:∀p∈before,(fun b=>decide (b<W.heap.size)) p.block=true:=fun p hp=>by simpa using hlt p hp
 refine ⟨ds,gs,before,[],pa,pv,hW,hres _ _ _,hargs _ hold,hvars _ hold,World.keptBut_mono (fun p hp=>⟨hp,?_⟩) (hb.frame (·∈before)),fun _=>?_⟩
 ·rw [hps,List.mem_append] at hp
  exact Or.inr hp
 ·obtain ⟨_,_,_,_,_,hz,hn⟩:=hW
  refine ⟨hok,_,_,([]++pa)++pv,⟨[]++pa,pv,trodAll_append (hargs _ (fun _ _=>rfl)) (hres _ _ _),hvars _ (fun _ _=>rfl),rfl,?_,?_⟩,?_⟩
  ·intro b off hp
   have hin:MemPlace.cell b off∈before:=by rw [hps];simpa using hp
   rw [hb.frozen (hlt _ hin)];exact hz b off hin
  ·intro ha
   have:=hn ha;rw [hps] at this;simpa using this
  ·intro p hp _
   rw [hps];simpa using hp
end
section
variable {H:Type} {enc:TypeId×Value→H} {P:Program} {w:World} {base:Nat} {spare:Nat→Bool} {held:Bool}
theorem sP {t e:TypeId} {fs:Array Field} {fuel:Nat} {cs:List Value} {x:DataW H×List MemPlace} (ht:P.underlying t=some (.slice e)) (he:P.underlying e=some (.struct fs))
  (hone:oneCellFields P fs=true) (hC:P.cellsOf e=fs.size) (h:DataW.trod enc P w base spare held fuel t cs=some x) :
  (cs=[.slice none 0 0]∧x=(.nil,[])) ∨
  ∃(a:Addr) (len cap m:Nat) (D:Nat→DataW H) (Pl:Nat→List MemPlace),cs=[.slice (some a) len cap]∧base≤a.block∧len≤cap∧cap≤maxLen∧m=(if spare a.block then cap else len) ∧
   x=(.slice ((List.range len).map D) ((List.range (m - len)).map fun j=>D (len+j)),MemPlace.row a (m*fs.size)++(List.range m).flatMap Pl) ∧
   ∀i,i<m→∃(ys:List (DataW H×List MemPlace)) (n:Nat),D i= .agg (ys.map (·.1))∧Pl i=ys.flatMap (·.2)∧ys.length=fs.size ∧
    ∀(j:Nat) (f:Field),fs[j]? = some f→∃(v:Value) (y:DataW H×List MemPlace),w.cell? (a.add (i*fs.size+j))=some v∧ys[j]? = some y∧DataW.trod enc P w base spare held n f.type [v]=some y:=by
 rcases open_slice ht h with h0|⟨a,len,cap,m,n,D,Pl,hcs,hb,hl,hm,hmm,hx,hi⟩
 ·exact .inl h0
 ·refine .inr ⟨a,len,cap,m,D,Pl,hcs,hb,hl,hm,hmm,by rw [hC] at hx;exact hx,fun i him=>?_⟩
  obtain ⟨cs',hc,ht'⟩:=hi i him;rw [hC] at hc;obtain ⟨ys,n',hn',hy,hlen,hyl,hf⟩:=DataW.trod_struct he ht';obtain ⟨_,hcl,hat⟩:=World.cells?_some hc;simp only [Prod.mk.injEq] at hy;refine ⟨ys,n',hy.1,hy.2,hyl,fun j f hj=>?_⟩;obtain ⟨ho,hk⟩:=hone_of hone j f hj;have hjl:j<fs.size:=(Array.getElem?_eq_some_iff.1 hj).1;have hcell:=hat j hjl;have hv:cs'[j]? = some (cs'[j]'(by omega)):=List.getElem?_eq_getElem (by omega);have h1:=hf j f hj;rw [ho,hk] at h1;have hone':(cs'.drop j).take 1=[cs'[j]'(by omega)]:=by
   rw [List.drop_eq_getElem_cons (by omega)];rfl
  rw [hone'] at h1;have hys:ys[j]? = some (ys[j]'(by omega)):=List.getElem?_eq_getElem (by omega);refine ⟨_,_,?_,hys,h1.trans hys⟩;rw [←Go.Deep.add_add,hcell,hv]
end
end Go.Pol
namespace Go.Proofs.YtjmmgoijnhnnaaaGreat
open Go Go.Proofs Go.RowKit Go.Pol Go.ChangeShapes Go.WideShapes Go.Deep Tryz
theorem ajb:ownKnob prog.godebug=none:=by kernel_rfl
theorem Wj:laidOutB prog=true:=by kernel_rfl
section
variable {H:Type} {enc:TypeId×Value→H} {w:World} {base b0:Nat} {held:Bool} {r:Reach} {v:Value} {d:DataW H} {p:List MemPlace}
theorem sQ:prog.cellsOf 25=5:=by kernel_rfl
theorem Hw:prog.cellsOf 23=3:=by kernel_rfl
theorem intCells:prog.cellsOf 3=1:=by kernel_rfl
theorem aby {n:Nat} {cs:List Value} {x:DataW H×List MemPlace} (h:DataW.trod enc prog w base (fun _=>true) held n 23 cs=some x):∃f b ev:Int,cs=[.int .i64 f,.int .i64 b,.int .i64 ev]:=by
 obtain ⟨xs,m,_,hx,hl,hlen,hg⟩:=DataW.trod_struct underlying23 h;rw [Hw] at hl
 match cs,hl with
 | [c0,c1,c2],_ =>
  have g0:DataW.trod enc prog w base (fun _=>true) held m 3 [c0]=xs[0]? := by have:=hg 0 _ rfl;simpa [intCells] using this
  have g1:DataW.trod enc prog w base (fun _=>true) held m 3 [c1]=xs[1]? := by have:=hg 1 _ rfl;simpa [intCells] using this
  have g2:DataW.trod enc prog w base (fun _=>true) held m 3 [c2]=xs[2]? := by have:=hg 2 _ rfl;simpa [intCells] using this
  match xs,hlen with
  | [y0,y1,y2],_ =>
   obtain ⟨n0,e0,_⟩:=DataW.trod_int underlying3 (g0.trans rfl);obtain ⟨n1,e1,_⟩:=DataW.trod_int underlying3 (g1.trans rfl);obtain ⟨n2,e2,_⟩:=DataW.trod_int underlying3 (g2.trans rfl);simp only [List.cons.injEq,and_true] at e0 e1 e2;subst e0;subst e1;subst e2;exact ⟨n0,n1,n2,rfl⟩
end
section
variable {H:Type} {enc:TypeId×Value→H} {w:World} {base b0:Nat} {held:Bool} {r:Reach} {v:Value} {d:DataW H} {p:List MemPlace}
theorem abz {n:Nat} {cs:List Value} {x:DataW H×List MemPlace} (h:DataW.trod enc prog w base (fun _=>true) held n 25 cs=some x):∃pg n f b ev:Int,cs=[.int .i64 pg,.int .i64 n,.int .i64 f,.int .i64 b,.int .i64 ev]:=by
 obtain ⟨xs,m,_,hx,hl,hlen,hg⟩:=DataW.trod_struct underlying25 h;rw [sQ] at hl
 match cs,hl with
 | [c0,c1,c2,c3,c4],_ =>
  have g0:DataW.trod enc prog w base (fun _=>true) held m 3 [c0]=xs[0]? := by have:=hg 0 _ rfl;simpa [intCells] using this
  have g1:DataW.trod enc prog w base (fun _=>true) held m 3 [c1]=xs[1]? := by have:=hg 1 _ rfl;simpa [intCells] using this
  have g2:DataW.trod enc prog w base (fun _=>true) held m 23 [c2,c3,c4]=xs[2]? := by have:=hg 2 _ rfl;simpa [intCells,Hw] using this
  match xs,hlen with
  | [y0,y1,y2],_ =>
   obtain ⟨n0,e0,_⟩:=DataW.trod_int underlying3 (g0.trans rfl);obtain ⟨n1,e1,_⟩:=DataW.trod_int underlying3 (g1.trans rfl);obtain ⟨f,b,ev,e2⟩:=aby (g2.trans rfl);simp only [List.cons.injEq,and_true] at e0 e1 e2;obtain ⟨rfl,rfl,rfl⟩:=e2;subst e0;subst e1;exact ⟨n0,n1,f,b,ev,rfl⟩
end
end Go.Proofs.YtjmmgoijnhnnaaaGreat
