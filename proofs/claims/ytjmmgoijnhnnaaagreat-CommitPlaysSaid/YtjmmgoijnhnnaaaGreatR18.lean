/- Texts: RWalkM, RSpecH, RSpecI, RWalkR, RWalkS, RWalkN, RWalkO, RWalkP, RWalkQ. -/
import Derived.Test.YtjmmgoijnhnnaaaGreatR17
set_option maxRecDepth 100000
set_option maxHeartbeats 12800000
namespace Go.Pol
open Go Go.RowKit Go.Proofs.Tryz
def nC (K:List Sp) (a i:Nat):Nat→Bool:=fun p=>decide (a≤p)&&decide (p<i)&&!mem (p:Int) K
theorem y8 (K:List Sp) {a i:Nat} (h:a≤i) (p:Nat):nC K a (i+1) p=if p=i then !mem (i:Int) K else nC K a i p:=by
 unfold nC;by_cases e:p=i
 ·subst e
  rw [if_pos rfl,decide_eq_true (by omega),decide_eq_true (by omega)];rfl
 ·rw [if_neg e]
  congr 2;exact decide_eq_decide.2 (by omega)
theorem TF {K:List Sp} (hK:Can K) {a t:Nat} (hB:Can (bG (a:Int) (t:Int))) (k:Nat):nC K a t k=mem (k:Int) (ay (bG (a:Int) (t:Int)) (aZ K (0,1024))):=by
 rw [DT hK hB];unfold nC;congr 1;congr 1 <;> exact decide_eq_decide.2 (by omega)
theorem CX (K:List Sp) (live:Int):∀j:Nat,0≤qL K live j∧qL K live j≤j
 | 0=>by simp [qL,iC]
 | j+1=>by
  have:=CX K live j;rw [y7];split <;> omega
theorem y9 (l:List iF):(iV l).length=l.length:=by unfold iV;rw [List.length_map]
theorem lQ (l:List iF) (i:Nat):(iV l).getD i (0,0)=((l.getD i (0,0,0)).1,(l.getD i (0,0,0)).2.1):=by
 unfold iV;rw [List.getD_eq_getElem?_getD,List.getD_eq_getElem?_getD,List.getElem?_map];cases l[i]? <;> rfl
theorem TG {V:Vm} {L:List Nd} {r:Cr} {tt:Int} (h0:bE r=0) (h1:r.cl=false) (h2:¬(tt<r.live∨oG r<tt)) {M:List Sp} (hM:ay (bG r.live tt) (aZ r.kept (0,1024))=M) {c:Int×List Nd} (hc:iO L r.node.toNat (aI M)=c) {C:Int×Vm×List iF} (hC:jy (bS M 0 (aA r.pg r.n r.f r.bk r.ev)) [] V=C) :
  cZ V L r tt=if c.1≠0 then (r,c.1,V,c.2) else if C.1=0 then ({ r with live:=tt,kept:=ay r.kept (aZ (bG 0 tt) (0,1024)) },0,C.2.1,c.2) else ({ r with kept:=(C.2.2.reverse.foldl dK (C.2.1,r.kept,aI M)).2.1 },C.1,(C.2.2.reverse.foldl dK (C.2.1,r.kept,aI M)).1,(iT c.2 r.node.toNat (C.2.2.reverse.foldl dK (C.2.1,r.kept,aI M)).2.2).2):=by
 unfold cZ;rw [if_neg (by rw [h0];simp),if_neg (by rw [h1];simp),if_neg h2];dsimp only;rw [hM,hc,hC]
def Am (V:Vm) (a j:Nat):Nat→Bool:=fun q=>decide (a≤q)&&decide (q<a+j)&&((V.pg q).kind==3)
theorem I1 (V:Vm) (a j q:Nat):Am V a (j+1) q=if q=a+j then (V.pg (a+j)).kind==3 else Am V a j q:=by
 unfold Am;by_cases h:q=a+j
 ·subst h
  rw [if_pos rfl,decide_eq_true (by omega),decide_eq_true (by omega)];rfl
 ·rw [if_neg h]
  congr 2;exact decide_eq_decide.2 (by omega)
theorem Qu (V:Vm) {a j:Nat} (h:a+j≤1024):pX V a j=iX (Am V a j):=by
 unfold pX;rw [Int.toNat_natCast];refine (ng _).og _ (fun p hp=>?_);rw [Bool.eq_iff_iff,wQ (Dv V (by omega) j (by omega)),KS];unfold Am Du;rw [if_pos (by omega),Int.toNat_natCast,Bool.and_eq_true,Bool.and_eq_true,decide_eq_true_eq,decide_eq_true_eq,beq_iff_eq];omega
theorem Qv (n:Nat) (R:List iF) (k:Nat) (h:k<R.length) (S:Vm×List Nd×List Sp×Int):(R.take (k+1)).foldl (dD n) S=dD n ((R.take k).foldl (dD n) S) (R.getD k (0,0,0)):=by
 rw [List.take_add_one,List.getElem?_eq_getElem h,Option.toList_some,List.foldl_append,List.getD_eq_getElem?_getD,List.getElem?_eq_getElem h];rfl
def mF (Q:Vm→Prop):Prop:=∀(V:Vm) (a n:Int) (call:Nat) (fr tk:Int),0≤tk∧tk≤3→Q V→Q (bJ V a n call fr tk).2
theorem mF.jy {Q:Vm→Prop} (hQ:mF Q):∀(XS d:List iF) (V:Vm),Q V→Q (jy XS d V).2.1
 | [],_,_,h=>h
 | x::r,d,V,h=>by
  rw [Go.Pol.jy];split
  ·exact hQ _ _ _ _ _ _ (by omega) h
  ·exact mF.jy hQ r _ _ (hQ _ _ _ _ _ _ (by omega) h)
theorem mF.OT {Q:Vm→Prop} (hQ:mF Q):∀(l:List iF) (S:Vm×List Sp×Int),Q S.1→Q (l.foldl dK S).1
 | [],_,h=>h
 | x::l,S,h=>by
  refine mF.OT hQ l (dK S x) ?_;unfold dK;dsimp only;split <;> exact hQ _ _ _ _ _ _ (by omega) h
theorem mF.grow {Q:Vm→Prop} (hQ:mF Q) {V:Vm} (h:Q V) (L:List Nd) (r:Cr) (tt:Int):Q (cZ V L r tt).2.2.1:=by
 unfold cZ;split
 ·exact h
 ·split
  ·exact h
  ·split
   ·exact h
   ·dsimp only
    split
    ·exact h
    ·split
     ·exact mF.jy hQ _ _ _ h
     ·exact mF.OT hQ _ _ (mF.jy hQ _ _ _ h)
theorem mF.dD {Q:Vm→Prop} (hQ:mF Q) (n:Nat):∀(l:List iF) (S:Vm×List Nd×List Sp×Int),Q S.1→Q (l.foldl (dD n) S).1
 | [],_,h=>h
 | x::l,S,h=>by
  refine mF.dD hQ n l (Go.Pol.dD n S x) ?_;unfold Go.Pol.dD;dsimp only;split <;> exact hQ _ _ _ _ _ _ (by omega) h
theorem mF.iG {Q:Vm→Prop} (hQ:mF Q):∀(G:List Sp) (V:Vm),Q V→Q (iG G V).2
 | [],_,h=>h
 | x::G,V,h=>by
  rw [Go.Pol.iG];split
  ·exact hQ _ _ _ _ _ _ (by omega) h
  ·exact mF.iG hQ G _ (hQ _ _ _ _ _ _ (by omega) h)
theorem mF.fT {Q:Vm→Prop} (hQ:mF Q) {V:Vm} (h:Q V) (r:Cr):Q (fT V r).2.2:=by
 unfold Go.Pol.fT;dsimp only;split
 ·exact mF.iG hQ _ _ h
 ·split <;> exact hQ _ _ _ _ _ _ (by omega) (mF.iG hQ _ _ h)
theorem mF.close {Q:Vm→Prop} (hQ:mF Q) {V:Vm} (h:Q V) (L:List Nd) (r:Cr):Q (dG V L r).2.2.1:=by
 unfold dG;split
 ·exact h
 ·split
  ·exact mF.fT hQ h r
  ·have a:=mF.dD hQ r.node.toNat (bS (setOf (r.kept++bG 0 r.live)) 0 (aA r.pg r.n r.f r.bk r.ev)) (V,L,setOf (r.kept++bG 0 r.live),0) h
   dsimp only;split
   ·exact a
   ·exact mF.fT hQ a _
theorem mF.oL {Q:Vm→Prop} (hQ:mF Q) (G:List Sp):∀(r d:List Sp) (V:Vm),Q V→Q (oL G d r V).2.2
 | [],_,_,h=>h
 | x::r,d,V,h=>by
  have hu:∀(d:List Sp) (S:List Sp×Vm),Q S.2→Q (d.foldl jk S).2:=fun d=>by
   induction d with
   | nil=>exact fun _ h=>h
   | cons x d ih=>exact fun S h=>ih (jk S x) (hQ _ _ _ _ _ _ (by omega) h)
  rw [Go.Pol.oL];split
  ·exact mF.oL hQ G r (x::d) _ (hQ _ _ _ _ _ _ (by omega) h)
  ·exact hu d ([],_) (hQ _ _ _ _ _ _ (by omega) h)
def tO (R:List Ru) (V:Vm):Prop:=fK V∧V.rf.rules=R
theorem zG (R:List Ru):mF (tO R):=fun V a n call fr tk ht h=>⟨h.1.bJ a n call fr tk ht,(xA V a n call _ _).trans h.2⟩
theorem tO.write {R:List Ru} {V:Vm} (h:tO R V) (a v:Int):tO R (om V a v):=by
 refine ⟨h.1.write a v,?_⟩;unfold om;split <;> exact h.2
theorem tO.join {R:List Ru} {V:Vm} (h:tO R V) (p:Int):tO R (Go.Pol.eO V p).2:=by
 refine ⟨h.1.join p,?_⟩;unfold Go.Pol.eO;split
 ·exact h.2
 ·split
  ·exact h.2
  ·exact (xA _ _ _ _ _ _).trans h.2
theorem tO.split {R:List Ru} {V:Vm} (h:tO R V) (p:Int):tO R (lF V p).2:=by
 refine ⟨h.1.split p,?_⟩;unfold lF;split
 ·exact h.2
 ·exact (xA _ _ _ _ _ _).trans h.2
def joC (V:Vm) (q:Int):Vm:=if (Go.Pol.eO V q).1=8 then (lF (Go.Pol.eO V q).2 q).2 else (Go.Pol.eO V q).2
theorem tO.jo {R:List Ru} {V:Vm} (h:tO R V) (q:Int):tO R (joC V q):=by
 unfold joC;split
 ·exact (h.join q).split q
 ·exact h.join q
def iW (r:Cr):Prop:=(bN r.pg r.n r.f r.bk r.ev=0∧r.node=1)∨r=bn
theorem iW.grow {r:Cr} (h:iW r) (V:Vm) (L:List Nd) (tt:Int):iW (cZ V L r tt).1:=by
 rcases h with h|rfl
 ·unfold cZ
  split
  ·exact .inl h
  ·split
   ·exact .inl h
   ·split
    ·exact .inl h
    ·dsimp only
     split
     ·exact .inl h
     ·split <;> exact .inl h
 ·have h0:bE bn≠0:=by decide
  unfold cZ;rw [if_pos h0];exact .inr rfl
theorem iW.shrink {r:Cr} (h:iW r) (tt:Int):iW (iE r tt).1:=by
 rcases h with h|rfl
 ·unfold iE
  split
  ·exact .inl h
  ·split
   ·exact .inl h
   ·split <;> exact .inl h
 ·have h0:bE bn≠0:=by decide
  unfold iE;rw [if_pos h0];exact .inr rfl
theorem iW.fT {r:Cr} (h:iW r) (V:Vm):iW (fT V r).1:=by
 unfold Go.Pol.fT;dsimp only;split
 ·exact h
 ·split
  ·exact h
  ·exact .inr rfl
theorem iW.put {r:Cr} (h:bN r.pg r.n r.f r.bk r.ev=0∧r.node=1) (l:Int) (k:List Sp) (c:Bool):iW ⟨r.pg,r.n,r.f,r.bk,r.ev,r.node,l,k,c⟩:=.inl h
theorem iW.close {r:Cr} (h:iW r) (V:Vm) (L:List Nd):iW (dG V L r).1:=by
 rcases h with h|rfl
 ·unfold dG
  split
  ·exact .inl h
  ·split
   ·exact iW.fT (.inl h) V
   ·dsimp only
    split
    ·exact iW.put h _ _ _
    ·exact iW.fT (iW.put h _ _ _) _
 ·have h0:bE bn≠0:=by decide
  unfold dG;rw [if_pos h0];exact .inr rfl
theorem TQ {K:List Sp} (hK:Can K) {a:Int} (ha:a≤1024) (k:Nat):dA (fun j=>mem (j:Int) K) 0 a true k=mem (k:Int) (setOf (K++bG 0 a)):=by
 rw [G5 hK (lZ (Int.le_refl 0) ha),vM];unfold dA;by_cases h:(k:Int)<a
 ·rw [if_pos ⟨by omega,h⟩,decide_eq_true (by omega),decide_eq_true h];simp
 ·rw [if_neg (fun e=>h e.2),decide_eq_false h];simp
theorem Qw (n:Nat) (V:Vm) (L:List Nd) (K:List Sp) (e:Int) (xa xb xn:Int):dD n (V,L,K,e) (xa,xb,xn)=if (bJ V xa xb 3 2 1).1=0 then ((bJ V xa xb 3 2 1).2,(iT L n xb).2,ay K (aZ [(xn,xb)] (0,1024)),e) else ((bJ V xa xb 3 2 1).2,L,K,if e=0 then (bJ V xa xb 3 2 1).1 else e):=rfl
end Go.Pol
namespace Go.Proofs.YtjmmgoijnhnnaaaGreat
open Go Go.Proofs Go.RowKit Go.Pol Go.Shelf Tryz
attribute [local go_sem] Oper.semAt_some aC au az ah
theorem Qm (B bs bb:Nat) (V:Vm) (L:List Nd) (pg n f bk ev:Int) (nn a t:Nat) (K:List Sp) (A:Option Addr) (m cap:Nat) (w:World) (hV:bq w B bs V) (hB:eP w B bb L) (hO:bg L) (hnl:nn<L.length) (hm:K.length=m) (hcap:m≤cap) (hcm:cap≤maxLen) (hk:KeptAt w A K) (hok:ND ⟨pg,n,f,bk,ev,nn,a,K,false⟩) (hat:a≤t) (htu:(t:Int)≤aI (aA pg n f bk ev)) :
  Calls prog 88 #[.pointer (some ⟨bs,0,none⟩),.pointer (some ⟨bb,0,none⟩),.agg (ai ⟨pg,n,f,bk,ev,nn,a,K,false⟩ (.slice A m cap)),.int .i64 t] w fun e w'=>∃v,e= .returned (.tuple #[v,.int .i64 (cZ V L ⟨pg,n,f,bk,ev,nn,a,K,false⟩ t).2.1])∧Bj (cZ V L ⟨pg,n,f,bk,ev,nn,a,K,false⟩ t).1 w' v∧bI B bs bb (cZ V L ⟨pg,n,f,bk,ev,nn,a,K,false⟩ t).2.2.1 (cZ V L ⟨pg,n,f,bk,ev,nn,a,K,false⟩ t).2.2.2 w w':=by
 have hr:=hk.ru;have hlt:=hV.lt;have hp:dS pg n f bk ev:=hok.plan;have jN:Go.Pol.Can K:=hok.can;have hlow:∀x∈K,(a:Int)≤x.1:=fun x hx=>(hok.low x hx).1
 have hz:bN pg n f bk ev=0:=bU.2 hp;have hs1:aI (aA pg n f bk ev)≤1024:=(nJ hp).2;have hck:bE ⟨pg,n,f,bk,ev,nn,a,K,false⟩=0:=gB.2 hok;have ER:oG ⟨pg,n,f,bk,ev,nn,a,K,false⟩=aI (aA pg n f bk ev):=by unfold oG;rw [if_pos hz]
 have HK:=ae (fun W h=>jF ⟨pg,n,f,bk,ev,nn,a,K,false⟩ A cap W (by simp only;omega) hcm h);have oJ:=ae (fun W h=>tL ⟨pg,n,f,bk,ev,nn,a,K,false⟩ A cap W h jN);have hcf:lC pg n f bk ev=(aI (aA pg n f bk ev),n - aI (aA pg n f bk ev)):=by unfold lC;rw [if_pos hz]
 have tY:=ae (fun W=>vB pg n f bk ev W);rw [hcf,hz] at tY;simp only at tY;have zK:Go.Pol.Can (bG (a:Int) (t:Int)):=lZ (by omega) (by omega);have WZ:∀k:Nat,k<1024→nC K a t k=mem (k:Int) (ay (bG (a:Int) (t:Int)) (aZ K (0,1024))):=fun k _=>TF jN zK k
 have hMo:Go.Pol.Can (ay (bG (a:Int) (t:Int)) (aZ K (0,1024))):=pE zK jN;have U2:qL K a (t - a)=aI (ay (bG (a:Int) (t:Int)) (aZ K (0,1024))):=by
  have h:=Ty jN (a:=a) (d:=t - a) (by omega) (by rw [show a+(t - a)=t by omega];exact zK);rw [show a+(t - a)=t by omega] at h;exact h
 have hin:∀k,mem k (ay (bG (a:Int) (t:Int)) (aZ K (0,1024)))=true→k<aI (aA pg n f bk ev):=fun k h=>by
  rw [DT jN zK,Bool.and_eq_true,Bool.and_eq_true,decide_eq_true_eq,decide_eq_true_eq] at h;omega
 have vC:=TG (V:=V) (L:=L) (r:=⟨pg,n,f,bk,ev,nn,a,K,false⟩) (tt:=t) hck rfl (by rw [ER];simp only;omega) rfl rfl rfl;rw [aaj jN (live:=(a:Int)) (tt:=(t:Int)) (by omega) hlow] at vC;obtain ⟨G,hG⟩:=aj (cZ V L ⟨pg,n,f,bk,ev,nn,a,K,false⟩ t);rw [hG] at vC ⊢;clear hG;simp only [Int.toNat_natCast] at vC;have hset:∀f':Nat→Bool,(∀k:Nat,k<1024→f' k=mem (k:Int) (ay (bG (a:Int) (t:Int)) (aZ K (0,1024))))→iX (oz (aA pg n f bk ev) f' 1024)=iV (bS (ay (bG (a:Int) (t:Int)) (aZ K (0,1024))) 0 (aA pg n f bk ev)):=fun f' h=>K7 hMo hs1 (bL hp).1 (bL hp).2 h
 have hall:=(Br hMo hp).1;have yF:=zo hMo hp;have hlen:=GZ hMo hp hin;have hsum:=CX K (a:Int) (t - a);rw [U2] at hsum;have HG:=ae (fun W h=>MS B bb nn (aI (ay (bG (a:Int) (t:Int)) (aZ K (0,1024)))) L W h hO hnl);have RO:=uG hO hnl (aI (ay (bG (a:Int) (t:Int)) (aZ K (0,1024))));have hcL:=wZ L nn (aI (ay (bG (a:Int) (t:Int)) (aZ K (0,1024))));generalize ay (bG (a:Int) (t:Int)) (aZ K (0,1024))=M at *;obtain ⟨RL,M3⟩:=aj (aA pg n f bk ev);obtain ⟨R,hR⟩:=aj (bS M 0 RL);have vP:=ae (fun (W:World) (v:Value) (cs:Array Value) (hM:bC cs (nC K a t))=>IV ⟨pg,n,f,bk,ev,nn,a,K,false⟩ v cs (nC K a t) W hM hz);simp only at vP;rw [hset _ WZ,M3,hR] at vP;have TH:=ae (fun (W:World) (v:Value) (cs:Array Value) (g:Nat→Bool) (x:iF) (hM:bC cs g) (hx:Dx 0 RL x)=>CW ⟨pg,n,f,bk,ev,nn,a,K,false⟩ v cs g x true W hM hz (by simp only;rw [M3];exact hx) hs1);rw [M3] at vC hall hlen hs1 htu tY yF;rw [hR] at vC hall hlen yF;have M4:=ae hall;have La:=ae yF;have agn:Hid (dQ R=aI M):=ae hlen;obtain ⟨sm,hsm⟩:=aj (aI M);rw [hsm] at vC HG RO hcL U2 hsum;have akc:=ae hsm;have aao:=ae U2;obtain ⟨CH,hCH⟩:=aj (iO L nn sm);rw [hCH] at HG RO hcL vC;obtain ⟨ce,cL⟩:=CH;simp only at HG RO hcL vC;have akd:=ae RO;have ake:=ae hcL;have akf:=ae jN;clear yF hset WZ hcf hCH hsm U2 hlen hall M3 hR ER hok hMo zK hlow hp hin RO hcL;rw [hck] at HK;rw [hm] at HK oJ;have hm':=ae hm;have hb0:=below_alloc2 (aV w (.cells (ai ⟨pg,n,f,bk,ev,(nn:Int),(a:Int),K,false⟩ (.slice A m cap)) 43)) (.cells (ai bn (.slice none 0 0)) 43);have k0:=(ag.new w 43 (ai ⟨pg,n,f,bk,ev,(nn:Int),(a:Int),K,false⟩ (.slice A m cap))).dU (.cells (ai bn (.slice none 0 0)) 43);have kR:=ag.nL w (.cells (ai ⟨pg,n,f,bk,ev,(nn:Int),(a:Int),K,false⟩ (.slice A m cap)) 43) 43 (ai bn (.slice none 0 0));have hr0:=ae (hr.on hb0);dsimp only [ai,bn] at k0 hb0 kR hr0 HK ⊢;have gI:=ae hk;dsimp only [ai] at oJ vP TH;have hBr:=ae hB;have TI:=ae hV;have akg:=ae TH;have d2:decide ((t:Int)<(a:Int))=false:=by rw [decide_eq_false_iff_not];omega
 have d3:decide (aI RL<(t:Int))=false:=by rw [decide_eq_false_iff_not];omega
 have hZs:=fV;obtain ⟨us,adN⟩:=aj (aI RL);rw [adN] at d3 tY hs1 htu;clear hr hk hm hB hV adN TH;go_enter func88,ntmps88;go_wp2_with fail;refine (HK.out _ hr0.out).mono ?_;rintro e w1 ⟨rfl,hb1⟩;have k1:=k0.call hb1;have aN:=kR.call hb1;have B1:=hb0.trans (hb1.mono hb0.size);have hr1:=hr0.out.on hb1;have c1:=k1.cell;have gY:=aN.cell;have gZ:=aN.frozen;clear HK k0 kR hb0 hr0 hb1;go_wp2_with fail;refine (tY.out _).mono ?_;rintro e w2 ⟨rfl,hb2⟩;have k2:=k1.call hb2;have bT:=aN.call hb2;have B2:=B1.trans (hb2.mono B1.size);have hr2:=hr1.on hb2;have c2:=k2.cell;have hbM:=aV w2 (.cells zeroCells231 231);have kM:=ag.new w2 231 zeroCells231;have k3:=k2.call hbM;have eZ:=bT.call hbM;have B3:=B2.trans (hbM.mono B2.size);have hr3:=hr2.on hbM;obtain ⟨mo,hmo⟩:=aj (w2.heap.size);have hwm:w.heap.size+2≤mo:=by have:=bT.lt;omega
 rw [hmo] at kM;clear k1 aN B1 c1 gY gZ hr1 hb2 tY bT B2 hr2 hbM k2;go_upto_region 10 with fail
 try simp only [hmo]
 generalize w2.alloc _=w3 at *;have c3:=k3.cell;clear c2 hmo;go_wp2_with fail;refine (oJ.out _ hr3).mono ?_;rintro e w4 ⟨cs,rfl,lN,hb4⟩;have hb5:=aV w4 (.cells zeroCells231 231);have kH:=ag.new w4 231 zeroCells231;have k4:=(k3.call hb4).call hb5;have dI:=(eZ.call hb4).call hb5;have kM4:=(kM.call hb4).call hb5;have B4:=(B3.trans (hb4.mono B3.size)).trans (hb5.mono (by have:=B3.size;have:=hb4.size;omega));have TJ:=hZs.size;have hsz:=lN.size;have hone:=lN.one;obtain ⟨dd,hd⟩:=aj (w4.heap.size);have hwd:mo<dd:=by have h1:=kM.lt;have h2:=hb4.size;omega
 rw [hd] at kH;clear hb5 hb4 k3 eZ B3 kM c3 hr3 oJ;go_upto_region 11 with (refine wpList_store_mid rfl 231 (.tmp 15) (.tmp 49) rfl dd 0 cs rfl rfl (jU cs _ _ dd hsz TJ kH).2.2 (by rw [hsz];kernel_rfl) hone ?_)
 obtain ⟨wo,F2,_⟩:=jU cs _ _ dd hsz TJ kH;have k5:=F2.blk k4 (by omega);have mJ:=F2.blk dI (by omega);have kM5:=F2.blk kM4 (by omega);have B5:=B4.trans (F2.below (by have:=B4.size;omega) (fun k hk e=>by omega));generalize (w4.alloc _).setCells dd 0 cs.toList=w5 at *;generalize zeroCells231=Z at *;clear kH k4 dI kM4 B4 F2 hone TJ hsz hd;have adO:bC Z (nC K a a):=hZs.congr (fun p _=>by
  symm;unfold nC;rw [Bool.and_eq_false_iff,Bool.and_eq_false_iff,decide_eq_false_iff_not,decide_eq_false_iff_not];exact .inl (by omega))
 have c5:=k5.cell;go_wp2_with fail
 go_loopw [16,17] (fun v16 v17 wr=>∃(i:Nat) (mm:Int) (ps:Array Value),v17= .int .i64 i∧v16= .int .i64 mm∧Hid (mm=qL K a (i - a))∧0≤mm∧mm≤i∧a≤i∧i≤t∧ag wr w.heap.size 43 (ai ⟨pg,n,f,bk,ev,nn,a,K,false⟩ (.slice A m cap))∧ag wr (w.heap.size+1) 43 (ai bn (.slice none 0 0))∧ag wr dd 231 cs∧ag wr mo 231 ps∧bC ps (nC K a i)∧Below w.heap.size w wr) (fun _ v _=>t - (intOf v).toNat)
 case atStart=>exact ⟨a,0,Z,rfl,rfl,ae (by rw [Nat.sub_self];rfl),Int.le_refl _,by omega,Nat.le_refl _,hat,k5,mJ,wo,kM5,adO,B5⟩
 case round =>
  clear c5 k5 mJ wo kM5 adO B5 hZs;obtain ⟨i,mm,ps,rfl,rfl,hmm,hm0,hm1,hai,hit,k6,nP,zQ,W9,hP,B6⟩:=hrel;dsimp only [ai,bn] at k6 nP;by_cases hit2:i<t
  ·have d1:decide ((i:Int)<(t:Int))=true:=by rw [decide_eq_true_eq];omega
   have hi:i<1024:=by omega
   have q0:=(zQ.cell i).trans (lN.at_ i hi);cases hmem:mem (i:Int) K with
   | true =>
    rw [hmem] at q0;have hP2:=hP.congr (g:=nC K a (i+1)) (fun p _=>by
     rw [y8 K hai];by_cases e:p=i
     ·subst e
      rw [if_pos rfl,hmem];unfold nC;rw [hmem];simp
     ·rw [if_neg e])
    have aaq:Hid (mm=qL K a (i+1 - a)):=ae (by
     rw [show i+1 - a=(i - a)+1 by omega,y7,show (a:Int)+((i - a:Nat):Int)=i by omega,if_pos hmem,←hmm.out];omega)
    clear hmem hmm hP;go_wp2_with fail;go_roundw
    case rel=>exact ⟨i+1,mm,ps,by go_num,rfl,aaq,hm0,by omega,by omega,by omega,k6,nP,zQ,W9,hP2,B6⟩
    case measure=>simp [intOf];omega
   | false =>
    rw [hmem] at q0;have hold:=(W9.cell i).trans (hP.at_ i hi);have fM:=W9.frozen;have hM2:=ae (hP.set (g:=nC K a (i+1)) i hi true (by rw [y8 K hai,if_pos rfl,hmem];rfl) (fun j hj=>by rw [y8 K hai,if_neg hj]));generalize nC K a i i=b0 at hold;have aaq:Hid (mm+1=qL K a (i+1 - a)):=ae (by
     rw [show i+1 - a=(i - a)+1 by omega,y7,show (a:Int)+((i - a:Nat):Int)=i by omega,if_neg (by rw [hmem];simp),←hmm.out])
    have F:af (fun k=>k=mo) wr (wr.setCell ⟨mo,i,none⟩ (.bool true)):=af.setCell (T:=fun k=>k=mo) (p:=⟨mo,i,none⟩) (af.refl _ _) (fun _=>rfl) _;have oV:=B6.size;clear hmem hmm hP;go_wp2_with fail;go_roundw
    case rel=>exact ⟨i+1,mm+1,_,by go_num,by go_num,aaq,by omega,by omega,by omega,by omega,F.blk k6 (by omega),F.blk nP (by omega),F.blk zQ (by omega),W9.aO i (.bool true),hM2.out,B6.trans (F.below (by omega) (fun k hk e=>by omega))⟩
    case measure=>simp [intOf];omega
  obtain rfl:t=i:=by omega
  have d1:decide ((t:Int)<(t:Int))=false:=by rw [decide_eq_false_iff_not];omega
  have Ou:sm=mm:=(aao.out.symm.trans hmm.out.symm);subst Ou;have c6:=k6.cell;have Xa:=TI.out.call B6;clear hit2 hmm aao;go_wp2_with fail;refine (HG.out _ (hBr.out.call B6)).mono ?_;rintro e w7 ⟨rfl,h7⟩;have S7:=bI.mi Xa h7;have T7:=(bI.below TI.out hBr.out B6).trans S7;have k7:=S7.blk Xa k6;have MX:=S7.blk Xa nP;have Qe:=S7.blk Xa zQ;have kM7:=S7.blk Xa W9;have c7:=k7.cell;have cR7:=MX.cell;have fR7:=MX.frozen;clear h7 S7 Xa k6 nP zQ W9 B6 c6 HG;by_cases hce:ce=0
  case neg =>
   have h0':(ce != 0)=true:=by simpa using hce
   rw [if_pos hce] at vC;subst vC;clear hce;go_wp2_with fail;change bodyPost _ _ _ _ _ (aL w7 (w.heap.size+1) ⟨pg,n,f,bk,ev,nn,a,K,false⟩ (.slice A m cap));have aR:=aG MX ⟨pg,n,f,bk,ev,nn,a,K,false⟩ (.slice A m cap);have F9:=aH w7 (w.heap.size+1) ⟨pg,n,f,bk,ev,nn,a,K,false⟩ (.slice A m cap);generalize aL w7 (w.heap.size+1) ⟨pg,n,f,bk,ev,nn,a,K,false⟩ (.slice A m cap)=w9 at *;dsimp only [ai] at aR;have bV:=aR.cell;refine bodyPost_ret (v:=.tuple #[.agg (ai ⟨pg,n,f,bk,ev,nn,a,K,false⟩ (.slice A m cap)),.int .i64 ce]) (by simp [results,results88,go_sem,bV,ai]) rfl ?_;have T9:=T7.fresh F9 hlt (fun k hk=>by subst hk;omega) (fun k hk=>by subst hk;exact ⟨_,_,MX,by decide,by decide⟩);exact ⟨_,rfl,⟨A,cap,by rw [hm'.out],by rw [hm'.out];exact hcap,hcm,T9.kept TI.out gI.out⟩,T9⟩
  subst hce;rw [if_neg (by simp)] at vC;have Qn:=hP.size;have Qo:=ae (fun W=>vP.out W (.slice A m cap) ps hP);clear vP hP
  go_wp2_with (refine wpList_load_mid rfl 231 (.tmp 14) rfl mo 0 rfl ps.toList _ (ed kM7) underlying231 rfl (by rw [Array.length_toList,Qn];kernel_rfl) ?_;rw [Array.toArray_toList])
  refine (Qo.out _).mono ?_;rintro e w8 ⟨Ar,akk,rfl,hkR,WO,hcR,uh⟩;have T8:=T7.aU uh;have k8:=k7.call uh;have MZ:=MX.call uh;have JX:=Qe.call uh;clear T7 k7 MX Qe kM7 c7 cR7 fR7 Qo uh Qn;have hpl:=y9 R;have EE:=ae hpl;obtain ⟨rl,hrl⟩:=aj (R.length);rw [hpl,hrl] at WO ⊢;have EF:=ae hrl;have hrm:rl≤maxLen:=by omega
  unfold maxLen at hrm;obtain ⟨CC,hCC⟩:∃C,jy R [] V=C:=⟨_,rfl⟩;rw [hCC] at vC;have akl:=ae hCC;have aas:=ae vC;have hsR:Hid (dQ R=sm):=ae (agn.out.trans akc.out);have aat:=ae lN;clear hpl hrl hCC vC lN;go_wp2_with fail
  go_loopw [10,16,19] (fun v10 v16 v19 wr=>∃(i:Nat) (z0:Int) (Vi:Vm),v10= .int .i64 z0∧v16= .int .i64 sm∧v19= .int .i64 i∧i≤rl∧Hid (jy (R.drop i) (R.take i) Vi=CC)∧ag wr w.heap.size 43 (ai ⟨pg,n,f,bk,ev,nn,a,K,false⟩ (.slice A m cap))∧ag wr (w.heap.size+1) 43 (ai bn (.slice none 0 0))∧ag wr dd 231 cs∧bI B bs bb Vi cL w wr∧KeptAt wr Ar (iV R)) (fun _ _ v _=>rl - (intOf v).toNat)
  case atStart=>exact ⟨0,0,V,rfl,rfl,rfl,by omega,ae (by rw [List.drop_zero,List.take_zero];exact akl.out),k8,MZ,JX,T8,hkR⟩
  case round =>
   clear k8 MZ JX T8 hkR;obtain ⟨i,z0,Vi,rfl,rfl,rfl,hi,hcm2,k9,aR,M5,T9,mg⟩:=hrel;dsimp only [ai,bn] at k9 aR;by_cases hir:i<rl
   ·have d1:decide ((i:Int)<(rl:Int))=true:=by rw [decide_eq_true_eq];omega
    obtain ⟨rb,ro,rfl,hrb,q5,q6⟩:=mg.ru.at_' (k:=i) (by rw [EE.out,EF.out];exact hir);rw [lQ] at q5 q6;have WN:i<R.length:=by rw [EF.out];exact hir
    have htk:=rz (0,0,0) R WN;have xK:=hcm2.out;rw [Go.Pol.drop_cons (0,0,0) R i WN] at xK;generalize R.getD i (0,0,0)=x at *;have hA:Hid ((bJ Vi x.1 x.2.1 2 1 2).1=0→jy (R.drop (i+1)) (R.take (i+1)) (bJ Vi x.1 x.2.1 2 1 2).2=CC):=ae (fun h=>by rw [←xK,aak h,htk]);have Xb:Hid ((bJ Vi x.1 x.2.1 2 1 2).1≠0→((bJ Vi x.1 x.2.1 2 1 2).1,(bJ Vi x.1 x.2.1 2 1 2).2,R.take i)=CC):=ae (fun h=>by rw [←xK,aal h]);obtain ⟨xa,xb,xn⟩:=x;simp only at q5 q6 hA Xb;have e1:=fun x:Ext wr=>x.cell q5
    have e2:=fun x:Ext wr=>x.cell q6
    clear htk xK WN;go_upto_region 25 with fail
    refine dH 11 (by kernel_rfl) (by kernel_rfl) ?_;simp only [List.take_succ_cons,List.take_zero,List.drop_succ_cons,List.drop_zero]
    repeat (go_big_quiet_step (fail))
    refine wpQuiet_nil ?_;intro z;have Tz:=T9.aU z.le;have kz:=k9.call z.le;have CY:=aR.call z.le;have IX:=M5.call z.le;have hkz:=mg.call z.le;have HD:=ae (MO B bs xa xb Vi z.w Tz.sys);clear q5 q6 e1 e2 T9 k9 aR M5 mg;go_wp2_with fail;refine HD.out.mono ?_;rintro e w9 ⟨rfl,h9⟩;have S9:=bI.iK Tz.sys Tz.eD h9;have vk:=Tz.trans S9;have k10:=S9.blk Tz.sys kz;have jG:=S9.blk Tz.sys CY;have aau:=S9.blk Tz.sys IX;have hk10:=S9.kept Tz.sys hkz;clear h9 S9 Tz kz CY IX hkz HD;obtain ⟨J,hJ⟩:=aj (bJ Vi xa xb 2 1 2);rw [hJ] at hA Xb vk;simp only [hJ];obtain ⟨je,jV⟩:=J;simp only at hA Xb vk ⊢;clear hJ;by_cases hj:je=0
    ·subst hj
     have hA2:=ae (hA.out rfl);clear hA Xb;go_wp2_with fail;go_roundw
     case rel=>exact ⟨i+1,_,jV,rfl,rfl,by go_num,by omega,hA2,k10,jG,aau,vk,hk10⟩
     case measure=>simp [intOf];omega
    have hj':(je==0)=false:=by simpa using hj
    have hG2:=aas.out;rw [←Xb.out hj,if_neg hj] at hG2;simp only at hG2;obtain ⟨U,hU⟩:=aj (((R.take i).reverse).foldl dK (jV,K,sm));rw [hU] at hG2;have hUH:=ae hU;have hsi:dQ (R.take i)≤sm:=by
     have h1:=hsR.out;rw [←List.take_append_drop i R,pY] at h1;have h2:=sI (R.drop i) (fun y hy=>La.out y (List.mem_of_mem_drop hy));omega
    have adP:=ae hG2;have c10:=k10.cell;clear hU hG2 hA Xb hj;go_wp2_with fail;clear c10
    go_loopw [16,20] (fun v16 v20 wr=>∃(c:Nat) (y mk:Int) (Vk:Vm) (Kk:List Sp) (M6:Array Value),v20= .int .i64 y∧y=(c:Int) - 1∧v16= .int .i64 mk∧c≤i∧dQ (R.take c)≤mk∧mk≤5000∧Hid (((R.take c).reverse).foldl dK (Vk,Kk,mk)=U)∧Go.Pol.Can Kk∧ag wr w.heap.size 43 (ai ⟨pg,n,f,bk,ev,nn,a,K,false⟩ (.slice A m cap))∧ag wr (w.heap.size+1) 43 (ai bn (.slice none 0 0))∧ag wr dd 231 M6∧Hid (bC M6 (fun k=>mem (k:Int) Kk))∧bI B bs bb Vk cL w wr∧KeptAt wr (some ⟨rb,ro,none⟩) (iV R)) (fun _ v _=>(intOf v+1).toNat)
    case atStart=>exact ⟨i,_,sm,jV,K,cs,rfl,rfl,rfl,Nat.le_refl _,hsi,by omega,hUH,akf.out,k10,jG,aau,aat,vk,hk10⟩
    case round =>
     clear k10 jG aau vk hk10;obtain ⟨c,y,mk,Vk,Kk,M6,rfl,hy,rfl,hci,hs0,hs5,hUk,hKk,k11,Al,za,wy,CZ,aav⟩:=hrel;dsimp only [ai,bn] at k11 Al;cases c with
     | zero =>
      obtain rfl:y = -1:=by omega
      have xV:=hUk.out;rw [List.take_zero,List.reverse_nil,List.foldl_nil] at xV;have hG3:=adP.out;rw [←xV] at hG3;simp only at hG3;have Qp:=ae (fun W h=>BJ B bb nn mk cL W h akd.out (by rw [ake.out];exact hnl));obtain ⟨GV,hGV⟩:=aj (iT cL nn mk);rw [hGV] at Qp hG3;have hKs:=ae (Qk hKk);have c11:=k11.cell;subst hG3;clear hGV xV hy hUk adP hs0 hs5;go_wp2_with fail;refine (Qp.out _ CZ.eD).mono ?_;rintro e R8 ⟨rfl,h12⟩;have Qq:=bI.mi CZ.sys h12;have pF:=CZ.trans Qq;have k12:=Qq.blk CZ.sys k11;have zb:=Qq.blk CZ.sys Al;have xQ:=Qq.blk CZ.sys za;have wB:=wy.out.size;have ou:=kG M6 _ R8 wy.out;rw [hKs.out] at ou;clear h12 Qq CZ k11 Al za c11 Qp
      go_wp2_with (refine wpList_load_mid rfl 231 (.tmp 15) rfl dd 0 rfl M6.toList _ (ed xQ) underlying231 rfl (by rw [Array.length_toList,wB];kernel_rfl) ?_;rw [Array.toArray_toList])
      refine ou.mono ?_;rintro e wq ⟨Aq,cq,rfl,hkq,hlq,hcq,hbq⟩;have kq:=k12.call hbq;have wu:=zb.call hbq;have Tq:=pF.aU hbq;have cqx:=kq.cell;have fqx:=kq.frozen;have cRq:=wu.cell;have fRq:=wu.frozen;clear k12 zb xQ pF ou wy;go_wp2_with fail;change bodyPost _ _ _ _ _ (aL (wq.setCell ⟨w.heap.size,7,none⟩ (.slice Aq Kk.length cq)) (w.heap.size+1) ⟨pg,n,f,bk,ev,nn,a,Kk,false⟩ (.slice Aq Kk.length cq));have aR:=aG (wu.far (p:=⟨w.heap.size,7,none⟩) (by show w.heap.size+1≠w.heap.size;omega) (.slice Aq Kk.length cq)) ⟨pg,n,f,bk,ev,nn,a,Kk,false⟩ (.slice Aq Kk.length cq);have F9:=aH (wq.setCell ⟨w.heap.size,7,none⟩ (.slice Aq Kk.length cq)) (w.heap.size+1) ⟨pg,n,f,bk,ev,nn,a,Kk,false⟩ (.slice Aq Kk.length cq);generalize aL (wq.setCell ⟨w.heap.size,7,none⟩ (.slice Aq Kk.length cq)) (w.heap.size+1) ⟨pg,n,f,bk,ev,nn,a,Kk,false⟩ (.slice Aq Kk.length cq)=w9 at *;dsimp only [ai] at aR;have bV:=aR.cell;refine bodyPost_ret (v:=.tuple #[.agg (ai ⟨pg,n,f,bk,ev,nn,a,Kk,false⟩ (.slice Aq Kk.length cq)),.int .i64 je]) (by simp [results,results88,go_sem,bV,ai]) rfl ?_;have F6:=((af.refl (fun k=>k=w.heap.size∨k=w.heap.size+1) wq).setCell (p:=⟨w.heap.size,7,none⟩) (fun _=>.inl rfl) (.slice Aq Kk.length cq)).trans (F9.mono (fun k _ hk=>.inr hk));have T9:=Tq.fresh F6 hlt (fun k hk=>by rcases hk with rfl|rfl <;> omega) (fun k hk=>by rcases hk with rfl|rfl;exact ⟨_,_,kq,by decide,by decide⟩;exact ⟨_,_,wu,by decide,by decide⟩);exact ⟨_,rfl,⟨Aq,cq,rfl,hlq,hcq,hkq.far F6 (fun g cs hg=>by rintro (rfl|rfl);exact kq.ne hg;exact wu.ne hg)⟩,T9⟩
     | succ c =>
      obtain rfl:y=(c:Int):=by omega
      have d1:decide ((0:Int)≤(c:Int))=true:=by rw [decide_eq_true_eq];omega
      have hcR:c<R.length:=by rw [EF.out];omega
      obtain ⟨rb',ro',he',an8,q5,q6⟩:=aav.ru.at_' (k:=c) (by rw [EE.out];exact hcR);cases he';rw [lQ] at q5 q6;have xV:=hUk.out;rw [TC R c hcR] at xV;have htk:=rz (0,0,0) R hcR;rw [htk,pY] at hs0;have hxm:R.getD c (0,0,0)∈R:=by rw [List.getD_eq_getElem?_getD,List.getElem?_eq_getElem hcR];exact List.getElem_mem hcR
      have hrun:=(M4.out _ hxm).1;have kZ:=La.out _ hxm;obtain ⟨x,TK⟩:=aj (R.getD c (0,0,0));rw [TK] at q5 q6 kZ hrun htk hs0 xV;obtain ⟨xa,xb,xn⟩:=x;have CS:=ae TK;simp only at q5 q6 kZ;have akm:dQ [((xa,xb,xn):iF)]=xb:=by simp [dQ]
      rw [akm] at hs0;have qP:=Can.one kZ;have vG:=av.1 kZ;simp only at vG;have hsp:=sI (R.take c) (fun y hy=>La.out y (List.mem_of_mem_take hy));have hU3:(List.take c R).reverse.foldl dK (if (bJ Vk xa xb 3 2 1).1≠0 then ((bJ Vk xa xb 3 2 1).2,setOf (Kk++[(xn,xb)]),mk - xb) else ((bJ Vk xa xb 3 2 1).2,Kk,mk))=U:=xV;have U3:=ae hU3;have e1:=fun x:Ext wr=>x.cell q5
      have e2:=fun x:Ext wr=>x.cell q6
      clear xV hU3 htk hy hUk hxm TK;go_upto_region 30 with fail
      refine dH 11 (by kernel_rfl) (by kernel_rfl) ?_;simp only [List.take_succ_cons,List.take_zero,List.drop_succ_cons,List.drop_zero]
      repeat (go_big_quiet_step (fail))
      refine wpQuiet_nil ?_;intro z;have Tz:=CZ.aU z.le;have kz:=k11.call z.le;have CY:=Al.call z.le;have IX:=za.call z.le;have hkz:=aav.call z.le;have HD:=ae (tC B bs xa xb Vk z.w Tz.sys);clear q5 q6 e1 e2 CZ k11 Al za aav;go_wp2_with fail;refine HD.out.mono ?_;rintro e w9 ⟨rfl,h9⟩;have S9:=bI.iK Tz.sys Tz.eD h9;have pF:=Tz.trans S9;have k12:=S9.blk Tz.sys kz;have zb:=S9.blk Tz.sys CY;have xQ:=S9.blk Tz.sys IX;have qU:=S9.kept Tz.sys hkz;clear h9 S9 Tz kz CY IX hkz HD;obtain ⟨J,hJ⟩:=aj (bJ Vk xa xb 3 2 1);rw [hJ] at U3 pF;simp only [hJ];obtain ⟨ke,kV⟩:=J;simp only at U3 pF ⊢;have Xc:=U3.out;clear hJ U3;by_cases hj2:ke=0
      ·subst hj2
       rw [if_neg (by simp)] at Xc;have hU5:=ae Xc;clear Xc;go_wp2_with fail;go_roundw
       case rel=>exact ⟨c,_,mk,kV,Kk,M6,rfl,rfl,rfl,by omega,by omega,hs5,hU5,hKk,k12,zb,xQ,wy,pF,qU⟩
       case measure=>(simp [intOf];try omega)
      have hj3:(ke != 0)=true:=by simpa using hj2
      rw [if_pos hj2] at Xc;have hU5:=ae Xc;obtain ⟨g5,o5,TL,hg5,q5,q6⟩:=qU.ru.at_' (k:=c) (by rw [EE.out];exact hcR);cases TL;rw [lQ,CS.out] at q5 q6;simp only at q5 q6;have e0:=fun x:Ext w9=>(x.blk k12).cell
      have e1:=fun x:Ext w9=>x.cell q5
      have e2:=fun x:Ext w9=>x.cell q6
      have wB:=wy.out.size;have hld:=fun zz:Ext w9=>run_loadVar_mid (P:=prog) zz.w dd 0 231 M6.toList _ (ed (zz.blk xQ)) underlying231 rfl (by rw [Array.length_toList,wB];kernel_rfl)
      simp only [Array.toArray_toList] at hld;have HMx:=ae (fun W=>akg.out W (.slice A m cap) M6 (fun k=>mem (k:Int) Kk) (xa,xb,xn) wy.out hrun);have Qr:=ae hld;clear Xc hj2 hld;go_upto_region 31 with fail
      refine dH 6 (by kernel_rfl) (by kernel_rfl) ?_;simp only [List.take_succ_cons,List.take_zero,List.drop_succ_cons,List.drop_zero];go_big_quiet_step (fail);refine oC (.tmp 15) 231 ⟨dd,0,none⟩ (.agg M6) rfl rfl rfl (by rintro _ ⟨zz,rfl⟩;exact Qr.out zz) ?_;simp only [Act.put,List.setIfInBounds_toArray,List.set_cons_zero,List.set_cons_succ]
      repeat (go_big_quiet_step (fail))
      refine wpQuiet_nil ?_;intro z2;have Ms:=pF.aU z2.le;have k13:=k12.call z2.le;have Qs:=zb.call z2.le;have Lb:=xQ.call z2.le;have xL:=qU.call z2.le;clear q5 q6 e0 e1 e2 pF k12 zb xQ qU Qr;go_wp2_with fail;refine (HMx.out _).mono ?_;rintro e Mr ⟨cs',rfl,U4,yL⟩;have Bw:=Ms.aU yL;have k14:=k13.call yL;have Qt:=Qs.call yL;have EG:=Lb.call yL;have yM:=xL.call yL;have TM:=U4.size;have abW:=U4.one;clear Ms k13 Qs Lb xL yL HMx;go_upto_region 32 with (refine wpList_store_mid rfl 231 (.tmp 15) (.tmp 122) rfl dd 0 cs' rfl rfl (jU cs' _ _ dd TM wB EG).2.2 (by rw [TM];kernel_rfl) abW ?_)
      obtain ⟨IY,IZ,_⟩:=jU cs' _ _ dd TM wB EG;have k15:=IZ.blk k14 (by omega);have U9:=IZ.blk Qt (by omega);have Hr:=Bw.fresh IZ hlt (fun k hk=>by subst hk;omega) (fun k hk=>by subst hk;exact ⟨_,_,EG,by decide,by decide⟩);have yN:=yM.far IZ (fun g cs hg e=>by have e:g=dd:=e;subst e;exact EG.ne hg);generalize Mr.setCells dd 0 cs'.toList=Wi at *;clear Bw k14 Qt EG yM IZ;obtain ⟨g5,o5,TL,hg5,q5,q6⟩:=yN.ru.at_' (k:=c) (by rw [EE.out];exact hcR);cases TL;rw [lQ,CS.out] at q5 q6;simp only at q5 q6;have Lc:=ae (U4.congr (fun j _=>TA hKk qP j));clear U4;go_wp2_with fail;go_roundw
      case rel=>exact ⟨c,_,mk - xb,kV,_,cs',rfl,by go_num,by go_num,by omega,by omega,by omega,hU5,ng _,k15,U9,IY,Lc,Hr,yN⟩
      case measure=>(simp [intOf];try omega)
   ·obtain rfl:i=rl:=by omega
    have d1:decide ((i:Int)<(i:Int))=false:=by rw [decide_eq_false_iff_not];omega
    have hG2:=aas.out;have hC2:=hcm2.out;rw [List.drop_of_length_le (by rw [EF.out];omega),List.take_of_length_le (by rw [EF.out];omega)] at hC2;rw [←hC2] at hG2;rw [show jy [] R Vi=(0,Vi,R) from rfl,if_pos rfl] at hG2;simp only at hG2;obtain ⟨SA,zM⟩:=aj (iX (dA (fun j=>mem (j:Int) K) (a:Int) (t:Int) false));rw [zM] at hG2;have aah:=ae zM;have hMa:bC cs (dA (fun j=>mem (j:Int) K) (a:Int) (a:Int) false):=aat.out.congr (fun k hk=>by unfold dA;rw [if_neg (by omega)]);subst hG2;have c9:=k9.cell;clear zM hC2 hcm2 aas mg;go_wp2_with fail;clear c9
    go_loopw [21] (fun v21 wr=>∃(j:Nat) (csj:Array Value),v21= .int .i64 j∧a≤j∧j≤t∧ag wr w.heap.size 43 (ai ⟨pg,n,f,bk,ev,nn,a,K,false⟩ (.slice A m cap))∧ag wr (w.heap.size+1) 43 (ai bn (.slice none 0 0))∧ag wr dd 231 csj∧Hid (bC csj (dA (fun j=>mem (j:Int) K) (a:Int) (j:Int) false))∧bI B bs bb Vi cL w wr) (fun v _=>t - (intOf v).toNat)
    case atStart=>exact ⟨a,cs,rfl,Nat.le_refl _,hat,k9,aR,M5,ae hMa,T9⟩
    case round =>
     clear k9 aR M5 T9 hMa aat;obtain ⟨j,csj,rfl,haj,hjt,k11,Al,za,wy,CZ⟩:=hrel;dsimp only [ai,bn] at k11 Al;by_cases hj2:j<t
     ·have d1:decide ((j:Int)<(t:Int))=true:=by rw [decide_eq_true_eq];omega
      have hj:j<1024:=by omega
      have hold:=(za.cell j).trans (wy.out.at_ j hj);have fH:=za.frozen;have akp:=ae (wy.out.set (g:=dA (fun j=>mem (j:Int) K) (a:Int) ((j+1:Nat):Int) false) j hj false (by rw [jZ _ _ j false (by omega),if_pos rfl]) (fun q hq=>by rw [jZ _ _ j false (by omega),if_neg hq]));generalize dA (fun j=>mem (j:Int) K) (a:Int) (j:Int) false j=b0 at hold;have F:af (fun k=>k=dd) wr (wr.setCell ⟨dd,j,none⟩ (.bool false)):=af.setCell (T:=fun k=>k=dd) (p:=⟨dd,j,none⟩) (af.refl _ _) (fun _=>rfl) _;have pF:=CZ.fresh F hlt (fun k hk=>by subst hk;omega) (fun k hk=>by subst hk;exact ⟨_,_,za,by decide,by decide⟩);clear CZ wy;go_wp2_with fail;go_roundw
      case rel=>exact ⟨j+1,_,by go_num,by omega,by omega,F.blk k11 (by omega),F.blk Al (by omega),za.aO j (.bool false),akp,pF⟩
      case measure=>simp [intOf];omega
     obtain rfl:j=t:=by omega
     have d1:decide ((j:Int)<(j:Int))=false:=by rw [decide_eq_false_iff_not];omega
     have wB:=wy.out.size;have ou:=kG csj _ wr wy.out;rw [aah.out] at ou
     go_wp2_with (refine wpList_load_mid rfl 231 (.tmp 15) rfl dd 0 rfl csj.toList _ (ed za) underlying231 rfl (by rw [Array.length_toList,wB];kernel_rfl) ?_;rw [Array.toArray_toList])
     refine ou.mono ?_;rintro e wq ⟨Aq,cq,rfl,hkq,hlq,hcq,hbq⟩;have kq:=k11.call hbq;have wu:=Al.call hbq;have Tq:=CZ.aU hbq;have cqx:=kq.cell;have fqx:=kq.frozen;have cRq:=wu.cell;have fRq:=wu.frozen;have F4:=((af.refl (fun k=>k=w.heap.size∨k=w.heap.size+1) wq).setCell (p:=⟨w.heap.size,6,none⟩) (fun _=>.inl rfl) (.int .i64 j)).setCell (p:=⟨w.heap.size,7,none⟩) (fun _=>.inl rfl) (.slice Aq SA.length cq);have nP:=(wu.far (p:=⟨w.heap.size,6,none⟩) (by show w.heap.size+1≠w.heap.size;omega) (.int .i64 j)).far (p:=⟨w.heap.size,7,none⟩) (by show w.heap.size+1≠w.heap.size;omega) (.slice Aq SA.length cq);clear k11 Al za CZ ou wy;go_wp2_with fail;change bodyPost _ _ _ _ _ (aL ((wq.setCell ⟨w.heap.size,6,none⟩ (.int .i64 j)).setCell ⟨w.heap.size,7,none⟩ (.slice Aq SA.length cq)) (w.heap.size+1) ⟨pg,n,f,bk,ev,nn,j,SA,false⟩ (.slice Aq SA.length cq));have aR:=aG nP ⟨pg,n,f,bk,ev,nn,j,SA,false⟩ (.slice Aq SA.length cq);have F9:=aH ((wq.setCell ⟨w.heap.size,6,none⟩ (.int .i64 j)).setCell ⟨w.heap.size,7,none⟩ (.slice Aq SA.length cq)) (w.heap.size+1) ⟨pg,n,f,bk,ev,nn,j,SA,false⟩ (.slice Aq SA.length cq);generalize aL ((wq.setCell ⟨w.heap.size,6,none⟩ (.int .i64 j)).setCell ⟨w.heap.size,7,none⟩ (.slice Aq SA.length cq)) (w.heap.size+1) ⟨pg,n,f,bk,ev,nn,j,SA,false⟩ (.slice Aq SA.length cq)=w9 at *;dsimp only [ai] at aR;have bV:=aR.cell;refine bodyPost_ret (v:=.tuple #[.agg (ai ⟨pg,n,f,bk,ev,nn,j,SA,false⟩ (.slice Aq SA.length cq)),.int .i64 0]) (by simp [results,results88,go_sem,bV,ai]) rfl ?_;have F6:=F4.trans (F9.mono (fun k _ hk=>.inr hk));have T9:=Tq.fresh F6 hlt (fun k hk=>by rcases hk with rfl|rfl <;> omega) (fun k hk=>by rcases hk with rfl|rfl;exact ⟨_,_,kq,by decide,by decide⟩;exact ⟨_,_,wu,by decide,by decide⟩);exact ⟨_,rfl,⟨Aq,cq,rfl,hlq,hcq,hkq.far F6 (fun g cs hg=>by rintro (rfl|rfl);exact kq.ne hg;exact wu.ne hg)⟩,T9⟩
theorem Xd {Q:Vm→Prop} (hQ:mF Q) {V:Vm} (h:Q V) (pg n f bk ev node:Int):Q (kC V pg n f bk ev node).2.2:=by
 unfold kC;dsimp only;split
 ·exact h
 ·have h1:Q (bJ V pg n 0 0 1).2:=hQ _ _ _ _ _ _ (by omega) h
  have h2:Q (jw (bJ V pg n 0 0 1).2 (bN pg n f bk ev) (eH pg n f bk ev)).2.2:=by
   unfold Go.Pol.jw;split
   ·exact mF.oL hQ _ _ [] _ h1
   ·exact h1
  split
  ·exact h1
  ·split
   ·exact h2
   ·split
    ·have h3:=hQ _ pg n 1 1 0 (by omega) h2
     split <;> exact h3
    ·exact h2
theorem TN {Q:Vm→Prop} (hQ:mF Q) {V:Vm} (h:Q V) (L:List Nd) (r:Cr) (k:Int):Q (bX V L r k).2.2.1:=by
 unfold bX;split
 ·exact h
 ·split
  ·exact h
  ·dsimp only
   split <;> exact hQ _ _ _ _ _ _ (by omega) h
theorem M7 {r:Cr} (h:iW r) (V:Vm) (L:List Nd) (k:Int):iW (bX V L r k).1:=by
 rcases h with h|rfl
 ·unfold bX
  split
  ·exact .inl h
  ·split
   ·exact .inl h
   ·dsimp only
    split <;> exact .inl h
 ·have h0:bE bn≠0:=by decide
  unfold bX;rw [if_pos h0];exact .inr rfl
theorem M8 {L:List Nd} (h:bg L) (V:Vm) (r:Cr) (k:Int) (hn:r.node.toNat<L.length):bg (bX V L r k).2.2.2∧(bX V L r k).2.2.2.length=L.length:=by
 unfold bX;split
 ·exact ⟨h,rfl⟩
 ·split
  ·exact ⟨h,rfl⟩
  ·dsimp only
   split
   ·exact ⟨h,rfl⟩
   ·exact ⟨rQ h hn _,o6 _ _ _⟩
def tQ (r:Cr) (b:Int):Int:=if (Af r b).2=0 then (Af r b).1 else r.pg
theorem kJ {r:Cr} (h:iW r) (b:Int):0≤tQ r b∧tQ r b<1024:=by
 unfold tQ;split
 ·rename_i h1
  exact Pn h1
 ·rcases h with h|rfl
  ·have h1:=bU.1 h.1
   have:=h1.De;have:=h1.Xp;omega
  ·exact ⟨Int.le_refl 0,(by decide:(0:Int)<1024)⟩
def qM (S:Vm×List Nd×Cr) (x:Int×Int):Vm×List Nd×Cr :=
 if x.1 % 12<4 then ((cZ S.1 S.2.1 S.2.2 x.2).2.2.1,(cZ S.1 S.2.1 S.2.2 x.2).2.2.2,(cZ S.1 S.2.1 S.2.2 x.2).1)
 else if x.1 % 12<6 then (S.1,S.2.1,(iE S.2.2 x.2).1)
 else if x.1 % 12<8 then ((bX S.1 S.2.1 S.2.2 x.2).2.2.1,(bX S.1 S.2.1 S.2.2 x.2).2.2.2,(bX S.1 S.2.1 S.2.2 x.2).1)
 else if x.1 % 12=8 then (om S.1 (tQ S.2.2 x.2*64) ((tQ S.2.2 x.2+1) % 256),S.2.1,S.2.2)
 else if x.1 % 12=9 then (joC S.1 (tQ S.2.2 x.2 - tQ S.2.2 x.2 % 16),S.2.1,S.2.2)
 else if x.1 % 12=10 then (S.1,(jT S.2.1 1 x.2).2,S.2.2)
 else ((dG S.1 S.2.1 S.2.2).2.2.1,(dG S.1 S.2.1 S.2.2).2.2.2,(dG S.1 S.2.1 S.2.2).1)
structure RcI (R:List Ru) (S:Vm×List Nd×Cr):Prop where
 sys:tO R S.1
 eD:bg S.2.1
 two:S.2.1.length=2
 BK:iW S.2.2
theorem RcI.node {R:List Ru} {S:Vm×List Nd×Cr} (h:RcI R S):S.2.2.node.toNat<S.2.1.length:=by
 rw [h.two];rcases h.BK with h|h
 ·rw [h.2];decide
 ·rw [h];decide
theorem xD {R:List Ru} {S:Vm×List Nd×Cr} (h:RcI R S) (x:Int×Int):RcI R (qM S x):=by
 have hn:=h.node;obtain ⟨V,L,r⟩:=S;obtain ⟨h1,h2,h3,h4⟩:=h;simp only at h1 h2 h3 h4 hn;unfold qM;dsimp only;split
 ·have hb:=bg.cZ h2 V r x.2 hn
  exact ⟨(zG R).grow h1 L r x.2,hb.1,hb.2.trans h3,h4.grow V L x.2⟩
 ·split
  ·exact ⟨h1,h2,h3,h4.shrink x.2⟩
  ·split
   ·have hb:=M8 h2 V r x.2 hn
    exact ⟨TN (zG R) h1 L r x.2,hb.1,hb.2.trans h3,M7 h4 V L x.2⟩
   ·split
    ·exact ⟨h1.write _ _,h2,h3,h4⟩
    ·split
     ·exact ⟨h1.jo _,h2,h3,h4⟩
     ·split
      ·refine ⟨h1,Pf h2 1 x.2,?_,h4⟩
       dsimp only;rw [←h3];unfold jT;split
       ·rfl
       ·simp
      ·have hb:=aQ.close h1.1.kinds h2 r hn
       exact ⟨(zG R).close h1 L r,hb.2.1,hb.2.2.trans h3,h4.close V L⟩
end Go.Proofs.YtjmmgoijnhnnaaaGreat
namespace Go.Pol
open Go Go.RowKit Go.Proofs.Tryz
abbrev I4 (ps pb:Option Addr) (r:Cr) (v:Value) (pt pc:Option Addr) (q:Cr) (u:Value):Array Value:=#[.pointer ps,.pointer pb,.int .i64 r.pg,.int .i64 r.n,.int .i64 r.f,.int .i64 r.bk,.int .i64 r.ev,.int .i64 r.node,.int .i64 r.live,v,.bool r.cl,
 .pointer pt,.pointer pc,.int .i64 q.pg,.int .i64 q.n,.int .i64 q.f,.int .i64 q.bk,.int .i64 q.ev,.int .i64 q.node,.int .i64 q.live,u,.bool q.cl]
def wC (W:World) (g:Nat) (r:Cr) (v:Value):World :=
 ((((((((W.setCell ⟨g,13,none⟩ (.int .i64 r.pg)).setCell ⟨g,14,none⟩ (.int .i64 r.n)).setCell ⟨g,15,none⟩ (.int .i64 r.f)).setCell ⟨g,16,none⟩ (.int .i64 r.bk)).setCell ⟨g,17,none⟩ (.int .i64 r.ev)).setCell ⟨g,18,none⟩ (.int .i64 r.node)).setCell ⟨g,19,none⟩ (.int .i64 r.live)).setCell ⟨g,20,none⟩ v).setCell ⟨g,21,none⟩ (.bool r.cl)
theorem wD {W:World} {g:Nat} {t:TypeId} {a b a0 a1 a2 a3 a4 a5 a6 a7 a8 b0 b1 b2 b3 b4 b5 b6 b7 b8 b9 b10:Value} (h:ag W g t #[a,b,a0,a1,a2,a3,a4,a5,a6,a7,a8,b0,b1,b2,b3,b4,b5,b6,b7,b8,b9,b10]) (r:Cr) (v:Value) :
  ag (wC W g r v) g t #[a,b,a0,a1,a2,a3,a4,a5,a6,a7,a8,b0,b1,.int .i64 r.pg,.int .i64 r.n,.int .i64 r.f,.int .i64 r.bk,.int .i64 r.ev,.int .i64 r.node,.int .i64 r.live,v,.bool r.cl]:=by
 have:=((((((((h.aO 13 (.int .i64 r.pg)).aO 14 (.int .i64 r.n)).aO 15 (.int .i64 r.f)).aO 16 (.int .i64 r.bk)).aO 17 (.int .i64 r.ev)).aO 18 (.int .i64 r.node)).aO 19 (.int .i64 r.live)).aO 20 v).aO 21 (.bool r.cl);simpa [wC] using this
theorem wE (W:World) (g:Nat) (r:Cr) (v:Value):af (fun k=>k=g) W (wC W g r v) :=
 (((((((((af.refl (fun k=>k=g) W).setCell (p:=⟨g,13,none⟩) (fun _=>rfl) _).setCell (p:=⟨g,14,none⟩) (fun _=>rfl) _).setCell (p:=⟨g,15,none⟩) (fun _=>rfl) _).setCell (p:=⟨g,16,none⟩) (fun _=>rfl) _).setCell (p:=⟨g,17,none⟩) (fun _=>rfl) _).setCell (p:=⟨g,18,none⟩) (fun _=>rfl) _).setCell (p:=⟨g,19,none⟩) (fun _=>rfl) _).setCell (p:=⟨g,20,none⟩) (fun _=>rfl) _).setCell (p:=⟨g,21,none⟩) (fun _=>rfl) _
theorem aS.ref {N bs bb ts:Nat} {V V0 U:Vm} {L:List Nd} {w w':World} (h:aS bs bb V L w w') (h0:aD w bs V0) (hlo:N≤bs∧N+1≤bb) (hr:bq w N ts U):bq w' N ts U:=by
 obtain ⟨cs,hc⟩:=hr.typed;refine hr.far h.far (fun k hk=>⟨?_,fun e=>?_⟩)
 ·rcases hk with rfl|⟨hb,_⟩ <;> omega
 ·subst e
  exact l9.not h0 hc (by decide) (by decide) hk
theorem aS.ui {N bs bb tb:Nat} {V V0:Vm} {L K:List Nd} {w w':World} (h:aS bs bb V L w w') (h0:aD w bs V0) (hr:eP w N tb K):eP w' N tb K:=by
 obtain ⟨cs,hc⟩:=hr.typed;exact hr.far h.far (l9.not h0 hc (by decide) (by decide)) (fun k ⟨_,ds,hd⟩=>l9.not h0 hd (by decide) (by decide))
theorem bI.prg {N bs ts tb:Nat} {V V0 U:Vm} {L:List Nd} {w w':World} (h:bI N ts tb V L w w') (h0:bq w N ts V0) (hs:aD w bs U):aD w' bs U:=by
 obtain ⟨cs,hc⟩:=hs.typed;exact hs.far h.far (tN.not h0 hc (by decide) (by decide)) (fun _ _ _ _ _ _ _ _ _ _ ⟨_,hr⟩=>tN.not h0 hr (by decide) (by decide))
theorem bI.bu {N bb ts tb:Nat} {V V0:Vm} {L K:List Nd} {w w':World} (h:bI N ts tb V L w w') (h0:bq w N ts V0) (hb:bA w bb K):bA w' bb K:=by
 obtain ⟨A,cap,k,_⟩:=hb.ex;exact hb.far h.far (tN.not h0 k (by decide) (by decide)) (fun k ⟨_,ds,hd⟩=>tN.not h0 hd (by decide) (by decide))
structure fJ (W:World) (N y bs bb ts tb:Nat) (V U:Vm) (L K:List Nd):Prop where
 sys:aD W bs V
 eD:bA W bb L
 ref:bq W N ts U
 ui:eP W N tb K
 lo:N≤y∧N≤bs∧N+1≤bb∧N≤tb
theorem fJ.call {W W':World} {N y bs bb ts tb:Nat} {V U:Vm} {L K:List Nd} (h:fJ W N y bs bb ts tb V U L K) (hb:Below W.heap.size W W'):fJ W' N y bs bb ts tb V U L K :=
 ⟨h.sys.call hb,h.eD.call hb,h.ref.call hb,h.ui.call hb,h.lo⟩
theorem fJ.prog {W W':World} {N y bs bb ts tb:Nat} {V V' U:Vm} {L L' K:List Nd} (h:fJ W N y bs bb ts tb V U L K) (hb:aS bs bb V' L' W W'):fJ W' N y bs bb ts tb V' U L' K :=
 ⟨hb.sys,hb.eD,hb.ref h.sys ⟨h.lo.2.1,h.lo.2.2.1⟩ h.ref,hb.ui h.sys h.ui,h.lo⟩
theorem fJ.C8 {W W':World} {N y bs bb ts tb:Nat} {V U U':Vm} {L K K':List Nd} (h:fJ W N y bs bb ts tb V U L K) (hb:bI N ts tb U' K' W W'):fJ W' N y bs bb ts tb V U' L K' :=
 ⟨hb.prg h.ref h.sys,hb.bu h.ref h.eD,hb.sys,hb.eD,h.lo⟩
theorem fJ.ze {W W':World} {N y bs bb ts tb:Nat} {V U:Vm} {L K:List Nd} {cs:Array Value} (h:fJ W N y bs bb ts tb V U L K) (ky:ag W y 49 cs) (F:af (fun k=>k=y) W W'):fJ W' N y bs bb ts tb V U L K:=by
 obtain ⟨cv,hcv⟩:=h.sys.typed;obtain ⟨_,_,kq,_⟩:=h.eD.ex;obtain ⟨cr,hcr⟩:=h.ref.typed;obtain ⟨cb,hcb⟩:=h.ui.typed;refine ⟨h.sys.far F (fun e=>by have e:bs=y:=e;rw [e] at hcv;exact hcv.ne ky) (fun _ _ _ _ _ _ q _ _ _ ⟨_,hq⟩ e=>by have e:q=y:=e;rw [e] at hq;exact hq.ne ky),
  h.eD.far F (fun e=>by have e:bb=y:=e;rw [e] at kq;exact kq.ne ky) (fun q ⟨_,_,hq⟩ e=>by have e:q=y:=e;rw [e] at hq;exact hq.ne ky),
  h.ref.far F (fun k hk=>⟨by have e:k=y:=hk;have:=h.lo.1;omega,fun e=>by have e2:k=y:=hk;rw [←e,e2] at hcr;exact hcr.ne ky⟩),
  h.ui.far F (fun e=>by have e:tb=y:=e;rw [e] at hcb;exact hcb.ne ky) (fun q ⟨_,_,hq⟩ e=>by have e:q=y:=e;rw [e] at hq;exact hq.ne ky),h.lo⟩
theorem fJ.below {W W':World} {N y bs bb ts tb:Nat} {V V' U:Vm} {L L' K:List Nd} (h:fJ W N y bs bb ts tb V U L K) (hb:aS bs bb V' L' W W') (hN:N≤W.heap.size):Below N W W' :=
 hb.far.below hN (fun k hk e=>by have:=h.lo;rcases e with rfl|⟨e,_⟩ <;> omega)
theorem fJ.uQ {W W':World} {N y bs bb ts tb:Nat} {V U U':Vm} {L K K':List Nd} (h:fJ W N y bs bb ts tb V U L K) (hb:bI N ts tb U' K' W W') (hN:N≤W.heap.size):Below N W W' :=
 hb.far.below hN (fun k hk e=>by have:=h.ref.base;rcases e with rfl|⟨e,_⟩ <;> omega)
end Go.Pol
namespace Go.Proofs.YtjmmgoijnhnnaaaGreat
open Go Go.Proofs Go.RowKit Go.Pol Go.Shelf Tryz
structure fA (W:World) (N y bs bb ts tb:Nat) (R:List Ru) (S:Vm×List Nd×Cr):Prop where
 both:fJ W N y bs bb ts tb S.1 S.1 S.2.1 S.2.1
 two:∃(A:Option Addr) (cap:Nat) (B:Option Addr) (cap':Nat),ag W y 49 (I4 (some ⟨bs,0,none⟩) (some ⟨bb,0,none⟩) S.2.2 (.slice A S.2.2.kept.length cap) (some ⟨ts,0,none⟩) (some ⟨tb,0,none⟩) S.2.2 (.slice B S.2.2.kept.length cap'))∧KeptAt W A S.2.2.kept∧S.2.2.kept.length≤cap∧cap≤maxLen∧KeptAt W B S.2.2.kept∧S.2.2.kept.length≤cap'∧cap'≤maxLen
 inv:RcI R S
theorem fA.call {W W':World} {N y bs bb ts tb:Nat} {R:List Ru} {S:Vm×List Nd×Cr} (h:fA W N y bs bb ts tb R S) (hb:Below W.heap.size W W'):fA W' N y bs bb ts tb R S:=by
 obtain ⟨A,cap,B,cap',k,h1,h2,h3,h4,h5,h6⟩:=h.two;exact ⟨h.both.call hb,⟨A,cap,B,cap',k.call hb,h1.call hb,h2,h3,h4.call hb,h5,h6⟩,h.inv⟩
end Go.Proofs.YtjmmgoijnhnnaaaGreat
namespace Go.Pol
open Go Go.RowKit Go.Proofs.Tryz
def Fg (y bs bb ts tb:Nat) (r:Cr) (v u:Value) (W:World):Prop:=W.cell? ⟨y,0,none⟩=some (.pointer (some ⟨bs,0,none⟩))∧W.cell? ⟨y,1,none⟩=some (.pointer (some ⟨bb,0,none⟩))∧W.cell? ⟨y,2,none⟩=some (.int .i64 r.pg)∧W.cell? ⟨y,3,none⟩=some (.int .i64 r.n)∧W.cell? ⟨y,4,none⟩=some (.int .i64 r.f)∧W.cell? ⟨y,5,none⟩=some (.int .i64 r.bk)∧W.cell? ⟨y,6,none⟩=some (.int .i64 r.ev)∧W.cell? ⟨y,7,none⟩=some (.int .i64 r.node)∧W.cell? ⟨y,8,none⟩=some (.int .i64 r.live)∧W.cell? ⟨y,9,none⟩=some v∧W.cell? ⟨y,10,none⟩=some (.bool r.cl) ∧
 W.cell? ⟨y,11,none⟩=some (.pointer (some ⟨ts,0,none⟩))∧W.cell? ⟨y,12,none⟩=some (.pointer (some ⟨tb,0,none⟩))∧W.cell? ⟨y,13,none⟩=some (.int .i64 r.pg)∧W.cell? ⟨y,14,none⟩=some (.int .i64 r.n)∧W.cell? ⟨y,15,none⟩=some (.int .i64 r.f)∧W.cell? ⟨y,16,none⟩=some (.int .i64 r.bk)∧W.cell? ⟨y,17,none⟩=some (.int .i64 r.ev)∧W.cell? ⟨y,18,none⟩=some (.int .i64 r.node)∧W.cell? ⟨y,19,none⟩=some (.int .i64 r.live)∧W.cell? ⟨y,20,none⟩=some u∧W.cell? ⟨y,21,none⟩=some (.bool r.cl)
theorem Fg.of {y bs bb ts tb:Nat} {r:Cr} {v u:Value} {W:World} {t:TypeId} (h:ag W y t (I4 (some ⟨bs,0,none⟩) (some ⟨bb,0,none⟩) r v (some ⟨ts,0,none⟩) (some ⟨tb,0,none⟩) r u)):Fg y bs bb ts tb r v u W :=
 ⟨h.cell 0,h.cell 1,h.cell 2,h.cell 3,h.cell 4,h.cell 5,h.cell 6,h.cell 7,h.cell 8,h.cell 9,h.cell 10,h.cell 11,h.cell 12,h.cell 13,h.cell 14,h.cell 15,h.cell 16,h.cell 17,h.cell 18,h.cell 19,h.cell 20,h.cell 21⟩
end Go.Pol
namespace Go.Proofs.YtjmmgoijnhnnaaaGreat
open Go Go.Proofs Go.RowKit Go.Pol Go.Shelf Tryz
attribute [local go_sem] Oper.semAt_some aC au az ah
theorem kK (N y bs bb ts tb:Nat) (R:List Ru) (S:Vm×List Nd×Cr) (w:World) (h:fA w N y bs bb ts tb R S) :
  Calls prog 86 #[.pointer (some ⟨y,0,none⟩)] w fun e w'=>e= .returned (.bool true)∧Below w.heap.size w w':=by
 obtain ⟨V,L,r⟩:=S;have hG:=h.inv.sys.1;have hO:=h.inv.eD;have h2:L.length=2:=h.inv.two;have hB:=h.both;obtain ⟨A,cap,A',cap',ky,hk,hl,hm,hk',hl',hm'⟩:=h.two;simp only at hG hO hB ky hk hl hm hk' hl' hm';have gG:V.rf.rules.length≤1000:=by
  have:=(mX.1 hB.sys.ok.plan).1;omega
 clear h;have hbd:=(Below.refl w.heap.size w).drew;have B1:=hB.call hbd;have oD:=ky.call hbd;have hk1:=hk.call hbd;have akq:=hk'.call hbd;have HS:=ae (fun W h h'=>Eu r A A' cap cap' W (by omega) h h');have HB6:=ae (fun W h=>Td bb L W h (by omega));have HB7:=ae (fun W h=>Tn N tb L W h (by omega) (by omega));rw [h2] at HB6 HB7;have h2':=ae h2;generalize hrl:r.kept.length=m at *;clear h2;go_enter func86,ntmps86;go_upto_region 1 with fail
 refine bO ?_;refine bD (Fg y bs bb ts tb r (.slice A m cap) (.slice A' m cap')) [35] (by kernel_rfl) ?_;generalize w.drew=wd at *;have hS:=Fg.of oD;dsimp only [Fg] at hS ⊢;clear hB ky hk hk';refine aX 0 hS ?_;refine aX 1 hS ?_;refine aX 2 hS ?_;refine aX 3 hS ?_;refine aX 4 hS ?_;refine aX 5 hS ?_;refine aX 6 hS ?_;refine aX 7 hS ?_;refine fu 8 fun K hK=>?_
 go_simp;refine ((HS.out wd hk1.ru akq.ru)).mono ?_;rintro (e w2 ⟨rfl,hb2⟩);refine hK.out _ _ (fun _=>Fg.of (oD.call hb2)) (fun hS=>?_);clear hK K;replace hS:=hS rfl;try simp only [Act.put,gM,gN,gP]
 refine aX 9 hS ?_;refine aX 10 hS ?_;refine aX 11 hS ?_;refine aX 12 hS ?_;refine aX 13 hS ?_;refine aX 15 hS ?_;refine aX 16 hS ?_;refine aX 17 hS ?_;refine aX 18 hS ?_;have jf:=oD.call hb2;have B2:=B1.call hb2;refine fu 14 fun K hK=>?_
 go_simp;refine ((Wq bs V w2 B2.sys)).mono ?_;rintro (e w3 ⟨X3,rfl,hX3,hb3⟩);refine hK.out _ _ (fun _=>Fg.of (jf.call hb3)) (fun hS=>?_);clear hK K;replace hS:=hS rfl;try simp only [Act.put,gM,gN,gP]
 have fP:=jf.call hb3;have B3:=B2.call hb3;refine fu 19 fun K hK=>?_
 go_simp;refine ((Tf N ts V w3 B3.ref hG)).mono ?_;rintro (e w4 ⟨X4,rfl,hX4,hb4⟩);refine hK.out _ _ (fun _=>Fg.of (fP.call hb4)) (fun hS=>?_);clear hK K;replace hS:=hS rfl;try simp only [Act.put,gM,gN,gP]
 have l7:=fP.call hb4;have B4:=B3.call hb4;refine fu 20 fun K hK=>?_
 go_simp;refine ((TE X3 X4 V w4 (hX3.on hb4) hX4 gG)).mono ?_;rintro (e w5 ⟨rfl,hb5⟩);refine hK.out _ _ (fun _=>Fg.of (l7.call hb5)) (fun hS=>?_);clear hK K;replace hS:=hS rfl;try simp only [Act.put,gM,gN,gP]
 have l8:=l7.call hb5;have B5:=B4.call hb5;refine aX 21 hS ?_;refine aX 22 hS ?_;refine aX 23 hS ?_;refine aX 24 hS ?_;refine aX 25 hS ?_;refine aX 26 hS ?_;refine aX 28 hS ?_;refine aX 29 hS ?_;refine aX 30 hS ?_;refine aX 31 hS ?_;refine fu 27 fun K hK=>?_
 go_simp;refine ((HB6.out w5 B5.eD)).mono ?_;rintro (e w6 ⟨⟨A6,c6,rfl,hr6,Co,E8⟩,hb6⟩);refine hK.out _ _ (fun _=>Fg.of (l8.call hb6)) (fun hS=>?_);clear hK K;replace hS:=hS rfl;try simp only [Act.put,gM,gN,gP]
 have iq:=l8.call hb6;have B6:=B5.call hb6;refine fu 32 fun K hK=>?_
 go_simp;refine ((HB7.out w6 B6.ui)).mono ?_;rintro (e w7 ⟨⟨A7,c7,rfl,hr7,LG,hm7⟩,zL⟩);refine hK.out _ _ (fun _=>Fg.of (iq.call zL)) (fun hS=>?_);clear hK K;replace hS:=hS rfl;try simp only [Act.put,gM,gN,gP]
 have uf:=iq.call zL;refine fu 33 fun K hK=>?_
 go_simp;refine ((Qa A6 A7 2 c6 c7 L w7 h2'.out (by omega) (hr6.fw zL) hr7)).mono ?_;rintro (e w8 ⟨rfl,uh⟩);refine hK.out _ _ (fun _=>Fg.of (uf.call uh)) (fun hS=>?_);clear hK K;replace hS:=hS rfl;try simp only [Act.put,gM,gN,gP]
 refine aX 34 hS ?_;refine fD 35 ?_;refine bz (by kernel_rfl) ?_ _;refine aT ?_;have hs:=hbd.size;go_wp2_with fail;go_ret;have b2:=hbd.trans (hb2.mono hs);have b3:=b2.trans (hb3.mono b2.size);have b4:=b3.trans (hb4.mono b3.size);have b5:=b4.trans (hb5.mono b4.size);have b6:=b5.trans (hb6.mono b5.size);have b7:=b6.trans (zL.mono b6.size);exact ⟨rfl,b7.trans (uh.mono b7.size)⟩
theorem TP (B bs bb:Nat) (V:Vm) (L:List Nd) (r:Cr) (tt:Int) (A:Option Addr) (cap:Nat) (w:World) (hV:bq w B bs V) (hB:eP w B bb L) (hO:bg L) (hnl:bE r=0→r.node.toNat<L.length) (hcap:r.kept.length≤cap) (hcm:cap≤maxLen) (hk:KeptAt w A r.kept) :
  Calls prog 88 #[.pointer (some ⟨bs,0,none⟩),.pointer (some ⟨bb,0,none⟩),.agg (ai r (.slice A r.kept.length cap)),.int .i64 tt] w fun e w'=>∃v,e= .returned (.tuple #[v,.int .i64 (cZ V L r tt).2.1])∧Bj (cZ V L r tt).1 w' v∧bI B bs bb (cZ V L r tt).2.2.1 (cZ V L r tt).2.2.2 w w':=by
 by_cases hY:bE r=0∧r.cl=false∧r.live≤tt∧tt≤oG r
 ·obtain ⟨h0,h1,h2,h3⟩:=hY
  have hok:=gB.1 h0;have hn:=hnl h0;have hn0:=hok.node.1;have hl0:=hok.AU;have ER:oG r=aI (aA r.pg r.n r.f r.bk r.ev):=by unfold oG;rw [if_pos (bU.2 hok.plan)]
  rw [ER] at h3;obtain ⟨pg,n,f,bk,ev,node,live,K,cl⟩:=r;simp only at h1 h2 h3 hn hn0 hl0 hcap hk;subst h1;obtain ⟨nn,rfl⟩:∃nn:Nat,node=nn:=⟨node.toNat,by omega⟩;obtain ⟨a,rfl⟩:∃a:Nat,live=a:=⟨live.toNat,by omega⟩;obtain ⟨t,rfl⟩:∃t:Nat,tt=t:=⟨tt.toNat,by omega⟩;rw [Int.toNat_natCast] at hn;exact Qm B bs bb V L pg n f bk ev nn a t K A _ cap w hV hB hO hn rfl hcap hcm hk hok (by omega) h3
 have hr:=hk.ru;have HK:=ae (fun W h=>jF r A cap W hcap hcm h);have tY:=ae (fun W=>vB r.pg r.n r.f r.bk r.ev W);rw [wU] at tY;obtain ⟨G,hG⟩:=aj (cZ V L r tt);rw [hG];unfold cZ at hG;clear hnl;generalize bE r=ck at *;generalize oG r=us at *;obtain ⟨pg,n,f,bk,ev,node,live,K,cl⟩:=r;simp only at hcap hcm hr hk hG HK tY hY ⊢;generalize (lC pg n f bk ev).2=V2 at *;generalize bN pg n f bk ev=cg at *;obtain ⟨m,hm0⟩:=aj (K.length);rw [hm0] at hcap HK ⊢;have hm:=ae hm0;have hb0:=below_alloc2 (aV w (.cells (ai ⟨pg,n,f,bk,ev,node,live,K,cl⟩ (.slice A m cap)) 43)) (.cells (ai bn (.slice none 0 0)) 43);have k0:=(ag.new w 43 (ai ⟨pg,n,f,bk,ev,node,live,K,cl⟩ (.slice A m cap))).dU (.cells (ai bn (.slice none 0 0)) 43);have kR:=ag.nL w (.cells (ai ⟨pg,n,f,bk,ev,node,live,K,cl⟩ (.slice A m cap)) 43) 43 (ai bn (.slice none 0 0));have hr0:=ae (hr.on hb0);dsimp only [ai,bn] at k0 hb0 kR hr0 HK ⊢;have gI:=ae hk;clear hm0 hr hk;by_cases h0:ck=0
 case neg =>
  have h0':(ck != 0)=true:=by simpa using h0
  rw [if_pos h0] at hG;subst hG;clear h0 hY;go_enter func88,ntmps88;go_wp2_with fail;refine (HK.out _ hr0.out).mono ?_;rintro e w1 ⟨rfl,hb1⟩;have k1:=k0.call hb1;have aN:=kR.call hb1;have B1:=hb0.trans (hb1.mono hb0.size);have hr1:=hr0.out.on hb1;have c1:=k1.cell;have gY:=aN.cell;have gZ:=aN.frozen;clear HK k0 kR hb0 hr0 hb1;go_wp2_with fail;change bodyPost _ _ _ _ _ (aL w1 (w.heap.size+1) ⟨pg,n,f,bk,ev,node,live,K,cl⟩ (.slice A m cap));have aR:=aG aN ⟨pg,n,f,bk,ev,node,live,K,cl⟩ (.slice A m cap);have F9:=aH w1 (w.heap.size+1) ⟨pg,n,f,bk,ev,node,live,K,cl⟩ (.slice A m cap);have B9:=bW B1 (g:=(w.heap.size+1)) (by omega) ⟨pg,n,f,bk,ev,node,live,K,cl⟩ (.slice A m cap);generalize aL w1 (w.heap.size+1) ⟨pg,n,f,bk,ev,node,live,K,cl⟩ (.slice A m cap)=w9 at *;dsimp only [ai] at aR;have bV:=aR.cell;refine bodyPost_ret (v:=.tuple #[.agg (ai ⟨pg,n,f,bk,ev,node,live,K,cl⟩ (.slice A m cap)),.int .i64 ck]) (by simp [results,results88,go_sem,bV,ai]) rfl ?_;exact ⟨_,rfl,⟨A,cap,by rw [hm.out],by rw [hm.out];exact hcap,hcm,gI.out.call B9⟩,.below hV hB B9⟩
 subst h0;rw [if_neg (by simp)] at hG;by_cases h1:cl=true
 case pos =>
  subst h1;rw [if_pos rfl] at hG;subst hG;clear hY;go_enter func88,ntmps88;go_wp2_with fail;refine (HK.out _ hr0.out).mono ?_;rintro e w1 ⟨rfl,hb1⟩;have k1:=k0.call hb1;have aN:=kR.call hb1;have B1:=hb0.trans (hb1.mono hb0.size);have hr1:=hr0.out.on hb1;have c1:=k1.cell;have gY:=aN.cell;have gZ:=aN.frozen;clear HK k0 kR hb0 hr0 hb1;go_wp2_with fail;change bodyPost _ _ _ _ _ (aL w1 (w.heap.size+1) ⟨pg,n,f,bk,ev,node,live,K,true⟩ (.slice A m cap));have aR:=aG aN ⟨pg,n,f,bk,ev,node,live,K,true⟩ (.slice A m cap);have F9:=aH w1 (w.heap.size+1) ⟨pg,n,f,bk,ev,node,live,K,true⟩ (.slice A m cap);have B9:=bW B1 (g:=(w.heap.size+1)) (by omega) ⟨pg,n,f,bk,ev,node,live,K,true⟩ (.slice A m cap);generalize aL w1 (w.heap.size+1) ⟨pg,n,f,bk,ev,node,live,K,true⟩ (.slice A m cap)=w9 at *;dsimp only [ai] at aR;have bV:=aR.cell;refine bodyPost_ret (v:=.tuple #[.agg (ai ⟨pg,n,f,bk,ev,node,live,K,true⟩ (.slice A m cap)),.int .i64 9]) (by simp [results,results88,go_sem,bV,ai]) rfl ?_;exact ⟨_,rfl,⟨A,cap,by rw [hm.out],by rw [hm.out];exact hcap,hcm,gI.out.call B9⟩,.below hV hB B9⟩
 have h1':cl=false:=by simpa using h1
 subst h1';rw [if_neg (by simp)] at hG;by_cases h2:tt<live
 case pos =>
  have h2':decide (tt<live)=true:=by simpa using h2
  rw [if_pos (.inl h2)] at hG;subst hG;clear h2 hY;go_enter func88,ntmps88;go_wp2_with fail;refine (HK.out _ hr0.out).mono ?_;rintro e w1 ⟨rfl,hb1⟩;have k1:=k0.call hb1;have aN:=kR.call hb1;have B1:=hb0.trans (hb1.mono hb0.size);have hr1:=hr0.out.on hb1;have c1:=k1.cell;have gY:=aN.cell;have gZ:=aN.frozen;clear HK k0 kR hb0 hr0 hb1;go_wp2_with fail;refine (tY.out _).mono ?_;rintro e w2 ⟨rfl,hb2⟩;have k2:=k1.call hb2;have bT:=aN.call hb2;have B2:=B1.trans (hb2.mono B1.size);have c2:=k2.cell;have cR2:=bT.cell;have fR2:=bT.frozen;clear k1 aN B1 c1 gY gZ hr1 hb2 tY;go_wp2_with fail;change bodyPost _ _ _ _ _ (aL w2 (w.heap.size+1) ⟨pg,n,f,bk,ev,node,live,K,false⟩ (.slice A m cap));have aR:=aG bT ⟨pg,n,f,bk,ev,node,live,K,false⟩ (.slice A m cap);have F9:=aH w2 (w.heap.size+1) ⟨pg,n,f,bk,ev,node,live,K,false⟩ (.slice A m cap);have B9:=bW B2 (g:=(w.heap.size+1)) (by omega) ⟨pg,n,f,bk,ev,node,live,K,false⟩ (.slice A m cap);generalize aL w2 (w.heap.size+1) ⟨pg,n,f,bk,ev,node,live,K,false⟩ (.slice A m cap)=w9 at *;dsimp only [ai] at aR;have bV:=aR.cell;refine bodyPost_ret (v:=.tuple #[.agg (ai ⟨pg,n,f,bk,ev,node,live,K,false⟩ (.slice A m cap)),.int .i64 7]) (by simp [results,results88,go_sem,bV,ai]) rfl ?_;exact ⟨_,rfl,⟨A,cap,by rw [hm.out],by rw [hm.out];exact hcap,hcm,gI.out.call B9⟩,.below hV hB B9⟩
 have h2':decide (tt<live)=false:=by simpa using h2
 have h3:us<tt:=by
  by_cases h3:us<tt
  ·exact h3
  ·exact absurd ⟨rfl,rfl,by omega,by omega⟩ hY
 have h3':decide (us<tt)=true:=by simpa using h3
 rw [if_pos (.inr h3)] at hG;subst hG;clear h2 h3 hY;go_enter func88,ntmps88;go_wp2_with fail;refine (HK.out _ hr0.out).mono ?_;rintro e w1 ⟨rfl,hb1⟩;have k1:=k0.call hb1;have aN:=kR.call hb1;have B1:=hb0.trans (hb1.mono hb0.size);have hr1:=hr0.out.on hb1;have c1:=k1.cell;have gY:=aN.cell;have gZ:=aN.frozen;clear HK k0 kR hb0 hr0 hb1;go_wp2_with fail;refine (tY.out _).mono ?_;rintro e w2 ⟨rfl,hb2⟩;have k2:=k1.call hb2;have bT:=aN.call hb2;have B2:=B1.trans (hb2.mono B1.size);have c2:=k2.cell;have cR2:=bT.cell;have fR2:=bT.frozen;clear k1 aN B1 c1 gY gZ hr1 hb2 tY;go_wp2_with fail;change bodyPost _ _ _ _ _ (aL w2 (w.heap.size+1) ⟨pg,n,f,bk,ev,node,live,K,false⟩ (.slice A m cap));have aR:=aG bT ⟨pg,n,f,bk,ev,node,live,K,false⟩ (.slice A m cap);have F9:=aH w2 (w.heap.size+1) ⟨pg,n,f,bk,ev,node,live,K,false⟩ (.slice A m cap);have B9:=bW B2 (g:=(w.heap.size+1)) (by omega) ⟨pg,n,f,bk,ev,node,live,K,false⟩ (.slice A m cap);generalize aL w2 (w.heap.size+1) ⟨pg,n,f,bk,ev,node,live,K,false⟩ (.slice A m cap)=w9 at *;dsimp only [ai] at aR;have bV:=aR.cell;refine bodyPost_ret (v:=.tuple #[.agg (ai ⟨pg,n,f,bk,ev,node,live,K,false⟩ (.slice A m cap)),.int .i64 7]) (by simp [results,results88,go_sem,bV,ai]) rfl ?_;exact ⟨_,rfl,⟨A,cap,by rw [hm.out],by rw [hm.out];exact hcap,hcm,gI.out.call B9⟩,.below hV hB B9⟩
theorem M9 (B bs bb:Nat) (V:Vm) (L:List Nd) (a0 nb:Nat) (f bk ev:Int) (nn a:Nat) (K:List Sp) (cl:Bool) (A:Option Addr) (m cap:Nat) (w:World) (hV:bq w B bs V) (hB:eP w B bb L) (hO:bg L) (hnl:nn<L.length) (hm:K.length=m) (hcap:m≤cap) (hcm:cap≤maxLen) (hk:KeptAt w A K) (hok:ND ⟨a0,nb,f,bk,ev,nn,a,K,cl⟩) :
  Calls prog 97 #[.pointer (some ⟨bs,0,none⟩),.pointer (some ⟨bb,0,none⟩),.agg (ai ⟨a0,nb,f,bk,ev,nn,a,K,cl⟩ (.slice A m cap))] w fun e w'=>∃v,e= .returned (.tuple #[v,.int .i64 (dG V L ⟨a0,nb,f,bk,ev,nn,a,K,cl⟩).2.1])∧Bj (dG V L ⟨a0,nb,f,bk,ev,nn,a,K,cl⟩).1 w' v∧bI B bs bb (dG V L ⟨a0,nb,f,bk,ev,nn,a,K,cl⟩).2.2.1 (dG V L ⟨a0,nb,f,bk,ev,nn,a,K,cl⟩).2.2.2 w w':=by
 have hr:=hk.ru;have hlt:=hV.lt;have hp:dS (a0:Int) nb f bk ev:=hok.plan;have hab:a0+nb≤1024:=by have:=hp.De;have:=hp.n1;omega
 have jN:Go.Pol.Can K:=hok.can;have hz:bN (a0:Int) nb f bk ev=0:=bU.2 hp;have hs1:aI (aA (a0:Int) nb f bk ev)≤1024:=(nJ hp).2;have hck:bE ⟨a0,nb,f,bk,ev,nn,a,K,cl⟩=0:=gB.2 hok;have hal:a≤1024:=by
  have h1:(a:Int)≤oG ⟨a0,nb,f,bk,ev,nn,a,K,cl⟩:=hok.Dj;have h2:=zm (r:=⟨a0,nb,f,bk,ev,nn,a,K,cl⟩) hp;omega
 have HK:=ae (fun W h=>jF ⟨a0,nb,f,bk,ev,nn,a,K,cl⟩ A cap W (by simp only;omega) hcm h);have oJ:=ae (fun W h=>tL ⟨a0,nb,f,bk,ev,nn,a,K,cl⟩ A cap W h jN);rw [hck] at HK;obtain ⟨G,hG⟩:=aj (dG V L ⟨a0,nb,f,bk,ev,nn,a,K,cl⟩);rw [hG];unfold dG at hG;rw [if_neg (by rw [hck];simp)] at hG;simp only [Int.toNat_natCast] at hG;have Bu:Go.Pol.Can (setOf (K++bG 0 (a:Int))):=ng _;have WZ:∀k:Nat,k<1024→dA (fun j=>mem (j:Int) K) 0 (a:Int) true k=mem (k:Int) (setOf (K++bG 0 (a:Int))):=fun k _=>TQ jN (by omega) k
 have hset:∀f':Nat→Bool,(∀k:Nat,k<1024→f' k=mem (k:Int) (setOf (K++bG 0 (a:Int))))→iX (oz (aA (a0:Int) nb f bk ev) f' 1024)=iV (bS (setOf (K++bG 0 (a:Int))) 0 (aA (a0:Int) nb f bk ev)):=fun f' h=>K7 Bu hs1 (bL hp).1 (bL hp).2 h
 have hall:=(Br Bu hp).1;have yF:=zo Bu hp;generalize setOf (K++bG 0 (a:Int))=AL at *;have adQ:=ae WZ;obtain ⟨RL,M3⟩:=aj (aA (a0:Int) nb f bk ev);obtain ⟨R,hR⟩:=aj (bS AL 0 RL);have vP:=ae (fun (W:World) (v:Value) (cs:Array Value) (hM:bC cs (dA (fun j=>mem (j:Int) K) 0 (a:Int) true))=>IV ⟨a0,nb,f,bk,ev,nn,a,K,cl⟩ v cs (dA (fun j=>mem (j:Int) K) 0 (a:Int) true) W hM hz);simp only at vP;rw [hset _ WZ,M3,hR] at vP;have TH:=ae (fun (W:World) (v:Value) (cs:Array Value) (g:Nat→Bool) (x:iF) (hM:bC cs g) (hx:Dx 0 RL x)=>CW ⟨a0,nb,f,bk,ev,nn,a,K,cl⟩ v cs g x false W hM hz (by simp only;rw [M3];exact hx) hs1);rw [M3] at hG hall yF;rw [hR] at hG hall yF;have M4:=ae hall;have La:=ae yF;have adR:=ae Bu;clear hset WZ hall yF M3 hR hok hp hz hs1 jN Bu hck;rw [hm] at HK oJ;have hm':=ae hm;have hb0:=below_alloc2 (aV w (.cells (ai ⟨(a0:Int),(nb:Int),f,bk,ev,(nn:Int),(a:Int),K,cl⟩ (.slice A m cap)) 43)) (.cells (ai bn (.slice none 0 0)) 43);have k0:=(ag.new w 43 (ai ⟨(a0:Int),(nb:Int),f,bk,ev,(nn:Int),(a:Int),K,cl⟩ (.slice A m cap))).dU (.cells (ai bn (.slice none 0 0)) 43);have kR:=ag.nL w (.cells (ai ⟨(a0:Int),(nb:Int),f,bk,ev,(nn:Int),(a:Int),K,cl⟩ (.slice A m cap)) 43) 43 (ai bn (.slice none 0 0));have hr0:=ae (hr.on hb0);dsimp only [ai,bn] at k0 hb0 kR hr0 HK ⊢;have gI:=ae hk;dsimp only [ai] at oJ vP TH;have hBr:=ae hB;have TI:=ae hV;have vC:=ae hG;clear hr hk hm hB hV hG;go_enter func97,ntmps97;go_wp2_with fail;refine (HK.out _ hr0.out).mono ?_;rintro e w1 ⟨rfl,hb1⟩;have k1:=k0.call hb1;have aN:=kR.call hb1;have B1:=hb0.trans (hb1.mono hb0.size);have hr1:=hr0.out.on hb1;have c1:=k1.cell;have gY:=aN.cell;have gZ:=aN.frozen;clear HK k0 kR hb0 hr0 hb1;go_upto_if 26 with fail
 go_cut [] from 27 to 87 (fun W=>∃(Vt:Vm) (Lt:List Nd) (lv:Int) (Kt:List Sp) (At:Option Addr) (mt oU:Nat),Hid (((fT Vt ⟨a0,nb,f,bk,ev,nn,lv,Kt,true⟩).1,(fT Vt ⟨a0,nb,f,bk,ev,nn,lv,Kt,true⟩).2.1,(fT Vt ⟨a0,nb,f,bk,ev,nn,lv,Kt,true⟩).2.2,Lt)=G)∧ag W w.heap.size 43 (ai ⟨a0,nb,f,bk,ev,nn,lv,Kt,true⟩ (.slice At mt oU))∧ag W (w.heap.size+1) 43 (ai bn (.slice none 0 0))∧bI B bs bb Vt Lt w W∧KeptAt W At Kt∧Hid (Kt.length=mt)∧mt≤oU∧oU≤maxLen)
 case first =>
  cases cl with
  | true =>
   have hG2:=vC.out;rw [if_pos rfl] at hG2;have T1:=bI.below TI.out hBr.out B1;go_wp2_with fail;go_meet
   case rel=>exact ⟨V,L,(a:Int),K,A,m,cap,ae hG2,k1,aN,T1,gI.out.call B1,hm',hcap,hcm⟩
  | false =>
   have hG2:=vC.out;rw [if_neg (by simp)] at hG2;have vC:=ae hG2;clear hG2;go_wp2_with fail;refine (oJ.out _ hr1).mono ?_;rintro e w4 ⟨cs,rfl,lN,hb4⟩;have hb5:=aV w4 (.cells zeroCells231 231);have kH:=ag.new w4 231 zeroCells231;have k4:=(k1.call hb4).call hb5;have dI:=(aN.call hb4).call hb5;have B4:=(B1.trans (hb4.mono B1.size)).trans (hb5.mono (by have:=B1.size;have:=hb4.size;omega));have TJ:=fV.size;have hsz:=lN.size;have hone:=lN.one;obtain ⟨dd,hd⟩:=aj (w4.heap.size);have hwd:w.heap.size+2≤dd:=by have h1:=aN.lt;have h2:=hb4.size;omega
   rw [hd] at kH;clear hb5 hb4 k1 aN B1 c1 gY gZ hr1 oJ;go_upto_region 6 with (refine wpList_store_mid rfl 231 (.tmp 9) (.tmp 28) rfl dd 0 cs rfl rfl (jU cs _ _ dd hsz TJ kH).2.2 (by rw [hsz];kernel_rfl) hone ?_)
   obtain ⟨wo,F2,_⟩:=jU cs _ _ dd hsz TJ kH;have k5:=F2.blk k4 (by omega);have mJ:=F2.blk dI (by omega);have B5:=B4.trans (F2.below (by have:=B4.size;omega) (fun k hk e=>by omega));generalize (w4.alloc _).setCells dd 0 cs.toList=w5 at *;clear kH k4 dI B4 F2 hone TJ hsz hd;have hM0:bC cs (dA (fun j=>mem (j:Int) K) 0 ((0:Nat):Int) true):=lN.congr (fun p _=>by unfold dA;rw [if_neg (by omega)]);go_wp2_with fail
   go_loopw [10] (fun v10 wr=>∃(i:Nat) (ps:Array Value),v10= .int .i64 i∧i≤a∧ag wr w.heap.size 43 (ai ⟨a0,nb,f,bk,ev,nn,a,K,false⟩ (.slice A m cap))∧ag wr (w.heap.size+1) 43 (ai bn (.slice none 0 0))∧ag wr dd 231 ps∧bC ps (dA (fun j=>mem (j:Int) K) 0 (i:Int) true)∧Below w.heap.size w wr) (fun v _=>a - (intOf v).toNat)
   case atStart=>exact ⟨0,cs,rfl,by omega,k5,mJ,wo,hM0,B5⟩
   case round =>
    clear k5 mJ wo hM0 B5 lN;obtain ⟨i,ps,rfl,hia,k6,nP,zQ,hP,B6⟩:=hrel;dsimp only [ai,bn] at k6 nP;have c6:=k6.cell;by_cases akt:i<a
    ·have d1:decide ((i:Int)<(a:Int))=true:=by rw [decide_eq_true_eq];omega
     have hi:i<1024:=by omega
     have hold:=(zQ.cell i).trans (hP.at_ i hi);have fM:=zQ.frozen;have hM2:=ae (hP.set (g:=dA (fun j=>mem (j:Int) K) 0 ((i+1:Nat):Int) true) i hi true (by rw [jZ _ _ i true (by omega),if_pos rfl]) (fun j hj=>by rw [jZ _ _ i true (by omega),if_neg hj]));generalize dA (fun j=>mem (j:Int) K) 0 (i:Int) true i=b0 at hold;have F:af (fun k=>k=dd) wr (wr.setCell ⟨dd,i,none⟩ (.bool true)):=af.setCell (T:=fun k=>k=dd) (p:=⟨dd,i,none⟩) (af.refl _ _) (fun _=>rfl) _;have oV:=B6.size;clear hP;go_wp2_with fail;go_roundw
     case rel=>exact ⟨i+1,_,by go_num,by omega,F.blk k6 (by omega),F.blk nP (by omega),zQ.aO i (.bool true),hM2.out,B6.trans (F.below (by omega) (fun k hk e=>by omega))⟩
     case measure=>simp [intOf];omega
    obtain rfl:i=a:=by omega
    have d1:decide ((i:Int)<(i:Int))=false:=by rw [decide_eq_false_iff_not];omega
    have Qn:=hP.size;have Qo:=ae (fun W=>vP.out W (.slice A m cap) ps hP);have hMA:=ae (hP.congr (fun k hk=>adQ.out k hk));clear vP hP akt
    go_wp2_with (refine wpList_load_mid rfl 231 (.tmp 9) rfl dd 0 rfl ps.toList _ (ed zQ) underlying231 rfl (by rw [Array.length_toList,Qn];kernel_rfl) ?_;rw [Array.toArray_toList])
    refine (Qo.out _).mono ?_;rintro e w8 ⟨Ar,akk,rfl,hkR,WO,hcR,uh⟩;have T8:=(bI.below TI.out hBr.out B6).aU uh;have k8:=k6.call uh;have MZ:=nP.call uh;have JX:=zQ.call uh;clear B6 k6 nP zQ c6 Qo uh Qn;have EE:=ae (y9 R);obtain ⟨rl,hrl⟩:=aj (R.length);rw [y9,hrl] at WO ⊢;have EF:=ae hrl;have hrm:rl≤maxLen:=by omega
    unfold maxLen at hrm;clear hrl;go_wp2_with fail
    go_loopw [8,12,13] (fun v8 v12 v13 wr=>∃(j:Nat) (z0:Int) (Vi:Vm) (Li:List Nd) (Ki:List Sp) (ei:Int) (J2:Array Value),v8= .int .i64 z0∧v12= .int .i64 ei∧v13= .int .i64 j∧j≤rl∧Hid ((R.take j).foldl (dD nn) (V,L,AL,0)=(Vi,Li,Ki,ei))∧Hid (bg Li)∧nn<Li.length∧Go.Pol.Can Ki∧ag wr w.heap.size 43 (ai ⟨a0,nb,f,bk,ev,nn,i,K,false⟩ (.slice A m cap))∧ag wr (w.heap.size+1) 43 (ai bn (.slice none 0 0))∧ag wr dd 231 J2∧Hid (bC J2 (fun k=>mem (k:Int) Ki))∧bI B bs bb Vi Li w wr∧KeptAt wr Ar (iV R)) (fun _ _ v _=>rl - (intOf v).toNat)
    case atStart=>exact ⟨0,0,V,L,AL,0,ps,rfl,rfl,rfl,by omega,ae (by rw [List.take_zero];rfl),ae hO,hnl,adR.out,k8,MZ,JX,hMA,T8,hkR⟩
    case round =>
     clear k8 MZ JX T8 hkR hMA;obtain ⟨j,z0,Vi,Li,Ki,ei,J2,rfl,rfl,rfl,hj,hfo,hOi,hni,MU,k9,aR,M5,TR,T9,mg⟩:=hrel;dsimp only [ai,bn] at k9 aR;by_cases hjr:j<rl
     ·have d1:decide ((j:Int)<(rl:Int))=true:=by rw [decide_eq_true_eq];omega
      have Xe:j<R.length:=by rw [EF.out];exact hjr
      obtain ⟨rb,ro,rfl,hrb,q5,q6⟩:=mg.ru.at_' (k:=j) (by rw [EE.out];exact Xe);have hxm:R.getD j (0,0,0)∈R:=by rw [List.getD_eq_getElem?_getD,List.getElem?_eq_getElem Xe];exact List.getElem_mem Xe
      have hst:=Qv nn R j Xe (V,L,AL,0);rw [hfo.out] at hst;have hrun:=(M4.out _ hxm).1;have kZ:=La.out _ hxm;rw [lQ] at q5 q6;obtain ⟨x,TK⟩:=aj (R.getD j (0,0,0));rw [TK] at q5 q6 hst hrun kZ;obtain ⟨xa,xb,xn⟩:=x;have CS:=ae TK;rw [Qw] at hst;simp only at q5 q6 kZ;have qP:=Can.one kZ;have vG:=av.1 kZ;simp only at vG;have jR:=ae hst;have e1:=fun x:Ext wr=>x.cell q5
      have e2:=fun x:Ext wr=>x.cell q6
      clear hst TK hxm hfo;go_upto_region 15 with fail
      refine dH 11 (by kernel_rfl) (by kernel_rfl) ?_;simp only [List.take_succ_cons,List.take_zero,List.drop_succ_cons,List.drop_zero]
      repeat (go_big_quiet_step (fail))
      refine wpQuiet_nil ?_;intro z;have Tz:=T9.aU z.le;have kz:=k9.call z.le;have CY:=aR.call z.le;have IX:=M5.call z.le;have hkz:=mg.call z.le;have HD:=ae (tC B bs xa xb Vi z.w Tz.sys);clear q5 q6 e1 e2 T9 k9 aR M5 mg;go_wp2_with fail;refine HD.out.mono ?_;rintro e w9 ⟨rfl,h9⟩;have S9:=bI.iK Tz.sys Tz.eD h9;have pF:=Tz.trans S9;have k12:=S9.blk Tz.sys kz;have zb:=S9.blk Tz.sys CY;have xQ:=S9.blk Tz.sys IX;have qU:=S9.kept Tz.sys hkz;clear h9 S9 Tz kz CY IX hkz HD;obtain ⟨J,hJ⟩:=aj (bJ Vi xa xb 3 2 1);rw [hJ] at jR pF;simp only [hJ];obtain ⟨je,jV⟩:=J;simp only at jR pF ⊢;have hst:=jR.out;clear hJ jR;by_cases hj0:je=0
      ·subst hj0
       rw [if_pos rfl] at hst;obtain ⟨g5,o5,TL,hg5,q5,q6⟩:=qU.ru.at_' (k:=j) (by rw [EE.out];exact Xe);cases TL;rw [lQ,CS.out] at q5 q6;simp only at q5 q6;have Qp:=ae (fun W h=>BJ B bb nn xb Li W h hOi.out hni);have hGo:=ae (rQ hOi.out hni xb);have Ra:=o6 Li nn xb;obtain ⟨GV,hGV⟩:=aj (iT Li nn xb);rw [hGV] at Qp hst hGo Ra;obtain ⟨ge,gL⟩:=GV;simp only at Qp hst hGo Ra;have jR:=ae hst;have e0:=fun x:Ext w9=>(x.blk k12).cell
       have e1:=fun x:Ext w9=>x.cell q5
       have e2:=fun x:Ext w9=>x.cell q6
       clear hst hGV;go_upto_region 17 with fail
       refine dH 8 (by kernel_rfl) (by kernel_rfl) ?_;simp only [List.take_succ_cons,List.take_zero,List.drop_succ_cons,List.drop_zero]
       repeat (go_big_quiet_step (fail))
       refine wpQuiet_nil ?_;intro z2;have Tz:=pF.aU z2.le;have kz:=k12.call z2.le;have CY:=zb.call z2.le;have IX:=xQ.call z2.le;have hkz:=qU.call z2.le;clear q5 q6 e0 e1 e2 pF k12 zb xQ qU;go_wp2_with fail;refine (Qp.out _ Tz.eD).mono ?_;rintro e Mr ⟨rfl,h13⟩;have Xf:=bI.mi Tz.sys h13;have Ms:=Tz.trans Xf;have k13:=Xf.blk Tz.sys kz;have Qs:=Xf.blk Tz.sys CY;have Lb:=Xf.blk Tz.sys IX;have xL:=Xf.kept Tz.sys hkz;clear h13 Xf Tz kz CY IX hkz Qp;obtain ⟨g5,o5,TL,hg5,q5,q6⟩:=xL.ru.at_' (k:=j) (by rw [EE.out];exact Xe);cases TL;rw [lQ,CS.out] at q5 q6;simp only at q5 q6;have e0:=fun x:Ext Mr=>(x.blk k13).cell
       have e1:=fun x:Ext Mr=>x.cell q5
       have e2:=fun x:Ext Mr=>x.cell q6
       have wB:=TR.out.size;have hld:=fun zz:Ext Mr=>run_loadVar_mid (P:=prog) zz.w dd 0 231 J2.toList _ (ed (zz.blk Lb)) underlying231 rfl (by rw [Array.length_toList,wB];kernel_rfl)
       simp only [Array.toArray_toList] at hld;have HMx:=ae (fun W=>TH.out W (.slice A m cap) J2 (fun k=>mem (k:Int) Ki) (xa,xb,xn) TR.out hrun);have Qr:=ae hld;clear hld;go_upto_region 18 with fail
       refine dH 6 (by kernel_rfl) (by kernel_rfl) ?_;simp only [List.take_succ_cons,List.take_zero,List.drop_succ_cons,List.drop_zero];go_big_quiet_step (fail);refine oC (.tmp 9) 231 ⟨dd,0,none⟩ (.agg J2) rfl rfl rfl (by rintro _ ⟨zz,rfl⟩;exact Qr.out zz) ?_;simp only [Act.put,List.setIfInBounds_toArray,List.set_cons_zero,List.set_cons_succ]
       repeat (go_big_quiet_step (fail))
       refine wpQuiet_nil ?_;intro z3;have Bw:=Ms.aU z3.le;have k14:=k13.call z3.le;have Qt:=Qs.call z3.le;have EG:=Lb.call z3.le;have yM:=xL.call z3.le;clear q5 q6 e0 e1 e2 Ms k13 Qs Lb xL Qr;go_wp2_with fail;refine (HMx.out _).mono ?_;rintro e Wi ⟨cs',rfl,Lc,Ld⟩;have Hr:=Bw.aU Ld;have k15:=k14.call Ld;have U9:=Qt.call Ld;have IY:=EG.call Ld;have yN:=yM.call Ld;have TS:=Lc.size;have abZ:=Lc.one;clear Bw k14 Qt EG yM Ld HMx
       go_wp2_with (refine wpList_store_mid rfl 231 (.tmp 9) (.tmp 75) rfl dd 0 cs' rfl rfl (jU cs' _ _ dd TS wB IY).2.2 (by rw [TS];kernel_rfl) abZ ?_)
       obtain ⟨akv,F16,_⟩:=jU cs' _ _ dd TS wB IY;have k16:=F16.blk k15 (by omega);have akw:=F16.blk U9 (by omega);have Y6:=Hr.fresh F16 hlt (fun k hk=>by subst hk;omega) (fun k hk=>by subst hk;exact ⟨_,_,IY,by decide,by decide⟩);have UK:=yN.far F16 (fun g cs hg e=>by have e:g=dd:=e;subst e;exact IY.ne hg);have akx:=ae (Lc.congr (fun q _=>TB MU qP q));generalize Wi.setCells dd 0 cs'.toList=w16 at *;clear Hr k15 U9 IY yN F16 Lc;go_roundw
       case rel=>exact ⟨j+1,_,jV,gL,_,ei,cs',rfl,rfl,by go_num,by omega,jR,hGo,by rw [Ra];exact hni,pE MU qP,k16,akw,akv,akx,Y6,UK⟩
       case measure=>simp [intOf];omega
      have hj1:(je==0)=false:=by simpa using hj0
      rw [if_neg hj0] at hst;by_cases he0:ei=0
      ·subst he0
       rw [if_pos rfl] at hst;have jR:=ae hst;clear hst hj0;go_wp2_with fail;go_roundw
       case rel=>exact ⟨j+1,_,jV,Li,Ki,je,J2,rfl,rfl,by go_num,by omega,jR,hOi,hni,MU,k12,zb,xQ,TR,pF,qU⟩
       case measure=>simp [intOf];omega
      ·have he1:(ei==0)=false:=by simpa using he0
       rw [if_neg he0] at hst;have jR:=ae hst;clear hst hj0 he0;go_wp2_with fail;go_roundw
       case rel=>exact ⟨j+1,_,jV,Li,Ki,ei,J2,rfl,rfl,by go_num,by omega,jR,hOi,hni,MU,k12,zb,xQ,TR,pF,qU⟩
       case measure=>simp [intOf];omega
     obtain rfl:j=rl:=by omega
     have d1:decide ((j:Int)<(j:Int))=false:=by rw [decide_eq_false_iff_not];omega
     have aaB:=hfo.out;rw [List.take_of_length_le (by rw [EF.out];omega)] at aaB;have hG:=vC.out;rw [aaB] at hG;simp only at hG;have wB:=TR.out.size;have ou:=kG J2 _ wr TR.out;rw [Qk MU] at ou;clear hfo aaB vC mg
     go_wp2_with (refine wpList_load_mid rfl 231 (.tmp 9) rfl dd 0 rfl J2.toList _ (ed M5) underlying231 rfl (by rw [Array.length_toList,wB];kernel_rfl) ?_;rw [Array.toArray_toList])
     refine ou.mono ?_;rintro e wq ⟨Aq,cq,rfl,hkq,hlq,hcq,hbq⟩;obtain ⟨mq,hmq⟩:=aj (Ki.length);rw [hmq] at hlq;have hmt:=ae hmq;have hct:=hlq;have Qx:=hcq;have kq:=k9.call hbq;have wu:=aR.call hbq;have Tq:=T9.aU hbq;have cqx:=kq.cell;have fqx:=kq.frozen;have F4:=((af.refl (fun k=>k=w.heap.size) wq).setCell (p:=⟨w.heap.size,6,none⟩) (fun _=>rfl) (.int .i64 0)).setCell (p:=⟨w.heap.size,7,none⟩) (fun _=>rfl) (.slice Aq mq cq);have k10:=(kq.aO 6 (.int .i64 0)).aO 7 (.slice Aq mq cq);have jG:=F4.blk wu (by omega);have vk:=Tq.fresh F4 hlt (fun k hk=>by subst hk;omega) (fun k hk=>by subst hk;exact ⟨_,_,kq,by decide,by decide⟩);have hk10:=hkq.far F4 (fun g cs hg e=>by have e:g=w.heap.size:=e;subst e;exact kq.ne hg);simp only [List.setIfInBounds_toArray,List.set_cons_zero,List.set_cons_succ] at k10;rw [hmq];clear k9 aR M5 T9 ou TR hmq hkq;go_upto_region 22 with fail
     generalize (wq.setCell ⟨w.heap.size,6,none⟩ _).setCell ⟨w.heap.size,7,none⟩ _=il at *;have c10:=k10.cell;have aky:=jG.cell;have akz:=jG.frozen;have f10:=k10.frozen;clear kq wu Tq cqx fqx F4;by_cases he0:ei=0
     case neg =>
      have he1:(ei != 0)=true:=by simpa using he0
      rw [if_pos he0] at hG;subst hG;clear he0;go_wp2_with fail;change bodyPost _ _ _ _ _ (aL il (w.heap.size+1) ⟨a0,nb,f,bk,ev,nn,0,Ki,false⟩ (.slice Aq mq cq));have aR:=aG jG ⟨a0,nb,f,bk,ev,nn,0,Ki,false⟩ (.slice Aq mq cq);have F9:=aH il (w.heap.size+1) ⟨a0,nb,f,bk,ev,nn,0,Ki,false⟩ (.slice Aq mq cq);generalize aL il (w.heap.size+1) ⟨a0,nb,f,bk,ev,nn,0,Ki,false⟩ (.slice Aq mq cq)=w9 at *;dsimp only [ai] at aR;have bV:=aR.cell;refine bodyPost_ret (v:=.tuple #[.agg (ai ⟨a0,nb,f,bk,ev,nn,0,Ki,false⟩ (.slice Aq mq cq)),.int .i64 ei]) (by simp [results,results97,go_sem,bV,ai]) rfl ?_;have T9:=vk.fresh F9 hlt (fun k hk=>by subst hk;omega) (fun k hk=>by subst hk;exact ⟨_,_,jG,by decide,by decide⟩);exact ⟨_,rfl,⟨Aq,cq,by rw [hmt.out],by rw [hmt.out];exact hct,Qx,hk10.far F9 (fun g cs hg e=>by have e:g=w.heap.size+1:=e;subst e;exact jG.ne hg)⟩,T9⟩
     subst he0;rw [if_neg (by simp)] at hG;have F5:=(af.refl (fun k=>k=w.heap.size) il).setCell (p:=⟨w.heap.size,8,none⟩) (fun _=>rfl) (.bool true);have kt:=k10.aO 8 (.bool true);have Xg:=F5.blk jG (by omega);have Tt:=vk.fresh F5 hlt (fun k hk=>by subst hk;omega) (fun k hk=>by subst hk;exact ⟨_,_,k10,by decide,by decide⟩);have hkt:=hk10.far F5 (fun g cs hg e=>by have e:g=w.heap.size:=e;subst e;exact k10.ne hg);simp only [List.setIfInBounds_toArray,List.set_cons_zero,List.set_cons_succ] at kt;clear jG vk hk10 aky akz;have Xh:=ae hG;go_wp2_with fail;go_meet
     case rel=>exact ⟨Vi,Li,0,Ki,Aq,mq,cq,Xh,kt,Xg,Tt,hkt,hmt,hct,Qx⟩
 case rest =>
  obtain ⟨Vt,Lt,lv,Kt,At,mt,oU,hG0,kt,Xg,Tt,hkt,hmt,hct,Qx⟩:=hcut;have hG:=hG0.out;obtain ⟨wt,rfl⟩:∃wt,wt=wc:=⟨_,rfl⟩;dsimp only [ai,bn] at kt Xg;clear hG0 oJ vP TH vC M4 La adR adQ TI hBr gI hO hnl;obtain ⟨SL,EX⟩:=aj (pX Vt (a0:Int) (nb:Int));have Oy:=ae ((Qu Vt (a:=a0) (j:=nb) hab).symm.trans EX);unfold fT at hG;simp only at hG;rw [EX] at hG;obtain ⟨P,hP⟩:=aj (iG SL Vt);rw [hP] at hG;have hPH:=ae hP;have Xh:=ae hG;have hbg:=aV wt (.cells zeroCells231 231);have kg:=ag.new wt 231 zeroCells231;have We:=kt.call hbg;have adS:=Xg.call hbg;have Tt1:=Tt.aU hbg;have adT:=hkt.call hbg;obtain ⟨gd,hgd⟩:=aj (wt.heap.size);have hgs:w.heap.size+2≤gd:=by have:=Xg.lt;omega
  rw [hgd] at kg;clear EX hP hG hbg kt Xg Tt hkt;go_upto_region 26 with fail
  try simp only [hgd]
  generalize wt.alloc _=wg at *;have hZg:=fV;generalize zeroCells231=Zg at *;have hMg:bC Zg (Am Vt a0 0):=hZg.congr (fun p _=>by
   symm;unfold Am;rw [Bool.and_eq_false_iff,Bool.and_eq_false_iff,decide_eq_false_iff_not,decide_eq_false_iff_not];exact .inl (by omega))
  have ct1:=We.cell;clear hZg hgd;go_wp2_with fail;clear ct1
  go_loopw [15] (fun v15 wr=>∃(j:Nat) (ps:Array Value),v15= .int .i64 ((a0+j:Nat):Int)∧j≤nb∧ag wr w.heap.size 43 (ai ⟨a0,nb,f,bk,ev,nn,lv,Kt,true⟩ (.slice At mt oU))∧ag wr (w.heap.size+1) 43 (ai bn (.slice none 0 0))∧ag wr gd 231 ps∧Hid (bC ps (Am Vt a0 j))∧bI B bs bb Vt Lt w wr∧KeptAt wr At Kt) (fun v _=>a0+nb - (intOf v).toNat)
  case atStart=>exact ⟨0,Zg,rfl,by omega,We,adS,kg,ae hMg,Tt1,adT⟩
  case round =>
   clear We adS kg hMg Tt1 adT;obtain ⟨j,ps,rfl,hj,k1,aN,TT,hM1,T1,hk1⟩:=hrel;dsimp only [ai,bn] at k1 aN;have c1:=k1.cell;by_cases hjn:j<nb
   ·have d1:decide (((a0+j:Nat):Int)<(a0:Int)+(nb:Int))=true:=by rw [decide_eq_true_eq];omega
    obtain ⟨p,hp⟩:=aj (a0+j);have hp1:p<1024:=by omega
    obtain ⟨rcs,rA,rn,an9,hkb,hc,_⟩:=T1.sys.ex;have q0:=(hkb.cell p).trans (hc.kind p hp1);have hold:=(TT.cell p).trans (hM1.out.at_ p hp1);have fG:=TT.frozen;have hM2:=ae (hM1.out.set (g:=Am Vt a0 (j+1)) p hp1 ((Vt.pg p).kind==3) (by rw [I1,if_pos hp.symm,hp]) (fun q hq=>by rw [I1,if_neg (by omega)]));generalize Am Vt a0 j p=b0 at hold;generalize (Vt.pg p).kind=kd at *;rw [hp] at d1 ⊢;have F:af (fun k=>k=gd) wr (wr.setCell ⟨gd,p,none⟩ (.bool (kd==3))):=af.setCell (T:=fun k=>k=gd) (p:=⟨gd,p,none⟩) (af.refl _ _) (fun _=>rfl) _;have T2:=T1.fresh F hlt (fun k hk=>by subst hk;omega) (fun k hk=>by subst hk;exact ⟨_,_,TT,by decide,by decide⟩);have hk2:=hk1.far F (fun g cs hg e=>by have e:g=gd:=e;subst e;exact TT.ne hg);clear T1 hM1 hkb hc hk1;go_wp2_with fail;go_roundw
    case rel=>exact ⟨j+1,_,by rw [show a0+(j+1)=p+1 by omega];go_num,by omega,F.blk k1 (by omega),F.blk aN (by omega),TT.aO p (.bool (kd==3)),hM2,T2,hk2⟩
    case measure=>simp [intOf];omega
   obtain rfl:j=nb:=by omega
   have d1:decide (((a0+j:Nat):Int)<(a0:Int)+(j:Int))=false:=by rw [decide_eq_false_iff_not];omega
   have akD:=hM1.out.size;have ou:=kG ps _ wr hM1.out;rw [Oy.out] at ou;have aoa:=ae (Eq.refl SL.length)
   go_wp2_with (refine wpList_load_mid rfl 231 (.tmp 14) rfl gd 0 rfl ps.toList _ (ed TT) underlying231 rfl (by rw [Array.length_toList,akD];kernel_rfl) ?_;rw [Array.toArray_toList])
   refine ou.mono ?_;rintro e wq ⟨Aq,cq,rfl,hkq,hlq,hcq,hbq⟩;have k2:=k1.call hbq;have bT:=aN.call hbq;have T2:=T1.aU hbq;have hk2:=hk1.call hbq;obtain ⟨sl,hsl⟩:=aj (SL.length);rw [hsl] at hlq ⊢;have adU:=ae hsl;have hsm:sl≤maxLen:=by omega
   unfold maxLen at hsm;clear hsl k1 aN TT hM1 T1 hk1 c1 ou;go_wp2_with fail
   go_loopw [17] (fun v17 wr=>∃(i:Nat) (Vi:Vm),v17= .int .i64 i∧i≤sl∧Hid (iG (SL.drop i) Vi=P)∧ag wr w.heap.size 43 (ai ⟨a0,j,f,bk,ev,nn,lv,Kt,true⟩ (.slice At mt oU))∧ag wr (w.heap.size+1) 43 (ai bn (.slice none 0 0))∧bI B bs bb Vi Lt w wr∧KeptAt wr Aq SL∧KeptAt wr At Kt) (fun v _=>sl - (intOf v).toNat)
   case atStart=>exact ⟨0,Vt,rfl,by omega,ae (by rw [List.drop_zero];exact hPH.out),k2,bT,T2,hkq,hk2⟩
   case round =>
    clear k2 bT T2 hkq hk2;obtain ⟨i,Vi,rfl,hi,hpr,k3,eZ,T3,hq3,hk3⟩:=hrel;dsimp only [ai,bn] at k3 eZ;by_cases his:i<sl
    ·have d1:decide ((i:Int)<(sl:Int))=true:=by rw [decide_eq_true_eq];omega
     have hiS:i<SL.length:=by rw [adU.out];exact his
     obtain ⟨rb,ro,rfl,hrb,q5,q6⟩:=hq3.ru.at_' (k:=i) hiS;have EH:=hpr.out;rw [Go.Pol.drop_cons (0,0) SL i hiS,iG] at EH;generalize SL.getD i (0,0)=x at *;obtain ⟨xa,xb⟩:=x;simp only at q5 q6 EH;have Va:=ae EH;have e1:=fun x:Ext wr=>x.cell q5
     have e2:=fun x:Ext wr=>x.cell q6
     clear hpr EH hiS;go_upto_region 34 with fail
     refine dH 11 (by kernel_rfl) (by kernel_rfl) ?_;simp only [List.take_succ_cons,List.take_zero,List.drop_succ_cons,List.drop_zero]
     repeat (go_big_quiet_step (fail))
     refine wpQuiet_nil ?_;intro z;have Tz:=T3.aU z.le;have kz:=k3.call z.le;have CY:=eZ.call z.le;have hqz:=hq3.call z.le;have hkz:=hk3.call z.le;have HD:=ae (Aj B bs xa xb Vi z.w Tz.sys);clear q5 q6 e1 e2 T3 k3 eZ hq3 hk3;go_wp2_with fail;refine HD.out.mono ?_;rintro e w9 ⟨rfl,h9⟩;have S9:=bI.iK Tz.sys Tz.eD h9;have T4:=Tz.trans S9;have k4:=S9.blk Tz.sys kz;have dI:=S9.blk Tz.sys CY;have hq4:=S9.kept Tz.sys hqz;have hk4:=S9.kept Tz.sys hkz;clear h9 S9 Tz kz CY hqz hkz HD;obtain ⟨J,hJ⟩:=aj (bJ Vi xa xb 4 3 1);rw [hJ] at Va T4;simp only [hJ];obtain ⟨je,jV⟩:=J;simp only at Va T4 ⊢;have Le:=Va.out;have c4:=k4.cell;have Qc:=dI.cell;have Qd:=dI.frozen;clear hJ Va;by_cases hj0:je=0
     ·subst hj0
      rw [if_neg (by simp)] at Le;have akE:=ae Le;clear Le;go_wp2_with fail;go_roundw
      case rel=>exact ⟨i+1,jV,by go_num,by omega,akE,k4,dI,T4,hq4,hk4⟩
      case measure=>simp [intOf];omega
     have hj1:(je != 0)=true:=by simpa using hj0
     rw [if_pos hj0] at Le;have hG2:=Xh.out;rw [←Le] at hG2;simp only at hG2;rw [if_pos hj0] at hG2;subst hG2;clear Le Xh hj0;go_wp2_with fail;change bodyPost _ _ _ _ _ (aL w9 (w.heap.size+1) ⟨a0,j,f,bk,ev,nn,lv,Kt,true⟩ (.slice At mt oU));have aR:=aG dI ⟨a0,j,f,bk,ev,nn,lv,Kt,true⟩ (.slice At mt oU);have F9:=aH w9 (w.heap.size+1) ⟨a0,j,f,bk,ev,nn,lv,Kt,true⟩ (.slice At mt oU);generalize aL w9 (w.heap.size+1) ⟨a0,j,f,bk,ev,nn,lv,Kt,true⟩ (.slice At mt oU)=w9 at *;dsimp only [ai] at aR;have bV:=aR.cell;refine bodyPost_ret (v:=.tuple #[.agg (ai ⟨a0,j,f,bk,ev,nn,lv,Kt,true⟩ (.slice At mt oU)),.int .i64 je]) (by simp [results,results97,go_sem,bV,ai]) rfl ?_;have T9:=T4.fresh F9 hlt (fun k hk=>by subst hk;omega) (fun k hk=>by subst hk;exact ⟨_,_,dI,by decide,by decide⟩);exact ⟨_,rfl,⟨At,oU,by rw [hmt.out],by rw [hmt.out];exact hct,Qx,hk4.far F9 (fun g cs hg e=>by have e:g=w.heap.size+1:=e;subst e;exact dI.ne hg)⟩,T9⟩
    obtain rfl:i=sl:=by omega
    have d1:decide ((i:Int)<(i:Int))=false:=by rw [decide_eq_false_iff_not];omega
    have EH:=hpr.out;rw [List.drop_of_length_le (by rw [adU.out];omega)] at EH;have hG2:=Xh.out;rw [←EH] at hG2;rw [show iG [] Vi=(0,Vi) from rfl] at hG2;simp only [ne_eq,not_true_eq_false,if_false] at hG2;have HD:=ae (Ah B bs (a0:Int) (j:Int) Vi wr T3.sys);obtain ⟨J,hJ⟩:=aj (bJ Vi (a0:Int) (j:Int) 1 1 0);rw [hJ] at hG2 HD;obtain ⟨je,jV⟩:=J;simp only at hG2 HD;have hG3:=ae hG2;have c3:=k3.cell;clear hJ hG2 EH hpr Xh;go_wp2_with fail;refine HD.out.mono ?_;rintro e w9 ⟨rfl,h9⟩;have S9:=bI.iK T3.sys T3.eD h9;have T4:=T3.trans S9;have k4:=S9.blk T3.sys k3;have dI:=S9.blk T3.sys eZ;have hk4:=S9.kept T3.sys hk3;have c4:=k4.cell;have Qc:=dI.cell;have Qd:=dI.frozen;have hG4:=hG3.out;clear h9 S9 T3 k3 eZ hk3 hq3 c3 HD hG3;by_cases hj0:je=0
    ·subst hj0
     simp only [not_true_eq_false,if_false] at hG4;subst hG4;go_wp2_with fail;change bodyPost _ _ _ _ _ (aL w9 (w.heap.size+1) bn (.slice none 0 0));have aR:=aG dI bn (.slice none 0 0);have F9:=aH w9 (w.heap.size+1) bn (.slice none 0 0);generalize aL w9 (w.heap.size+1) bn (.slice none 0 0)=w9 at *;dsimp only [ai] at aR;have bV:=aR.cell;refine bodyPost_ret (v:=.tuple #[.agg (ai bn (.slice none 0 0)),.int .i64 0]) (by simp [results,results97,go_sem,bV,ai]) rfl ?_;have T9:=T4.fresh F9 hlt (fun k hk=>by subst hk;omega) (fun k hk=>by subst hk;exact ⟨_,_,dI,by decide,by decide⟩);exact ⟨_,rfl,⟨none,0,rfl,Nat.le_refl _,by unfold maxLen;omega,KeptAt.none _ _⟩,T9⟩
    have hj1:(je != 0)=true:=by simpa using hj0
    rw [if_pos hj0] at hG4;subst hG4;clear hj0;go_wp2_with fail;change bodyPost _ _ _ _ _ (aL w9 (w.heap.size+1) ⟨a0,j,f,bk,ev,nn,lv,Kt,true⟩ (.slice At mt oU));have aR:=aG dI ⟨a0,j,f,bk,ev,nn,lv,Kt,true⟩ (.slice At mt oU);have F9:=aH w9 (w.heap.size+1) ⟨a0,j,f,bk,ev,nn,lv,Kt,true⟩ (.slice At mt oU);generalize aL w9 (w.heap.size+1) ⟨a0,j,f,bk,ev,nn,lv,Kt,true⟩ (.slice At mt oU)=w9 at *;dsimp only [ai] at aR;have bV:=aR.cell;refine bodyPost_ret (v:=.tuple #[.agg (ai ⟨a0,j,f,bk,ev,nn,lv,Kt,true⟩ (.slice At mt oU)),.int .i64 je]) (by simp [results,results97,go_sem,bV,ai]) rfl ?_;have T9:=T4.fresh F9 hlt (fun k hk=>by subst hk;omega) (fun k hk=>by subst hk;exact ⟨_,_,dI,by decide,by decide⟩);exact ⟨_,rfl,⟨At,oU,by rw [hmt.out],by rw [hmt.out];exact hct,Qx,hk4.far F9 (fun g cs hg e=>by have e:g=w.heap.size+1:=e;subst e;exact dI.ne hg)⟩,T9⟩
theorem Qy (B bs bb:Nat) (V:Vm) (L:List Nd) (r:Cr) (A:Option Addr) (cap:Nat) (w:World) (hV:bq w B bs V) (hB:eP w B bb L) (hO:bg L) (hnl:bE r=0→r.node.toNat<L.length) (hcap:r.kept.length≤cap) (hcm:cap≤maxLen) (hk:KeptAt w A r.kept) :
  Calls prog 97 #[.pointer (some ⟨bs,0,none⟩),.pointer (some ⟨bb,0,none⟩),.agg (ai r (.slice A r.kept.length cap))] w fun e w'=>∃v,e= .returned (.tuple #[v,.int .i64 (dG V L r).2.1])∧Bj (dG V L r).1 w' v∧bI B bs bb (dG V L r).2.2.1 (dG V L r).2.2.2 w w':=by
 by_cases h0:bE r=0
 ·have hok:=gB.1 h0
  have hn:=hnl h0;have hn0:=hok.node.1;have hl0:=hok.AU;have hp0:=hok.plan.De;have hp1:=hok.plan.n0;obtain ⟨pg,n,f,bk,ev,node,live,K,cl⟩:=r;simp only at hn hn0 hl0 hcap hk hp0 hp1;obtain ⟨a0,rfl⟩:∃a0:Nat,pg=a0:=⟨pg.toNat,by omega⟩;obtain ⟨nb,rfl⟩:∃nb:Nat,n=nb:=⟨n.toNat,by omega⟩;obtain ⟨nn,rfl⟩:∃nn:Nat,node=nn:=⟨node.toNat,by omega⟩;obtain ⟨a,rfl⟩:∃a:Nat,live=a:=⟨live.toNat,by omega⟩;rw [Int.toNat_natCast] at hn;exact M9 B bs bb V L a0 nb f bk ev nn a K cl A _ cap w hV hB hO hn rfl hcap hcm hk hok
 have hr:=hk.ru;have HK:=ae (fun W h=>jF r A cap W hcap hcm h);have hG:dG V L r=(r,bE r,V,L):=by unfold dG;rw [if_pos h0]
 rw [hG];generalize bE r=ck at *;obtain ⟨pg,n,f,bk,ev,node,live,K,cl⟩:=r;simp only at hcap hcm hr hk HK ⊢;obtain ⟨m,hm0⟩:=aj (K.length);rw [hm0] at hcap HK ⊢;have hm:=ae hm0;have hb0:=below_alloc2 (aV w (.cells (ai ⟨pg,n,f,bk,ev,node,live,K,cl⟩ (.slice A m cap)) 43)) (.cells (ai bn (.slice none 0 0)) 43);have k0:=(ag.new w 43 (ai ⟨pg,n,f,bk,ev,node,live,K,cl⟩ (.slice A m cap))).dU (.cells (ai bn (.slice none 0 0)) 43);have kR:=ag.nL w (.cells (ai ⟨pg,n,f,bk,ev,node,live,K,cl⟩ (.slice A m cap)) 43) 43 (ai bn (.slice none 0 0));have hr0:=ae (hr.on hb0);dsimp only [ai,bn] at k0 hb0 kR hr0 HK ⊢;have gI:=ae hk;have h0':(ck != 0)=true:=by simpa using h0
 clear hm0 hr hk hnl hG h0;go_enter func97,ntmps97;go_wp2_with fail;refine (HK.out _ hr0.out).mono ?_;rintro e w1 ⟨rfl,hb1⟩;have k1:=k0.call hb1;have aN:=kR.call hb1;have B1:=hb0.trans (hb1.mono hb0.size);have hr1:=hr0.out.on hb1;have c1:=k1.cell;have gY:=aN.cell;have gZ:=aN.frozen;clear HK k0 kR hb0 hr0 hb1;go_wp2_with fail;change bodyPost _ _ _ _ _ (aL w1 (w.heap.size+1) ⟨pg,n,f,bk,ev,node,live,K,cl⟩ (.slice A m cap));have aR:=aG aN ⟨pg,n,f,bk,ev,node,live,K,cl⟩ (.slice A m cap);have F9:=aH w1 (w.heap.size+1) ⟨pg,n,f,bk,ev,node,live,K,cl⟩ (.slice A m cap);have B9:=bW B1 (g:=(w.heap.size+1)) (by omega) ⟨pg,n,f,bk,ev,node,live,K,cl⟩ (.slice A m cap);generalize aL w1 (w.heap.size+1) ⟨pg,n,f,bk,ev,node,live,K,cl⟩ (.slice A m cap)=w9 at *;dsimp only [ai] at aR;have bV:=aR.cell;refine bodyPost_ret (v:=.tuple #[.agg (ai ⟨pg,n,f,bk,ev,node,live,K,cl⟩ (.slice A m cap)),.int .i64 ck]) (by simp [results,results97,go_sem,bV,ai]) rfl ?_;exact ⟨_,rfl,⟨A,cap,by rw [hm.out],by rw [hm.out];exact hcap,hcm,gI.out.call B9⟩,.below hV hB B9⟩
theorem TU (B:Nat) (A:Option Addr) (n cap:Nat) (l:List Ru) (w:World) (hn:l.length=n) (hz:A=none→cap=0) (hB:B≤w.heap.size) (hr:Rd w B A (fl iN l)) :
  Calls prog 82 #[.agg #[.slice A n cap]] w fun e w'=>((ic l).2≠0∧e= .returned (.tuple #[.pointer none,.int .i64 (ic l).2])∨(ic l).2=0∧∃b,e= .returned (.tuple #[.pointer (some ⟨b,0,none⟩),.int .i64 0])∧bq w' B b (uU lg l)∧w.heap.size≤b)∧Below w.heap.size w w':=by
 have hb0:=aV w (.cells #[.slice A n cap] 28);have k0:=ag.new w 28 #[.slice A n cap];have c0:=k0.cell;have r0:=(hr.more hB).fw hb0;have HS:=ae (fun W h=>Pz A n cap l W hn h);unfold Iq at HS;have gI:=ae hr;have PQ:=ae hn;have hzH:=ae hz;have hP:=ae (fun (h:(ic l).2=0)=>(show uU lg l={ lg with rf:=LK l } by unfold uU;rw [if_pos h]));have xe:=ae (KT (l:=l));generalize (ic l).2=re at *;clear hr hn hz;by_cases h0:re=0
 case neg =>
  have d0:(re != 0)=true:=by simpa using h0
  have MJ:=ae h0;simp only [if_neg h0] at HS;clear h0;have hb2:=fun (w1:World) (B1:Below w.heap.size w w1)=>B1.alloc B1.size (.cells (aM (.slice none 0 0) (fun _=>0) (fun _=>0)).toArray 69)
  go_enter func82,ntmps82;go_wp2_with fail;refine (HS.out _ r0).mono ?_;rintro e w1 ⟨rfl,hb1⟩;have B1:=hb0.trans (hb1.mono hb0.size);have B2:=hb2 w1 B1;clear hb2 hb1 HS c0 k0;unfold aM at B2;unfold gK aM;go_wp2_with fail;go_ret2;exact ⟨.inl ⟨MJ.out,rfl⟩,B2⟩
 subst h0;simp only [if_true] at HS;go_enter func82,ntmps82;go_wp2_with fail;refine (HS.out _ r0).mono ?_;rintro e w1 ⟨rfl,hb1⟩;have B1:=hb0.trans (hb1.mono hb0.size);have hB2:=B1.alloc B1.size (.cells (aM (.slice A n cap) (fun _=>0) (fun _=>0)).toArray 69);have hzs:=zeroCells189_size;have hzz:=ZJ;obtain ⟨zc,hzc⟩:=aj (zeroCells189);rw [hzc] at hzs hzz;have hne:¬zc=#[]:=fun e=>by rw [e] at hzs;simp at hzs
 have hC:=ae (abL hzz (.slice A n cap));have kz:=ag.new w1 69 (aM (.slice A n cap) (fun _=>0) (fun _=>0)).toArray;clear hzz c0 k0 HS r0;unfold aM at hB2 kz;unfold gK aM;go_upto_region 4 with fail
 generalize w1.alloc _=w2 at *;have cz:=kz.cell;have hB3:=hB2.alloc hB2.size (.cells (jr zc 66624 (aM (.slice A n cap) (fun _=>0) (fun _=>0))) 189);have kS:=ag.new w2 189 (jr zc 66624 (aM (.slice A n cap) (fun _=>0) (fun _=>0)));have hbs:=hB2.size;go_wp2_with fail;go_ret2;refine ⟨⟨w2.heap.size,rfl,?_,hbs⟩,hB3⟩;rw [hP.out trivial];exact ⟨_,A,n,cap,kS,⟨hC.out.size,hC.out.kind,hC.out.dz,hC.out.iJ,hC.out.rf⟩,⟨PQ.out,hzH.out⟩,gI.out.uX (T:=fun _=>False) (af.of_below hB3) (fun _ h=>h.elim),by omega,xe.out trivial⟩
end Go.Proofs.YtjmmgoijnhnnaaaGreat
