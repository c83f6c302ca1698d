/- Texts RSpecG, RSpecH, ZSpecFH, RSpecI, RWalkR, QWalkQ, QWalkR, RWalkS, RWalkM, RWalkN. -/
import Derived.Test.YtlgcpjhimomiaaaGreatO14
set_option maxRecDepth 100000
set_option maxHeartbeats 12800000
namespace Go.Pol
open Go Go.RowKit Go.Proofs.Tryz
theorem afD {x:iO} {r d:List iO} {V:Vm} (h:(bK V x.1 x.2.1 2 1 2).1=0):jN (x::r) d V=jN r (d++[x]) (bK V x.1 x.2.1 2 1 2).2:=by
 rw [jN];rw [if_neg (λe=>e h)]
theorem afE {x:iO} {r d:List iO} {V:Vm} (h:(bK V x.1 x.2.1 2 1 2).1≠0):jN (x::r) d V=((bK V x.1 x.2.1 2 1 2).1,(bK V x.1 x.2.1 2 1 2).2,d):=by
 rw [jN];rw [if_pos h]
theorem XW {K:List Sp} (hK:Can K) {a n:Int} (hx:Can [(a,n)]) (j:Nat):dz (λk=>mem (k:Int) K) a (a+n) true j=mem (j:Int) (setOf (K++[(a,n)])):=by
 rw [Ko hK hx,Bool.eq_iff_iff,Bool.or_eq_true,iY];unfold dz;by_cases h:a<=(j:Int)/\(j:Int)<a+n
 ·rw [if_pos h]
  exact ⟨λ_=>.inr h,λ_=>rfl⟩
 ·rw [if_neg h]
  exact ⟨λe=>.inl e,λe=>e.elim id (λe=>absurd e h)⟩
theorem XX {K:List Sp} (hK:Can K) {a n:Int} (hx:Can [(a,n)]) (j:Nat):dz (λk=>mem (k:Int) K) a (a+n) false j=mem (j:Int) (az K (aZ [(a,n)] (0,1024))):=by
 rw [uF hK hx];unfold dz;by_cases h:a<=(j:Int)/\(j:Int)<a+n
 ·rw [if_pos h,(iY (x:=(a,n)) (p:=(j:Int))).2 h];simp
 ·have:mem (j:Int) [(a,n)]=false:=by rw [Bool.eq_false_iff,Ne,iY];exact h
  rw [if_neg h,this];simp
theorem Un {K:List Sp} (hK:Can K):ji (λk=>mem (k:Int) K)=K:=(hK.oO _ (λ_ _=>rfl)).symm
theorem XY (D:List iO) (k:Nat) (h:k<D.length) (S:Vm×List Sp×Int):((D.take (k+1)).reverse).foldl dK S=((D.take k).reverse).foldl dK (dK S (D.getD k (0,0,0))):=by
 rw [List.take_add_one,List.getElem?_eq_getElem h,Option.toList_some,List.reverse_append,List.foldl_append,List.getD_eq_getElem?_getD,List.getElem?_eq_getElem h];rfl
def Cg (V:Vm) (a j:Nat):Nat->Bool:=λq=>decide (a<=q)&&decide (q<a+j)&&((V.pg q).kind==3)
theorem K7 (V:Vm) (a j q:Nat):Cg V a (j+1) q=if q=a+j then (V.pg (a+j)).kind==3 else Cg V a j q:=by
 unfold Cg;by_cases h:q=a+j
 ·subst h
  rw [if_pos rfl,decide_eq_true zo,decide_eq_true zo];rfl
 ·rw [if_neg h]
  congr 2;exact decide_eq_decide.2 zo
theorem Uo (V:Vm) {a j:Nat} (h:a+j<=1024):qG V a j=ji (Cg V a j):=by
 unfold qG;rw [Int.toNat_natCast];refine (nO _).oO _ (λp hp=>?_);rw [Bool.eq_iff_iff,xK (Fs V zo j zo),Oa];unfold Cg Fq;rw [if_pos zo,Int.toNat_natCast,Bool.and_eq_true,Bool.and_eq_true,decide_eq_true_eq,decide_eq_true_eq,beq_iff_eq];omega
theorem Uq (n:Nat) (R:List iO) (k:Nat) (h:k<R.length) (S:Vm×List Nd×List Sp×Int):(R.take (k+1)).foldl (dA n) S=dA n ((R.take k).foldl (dA n) S) (R.getD k (0,0,0)):=by
 rw [List.take_add_one,List.getElem?_eq_getElem h,Option.toList_some,List.foldl_append,List.getD_eq_getElem?_getD,List.getElem?_eq_getElem h];rfl
open Go.Proofs Tryz
structure jg (V:Vm):Prop where
 good:iq V
 Ur:∀p q:Nat,p<1024->q<1024->p / 16=q / 16->(V.pg p).bP=(V.pg q).bP
theorem jg.bK {V:Vm} (h:jg V) (a n:Int) (call:Nat) (fr tk:Int) (ht:0<=tk/\tk<=3):jg (bK V a n call fr tk).2:=by
 refine ⟨h.good.bK a n call fr tk ht,λp q hp hq e=>?_⟩;unfold Go.Pol.bK;rcases sO V a n call (λg=>g.kind==fr&&!g.bP) (λ_=>gW tk) with ⟨_,h2⟩|⟨_,h0,h1,h2,h3,h4⟩
 ·rw [h2];exact h.Ur p q hp hq e
 ·have hs:=h.Ur p q hp hq e
  have hx:∀x:Nat,((gX V a n call (λg=>g.kind==fr&&!g.bP) (λ_=>gW tk)).2.pg x).bP=(V.pg x).bP:=λx=>by
   rw [h4];split
   ·rename_i hc
    have:=h3 x hc.1 hc.2;simp only [Bool.and_eq_true,Bool.not_eq_true'] at this;rw [this.2];rfl
   ·rfl
  rw [hx,hx];exact hs
theorem FO {p:Int}:jJ p=true↔0<=p/\p<1024/\p % 16=0:=by simp [jJ,and_assoc]
theorem afF {P:Prop} (h:P:=by
 rw [h4,h4];by_cases hc:g<=p/\(p:Int)<g+16
 ·rw [if_pos hc,if_pos zo];rfl
 ·rw [if_neg hc,if_neg zo];exact hs):P:=h
theorem jg.join {V:Vm} (h:jg V) (g:Int):jg (Go.Pol.dY V g).2:=by
 refine ⟨h.good.join g,λp q hp hq e=>?_⟩;have hs:=h.Ur p q hp hq e;unfold Go.Pol.dY;by_cases c1:jJ g=false
 ·rw [if_pos c1];exact hs
 rw [if_neg c1];by_cases c2:(V.pg g.toNat).bP=true
 ·rw [if_pos c2];exact hs
 rw [if_neg c2];rw [Bool.not_eq_false] at c1;obtain ⟨f1,f2,f3⟩:=FO.1 c1;rcases sO V g 16 5 (λg=>g.kind==2) (λg=>g.dQ true) with ⟨_,h2⟩|⟨_,h0,h1,h2,h3,h4⟩
 ·rw [h2];exact hs
 ·exact afF
theorem jg.split {V:Vm} (h:jg V) (g:Int):jg (jU V g).2:=by
 refine ⟨h.good.split g,λp q hp hq e=>?_⟩;have hs:=h.Ur p q hp hq e;unfold jU;by_cases c1:jJ g=false
 ·rw [if_pos c1];exact hs
 rw [if_neg c1];rw [Bool.not_eq_false] at c1;obtain ⟨f1,f2,f3⟩:=FO.1 c1;rcases sO V g 16 6 (λg=>g.bP) (λg=>g.dQ false) with ⟨_,h2⟩|⟨_,h0,h1,h2,h3,h4⟩
 ·rw [h2];exact hs
 ·exact afF
theorem jg.JM {V U:Vm} (h:jg V) (e:U.pg=V.pg):jg U:=⟨h.good.JM e,λp q hp hq he=>by rw [e];exact h.Ur p q hp hq he⟩
theorem jg.write {V:Vm} (h:jg V) (a v:Int):jg (kT V a v) :=
 ⟨h.good.write a v,λp q hp hq e=>by rw [(GI V a v p).1,(GI V a v q).1];exact h.Ur p q hp hq e⟩
theorem jg.new:jg iM:=⟨iq.new,λ_ _ _ _ _=>rfl⟩
theorem jg.plan {V:Vm} (h:jg V) (l:List Ru):jg (vS V l):=h.JM (by unfold vS;split <;> rfl)
def mX (Q:Vm->Prop):Prop:=∀(V:Vm) (a n:Int) (call:Nat) (fr tk:Int),0<=tk/\tk<=3->Q V->Q (bK V a n call fr tk).2
theorem mX.jN {Q:Vm->Prop} (hQ:mX Q):∀(XS d:List iO) (V:Vm),Q V->Q (jN XS d V).2.1
 | [],_,_,h=>h
 | x::r,d,V,h=>by
  rw [Go.Pol.jN];split
  ·exact hQ _ _ _ _ _ _ zo h
  ·exact mX.jN hQ r _ _ (hQ _ _ _ _ _ _ zo h)
theorem mX.TS {Q:Vm->Prop} (hQ:mX Q):∀(l:List iO) (S:Vm×List Sp×Int),Q S.1->Q (l.foldl dK S).1
 | [],_,h=>h
 | x::l,S,h=>by
  refine mX.TS hQ l (dK S x) ?_;unfold dK;dsimp only;split <;> exact hQ _ _ _ _ _ _ zo h
theorem mX.grow {Q:Vm->Prop} (hQ:mX Q) {V:Vm} (h:Q V) (L:List Nd) (r:Cr) (tt:Int):Q (dh V L r tt).2.2.1:=by
 unfold dh;split
 ·exact h
 ·split
  ·exact h
  ·split
   ·exact h
   ·dsimp only
    split
    ·exact h
    ·split
     ·exact mX.jN hQ _ _ _ h
     ·exact mX.TS hQ _ _ (mX.jN hQ _ _ _ h)
theorem mX.dA {Q:Vm->Prop} (hQ:mX Q) (n:Nat):∀(l:List iO) (S:Vm×List Nd×List Sp×Int),Q S.1->Q (l.foldl (dA n) S).1
 | [],_,h=>h
 | x::l,S,h=>by
  refine mX.dA hQ n l (Go.Pol.dA n S x) ?_;unfold Go.Pol.dA;dsimp only;split <;> exact hQ _ _ _ _ _ _ zo h
theorem mX.iP {Q:Vm->Prop} (hQ:mX Q):∀(G:List Sp) (V:Vm),Q V->Q (iP G V).2
 | [],_,h=>h
 | x::G,V,h=>by
  rw [Go.Pol.iP];split
  ·exact hQ _ _ _ _ _ _ zo h
  ·exact mX.iP hQ G _ (hQ _ _ _ _ _ _ zo h)
theorem mX.gP {Q:Vm->Prop} (hQ:mX Q) {V:Vm} (h:Q V) (r:Cr):Q (gP V r).2.2:=by
 unfold Go.Pol.gP;dsimp only;split
 ·exact mX.iP hQ _ _ h
 ·split <;> exact hQ _ _ _ _ _ _ zo (mX.iP hQ _ _ h)
theorem mX.close {Q:Vm->Prop} (hQ:mX Q) {V:Vm} (h:Q V) (L:List Nd) (r:Cr):Q (dI V L r).2.2.1:=by
 unfold dI;split
 ·exact h
 ·split
  ·exact mX.gP hQ h r
  ·have a:=mX.dA hQ r.node.toNat (bW (setOf (r.kept++bJ 0 r.live)) 0 (ay r.pg r.n r.f r.bk r.ev)) (V,L,setOf (r.kept++bJ 0 r.live),0) h
   dsimp only;split
   ·exact a
   ·exact mX.gP hQ a _
theorem mX.pU {Q:Vm->Prop} (hQ:mX Q) (G:List Sp):∀(r d:List Sp) (V:Vm),Q V->Q (pU G d r V).2.2
 | [],_,_,h=>h
 | x::r,d,V,h=>by
  have hu:∀(d:List Sp) (S:List Sp×Vm),Q S.2->Q (d.foldl jH S).2:=λd=>by
   induction d with
   | nil=>exact λ_ h=>h
   | cons x d ih=>exact λS h=>ih (jH S x) (hQ _ _ _ _ _ _ zo h)
  rw [Go.Pol.pU];split
  ·exact mX.pU hQ G r (x::d) _ (hQ _ _ _ _ _ _ zo h)
  ·exact hu d ([],_) (hQ _ _ _ _ _ _ zo h)
def uN (R:List Ru) (V:Vm):Prop:=jg V/\V.rf.rules=R
theorem Bd (R:List Ru):mX (uN R):=λV a n call fr tk ht h=>⟨h.1.bK a n call fr tk ht,(xU V a n call _ _).trans h.2⟩
theorem uN.write {R:List Ru} {V:Vm} (h:uN R V) (a v:Int):uN R (kT V a v):=by
 refine ⟨h.1.write a v,?_⟩;unfold kT;split <;> exact h.2
theorem uN.join {R:List Ru} {V:Vm} (h:uN R V) (p:Int):uN R (Go.Pol.dY V p).2:=by
 refine ⟨h.1.join p,?_⟩;unfold Go.Pol.dY;split
 ·exact h.2
 ·split
  ·exact h.2
  ·exact (xU _ _ _ _ _ _).trans h.2
theorem uN.split {R:List Ru} {V:Vm} (h:uN R V) (p:Int):uN R (jU V p).2:=by
 refine ⟨h.1.split p,?_⟩;unfold jU;split
 ·exact h.2
 ·exact (xU _ _ _ _ _ _).trans h.2
def joC (V:Vm) (q:Int):Vm:=if (Go.Pol.dY V q).1=8 then (jU (Go.Pol.dY V q).2 q).2 else (Go.Pol.dY V q).2
theorem uN.jo {R:List Ru} {V:Vm} (h:uN R V) (q:Int):uN R (joC V q):=by
 unfold joC;split
 ·exact (h.join q).split q
 ·exact h.join q
def jh (r:Cr):Prop:=(bQ r.pg r.n r.f r.bk r.ev=0/\r.node=1)\/r=bD
theorem jh.grow {r:Cr} (h:jh r) (V:Vm) (L:List Nd) (tt:Int):jh (dh V L r tt).1:=by
 rcases h with h|rfl
 ·unfold dh
  split
  ·exact .inl h
  ·split
   ·exact .inl h
   ·split
    ·exact .inl h
    ·dsimp only
     split
     ·exact .inl h
     ·split <;> exact .inl h
 ·have h0:bq bD≠0:=by decide
  unfold dh;rw [if_pos h0];exact .inr rfl
theorem jh.shrink {r:Cr} (h:jh r) (tt:Int):jh (iN r tt).1:=by
 rcases h with h|rfl
 ·unfold iN
  split
  ·exact .inl h
  ·split
   ·exact .inl h
   ·split <;> exact .inl h
 ·have h0:bq bD≠0:=by decide
  unfold iN;rw [if_pos h0];exact .inr rfl
theorem jh.gP {r:Cr} (h:jh r) (V:Vm):jh (gP V r).1:=by
 unfold Go.Pol.gP;dsimp only;split
 ·exact h
 ·split
  ·exact h
  ·exact .inr rfl
theorem jh.put {r:Cr} (h:bQ r.pg r.n r.f r.bk r.ev=0/\r.node=1) (l:Int) (k:List Sp) (c:Bool):jh ⟨r.pg,r.n,r.f,r.bk,r.ev,r.node,l,k,c⟩:=.inl h
theorem jh.close {r:Cr} (h:jh r) (V:Vm) (L:List Nd):jh (dI V L r).1:=by
 rcases h with h|rfl
 ·unfold dI
  split
  ·exact .inl h
  ·split
   ·exact jh.gP (.inl h) V
   ·dsimp only
    split
    ·exact jh.put h _ _ _
    ·exact jh.gP (jh.put h _ _ _) _
 ·have h0:bq bD≠0:=by decide
  unfold dI;rw [if_pos h0];exact .inr rfl
end Go.Pol
namespace Go.Proofs.YtlgcpjhimomiaaaGreat
open Go Go.Proofs Go.RowKit Go.Pol Go.Shelf Tryz
theorem aa4 {Q:Vm->Prop} (hQ:mX Q) {V:Vm} (h:Q V) (pg n f bk ev node:Int):Q (lg V pg n f bk ev node).2.2:=by
 unfold lg;dsimp only;split
 ·exact h
 ·have h1:Q (bK V pg n 0 0 1).2:=hQ _ _ _ _ _ _ zo h
  have h2:Q (jL (bK V pg n 0 0 1).2 (bQ pg n f bk ev) (eY pg n f bk ev)).2.2:=by
   unfold Go.Pol.jL;split
   ·exact mX.pU hQ _ _ [] _ h1
   ·exact h1
  split
  ·exact h1
  ·split
   ·exact h2
   ·split
    ·have h3:=hQ _ pg n 1 1 0 zo h2
     split <;> exact h3
    ·exact h2
theorem XZ {Q:Vm->Prop} (hQ:mX Q) {V:Vm} (h:Q V) (L:List Nd) (r:Cr) (k:Int):Q (bZ V L r k).2.2.1:=by
 unfold bZ;split
 ·exact h
 ·split
  ·exact h
  ·dsimp only
   split <;> exact hQ _ _ _ _ _ _ zo h
theorem Qt {r:Cr} (h:jh r) (V:Vm) (L:List Nd) (k:Int):jh (bZ V L r k).1:=by
 rcases h with h|rfl
 ·unfold bZ
  split
  ·exact .inl h
  ·split
   ·exact .inl h
   ·dsimp only
    split <;> exact .inl h
 ·have h0:bq bD≠0:=by decide
  unfold bZ;rw [if_pos h0];exact .inr rfl
theorem Qu {L:List Nd} (h:bf L) (V:Vm) (r:Cr) (k:Int) (hn:r.node.toNat<L.length):bf (bZ V L r k).2.2.2/\(bZ V L r k).2.2.2.length=L.length:=by
 unfold bZ;split
 ·exact ⟨h,rfl⟩
 ·split
  ·exact ⟨h,rfl⟩
  ·dsimp only
   split
   ·exact ⟨h,rfl⟩
   ·exact ⟨sU h hn _,qj _ _ _⟩
def uO (r:Cr) (b:Int):Int:=if (Ce r b).2=0 then (Ce r b).1 else r.pg
theorem lu {r:Cr} (h:jh r) (b:Int):0<=uO r b/\uO r b<1024:=by
 unfold uO;split
 ·rename_i h1
  exact TZ h1
 ·rcases h with h|rfl
  ·have h1:=bR.1 h.1
   have:=h1.Cv;have:=h1.pg1;omega
  ·exact ⟨Int.le_refl 0,(by decide:(0:Int)<1024)⟩
def rX (S:Vm×List Nd×Cr) (x:Int×Int):Vm×List Nd×Cr :=
 if x.1 % 12<4 then ((dh S.1 S.2.1 S.2.2 x.2).2.2.1,(dh S.1 S.2.1 S.2.2 x.2).2.2.2,(dh S.1 S.2.1 S.2.2 x.2).1)
 else if x.1 % 12<6 then (S.1,S.2.1,(iN S.2.2 x.2).1)
 else if x.1 % 12<8 then ((bZ S.1 S.2.1 S.2.2 x.2).2.2.1,(bZ S.1 S.2.1 S.2.2 x.2).2.2.2,(bZ S.1 S.2.1 S.2.2 x.2).1)
 else if x.1 % 12=8 then (kT S.1 (uO S.2.2 x.2*64) ((uO S.2.2 x.2+1) % 256),S.2.1,S.2.2)
 else if x.1 % 12=9 then (joC S.1 (uO S.2.2 x.2 - uO S.2.2 x.2 % 16),S.2.1,S.2.2)
 else if x.1 % 12=10 then (S.1,(jX S.2.1 1 x.2).2,S.2.2)
 else ((dI S.1 S.2.1 S.2.2).2.2.1,(dI S.1 S.2.1 S.2.2).2.2.2,(dI S.1 S.2.1 S.2.2).1)
structure RcI (R:List Ru) (S:Vm×List Nd×Cr):Prop where
 sys:uN R S.1
 eO:bf S.2.1
 two:S.2.1.length=2
 Dt:jh S.2.2
theorem RcI.node {R:List Ru} {S:Vm×List Nd×Cr} (h:RcI R S):S.2.2.node.toNat<S.2.1.length:=by
 rw [h.two];rcases h.Dt with h|h
 ·rw [h.2];decide
 ·rw [h];decide
theorem yj {R:List Ru} {S:Vm×List Nd×Cr} (h:RcI R S) (x:Int×Int):RcI R (rX S x):=by
 have hn:=h.node;obtain ⟨V,L,r⟩:=S;obtain ⟨h1,h2,h3,h4⟩:=h;simp only at h1 h2 h3 h4 hn;unfold rX;dsimp only;split
 ·have hb:=bf.dh h2 V r x.2 hn
  exact ⟨(Bd R).grow h1 L r x.2,hb.1,hb.2.trans h3,h4.grow V L x.2⟩
 ·split
  ·exact ⟨h1,h2,h3,h4.shrink x.2⟩
  ·split
   ·have hb:=Qu h2 V r x.2 hn
    exact ⟨XZ (Bd R) h1 L r x.2,hb.1,hb.2.trans h3,Qt h4 V L x.2⟩
   ·split
    ·exact ⟨h1.write _ _,h2,h3,h4⟩
    ·split
     ·exact ⟨h1.jo _,h2,h3,h4⟩
     ·split
      ·refine ⟨h1,QL h2 1 x.2,?_,h4⟩
       dsimp only;rw [<-h3];unfold jX;split
       ·rfl
       ·simp
      ·have hb:=aO.close h1.1.good.kinds h2 r hn
       exact ⟨(Bd R).close h1 L r,hb.2.1,hb.2.2.trans h3,h4.close V L⟩
end Go.Proofs.YtlgcpjhimomiaaaGreat
namespace Go.Pol
open Go Go.RowKit Go.Proofs.Tryz
abbrev K8 (ps pb:Option Addr) (r:Cr) (v:Value) (pt pc:Option Addr) (q:Cr) (u:Value):Array Value:=#[.pointer ps,.pointer pb,zI r.pg,zI r.n,zI r.f,zI r.bk,zI r.ev,zI r.node,zI r.live,v,.bool r.cl,
 .pointer pt,.pointer pc,zI q.pg,zI q.n,zI q.f,zI q.bk,zI q.ev,zI q.node,zI q.live,u,.bool q.cl]
def Aw (W:World) (g:Nat) (r:Cr) (v:Value):World :=
 ((((((((W.setCell ⟨g,13,none⟩ (zI r.pg)).setCell ⟨g,14,none⟩ (zI r.n)).setCell ⟨g,15,none⟩ (zI r.f)).setCell ⟨g,16,none⟩ (zI r.bk)).setCell ⟨g,17,none⟩ (zI r.ev)).setCell ⟨g,18,none⟩ (zI r.node)).setCell ⟨g,19,none⟩ (zI r.live)).setCell ⟨g,20,none⟩ v).setCell ⟨g,21,none⟩ (.bool r.cl)
theorem Be {W:World} {g:Nat} {t:TypeId} {a b a0 a1 a2 a3 a4 a5 a6 a7 a8 b0 b1 b2 b3 b4 b5 b6 b7 b8 b9 b10:Value} (h:af W g t #[a,b,a0,a1,a2,a3,a4,a5,a6,a7,a8,b0,b1,b2,b3,b4,b5,b6,b7,b8,b9,b10]) (r:Cr) (v:Value) :
  af (Aw W g r v) g t #[a,b,a0,a1,a2,a3,a4,a5,a6,a7,a8,b0,b1,zI r.pg,zI r.n,zI r.f,zI r.bk,zI r.ev,zI r.node,zI r.live,v,.bool r.cl]:=by
 have:=((((((((h.aM 13 (zI r.pg)).aM 14 (zI r.n)).aM 15 (zI r.f)).aM 16 (zI r.bk)).aM 17 (zI r.ev)).aM 18 (zI r.node)).aM 19 (zI r.live)).aM 20 v).aM 21 (.bool r.cl);simpa [Aw] using this
theorem Bf (W:World) (g:Nat) (r:Cr) (v:Value):ag (λk=>k=g) W (Aw W g r v) :=
 (((((((((ag.refl (λk=>k=g) W).setCell (p:=⟨g,13,none⟩) (λ_=>rfl) _).setCell (p:=⟨g,14,none⟩) (λ_=>rfl) _).setCell (p:=⟨g,15,none⟩) (λ_=>rfl) _).setCell (p:=⟨g,16,none⟩) (λ_=>rfl) _).setCell (p:=⟨g,17,none⟩) (λ_=>rfl) _).setCell (p:=⟨g,18,none⟩) (λ_=>rfl) _).setCell (p:=⟨g,19,none⟩) (λ_=>rfl) _).setCell (p:=⟨g,20,none⟩) (λ_=>rfl) _).setCell (p:=⟨g,21,none⟩) (λ_=>rfl) _
theorem aR.ref {N bs bb ts:Nat} {V V0 U:Vm} {L:List Nd} {w w':World} (h:aR bs bb V L w w') (h0:aA w bs V0) (hlo:N<=bs/\N+1<=bb) (hr:bn w N ts U):bn w' N ts U:=by
 obtain ⟨cs,hc⟩:=hr.typed;refine hr.far h.far (λk hk=>⟨?_,λe=>?_⟩)
 ·rcases hk with rfl|⟨hb,_⟩ <;> omega
 ·subst e
  exact mJ.not h0 hc zd zd hk
theorem aR.wy {N bs bb tb:Nat} {V V0:Vm} {L K:List Nd} {w w':World} (h:aR bs bb V L w w') (h0:aA w bs V0) (hr:ed w N tb K):ed w' N tb K:=by
 obtain ⟨cs,hc⟩:=hr.typed;exact hr.far h.far (mJ.not h0 hc zd zd) (λk ⟨_,ds,hd⟩=>mJ.not h0 hd zd zd)
theorem bO.prg {N bs ts tb:Nat} {V V0 U:Vm} {L:List Nd} {w w':World} (h:bO N ts tb V L w w') (h0:bn w N ts V0) (hs:aA w bs U):aA w' bs U:=by
 obtain ⟨cs,hc⟩:=hs.typed;exact hs.far h.far (uM.not h0 hc zd zd) (λ_ _ _ _ _ _ _ _ _ _ ⟨_,hr⟩=>uM.not h0 hr zd zd)
theorem bO.bu {N bb ts tb:Nat} {V V0:Vm} {L K:List Nd} {w w':World} (h:bO N ts tb V L w w') (h0:bn w N ts V0) (hb:bz w bb K):bz w' bb K:=by
 obtain ⟨A,cap,k,_⟩:=hb.ex;exact hb.far h.far (uM.not h0 k zd zd) (λk ⟨_,ds,hd⟩=>uM.not h0 hd zd zd)
structure fA (W:World) (N y bs bb ts tb:Nat) (V U:Vm) (L K:List Nd):Prop where
 sys:aA W bs V
 eO:bz W bb L
 ref:bn W N ts U
 wy:ed W N tb K
 lo:N<=y/\N<=bs/\N+1<=bb/\N<=tb
theorem fA.call {W W':World} {N y bs bb ts tb:Nat} {V U:Vm} {L K:List Nd} (h:fA W N y bs bb ts tb V U L K) (hb:Below W.heap.size W W'):fA W' N y bs bb ts tb V U L K :=
 ⟨h.sys.call hb,h.eO.call hb,h.ref.call hb,h.wy.call hb,h.lo⟩
instance {W W':World} {N y bs bb ts tb:Nat} {V U:Vm} {L K:List Nd}:ZC W W' (fA W N y bs bb ts tb V U L K) (fA W' N y bs bb ts tb V U L K):=⟨λh k=>k.call h⟩
theorem fA.prog {W W':World} {N y bs bb ts tb:Nat} {V V' U:Vm} {L L' K:List Nd} (h:fA W N y bs bb ts tb V U L K) (hb:aR bs bb V' L' W W'):fA W' N y bs bb ts tb V' U L' K :=
 ⟨hb.sys,hb.eO,hb.ref h.sys ⟨h.lo.2.1,h.lo.2.2.1⟩ h.ref,hb.wy h.sys h.wy,h.lo⟩
theorem fA.GZ {W W':World} {N y bs bb ts tb:Nat} {V U U':Vm} {L K K':List Nd} (h:fA W N y bs bb ts tb V U L K) (hb:bO N ts tb U' K' W W'):fA W' N y bs bb ts tb V U' L K' :=
 ⟨hb.prg h.ref h.sys,hb.bu h.ref h.eO,hb.sys,hb.eO,h.lo⟩
theorem fA.Ch {W W':World} {N y bs bb ts tb:Nat} {V U:Vm} {L K:List Nd} {cs:Array Value} (h:fA W N y bs bb ts tb V U L K) (ky:af W y 47 cs) (F:ag (λk=>k=y) W W'):fA W' N y bs bb ts tb V U L K:=by
 obtain ⟨cv,hcv⟩:=h.sys.typed;obtain ⟨_,_,kq,_⟩:=h.eO.ex;obtain ⟨cr,hcr⟩:=h.ref.typed;obtain ⟨cb,hcb⟩:=h.wy.typed;refine ⟨h.sys.far F (λe=>by have e:bs=y:=e;rw [e] at hcv;exact hcv.ne ky zd) (λ_ _ _ _ _ _ q _ _ _ ⟨_,hq⟩ e=>by have e:q=y:=e;rw [e] at hq;exact hq.ne ky zd),
  h.eO.far F (λe=>by have e:bb=y:=e;rw [e] at kq;exact kq.ne ky zd) (λq ⟨_,_,hq⟩ e=>by have e:q=y:=e;rw [e] at hq;exact hq.ne ky zd),
  h.ref.far F (λk hk=>⟨by have e:k=y:=hk;have:=h.lo.1;omega,λe=>by have e2:k=y:=hk;rw [<-e,e2] at hcr;exact hcr.ne ky zd⟩),
  h.wy.far F (λe=>by have e:tb=y:=e;rw [e] at hcb;exact hcb.ne ky zd) (λq ⟨_,_,hq⟩ e=>by have e:q=y:=e;rw [e] at hq;exact hq.ne ky zd),h.lo⟩
theorem fA.below {W W':World} {N y bs bb ts tb:Nat} {V V' U:Vm} {L L' K:List Nd} (h:fA W N y bs bb ts tb V U L K) (hb:aR bs bb V' L' W W') (hN:N<=W.heap.size):Below N W W' :=
 hb.far.below hN (λk hk e=>by have:=h.lo;rcases e with rfl|⟨e,_⟩ <;> omega)
theorem fA.yl {W W':World} {N y bs bb ts tb:Nat} {V U U':Vm} {L K K':List Nd} (h:fA W N y bs bb ts tb V U L K) (hb:bO N ts tb U' K' W W') (hN:N<=W.heap.size):Below N W W' :=
 hb.far.below hN (λk hk e=>by have:=h.ref.base;rcases e with rfl|⟨e,_⟩ <;> omega)
end Go.Pol
namespace Go.Proofs.YtlgcpjhimomiaaaGreat
open Go Go.Proofs Go.RowKit Go.Pol Go.Shelf Tryz
structure gI (W:World) (N y bs bb ts tb:Nat) (R:List Ru) (S:Vm×List Nd×Cr):Prop where
 both:fA W N y bs bb ts tb S.1 S.1 S.2.1 S.2.1
 two:∃(A:Option Addr) (cap:Nat) (B:Option Addr) (cap':Nat),af W y 47 (K8 (some ⟨bs,0,none⟩) (some ⟨bb,0,none⟩) S.2.2 (.slice A S.2.2.kept.length cap) (some ⟨ts,0,none⟩) (some ⟨tb,0,none⟩) S.2.2 (.slice B S.2.2.kept.length cap'))/\KeptAt W A S.2.2.kept/\S.2.2.kept.length<=cap/\cap<=maxLen/\KeptAt W B S.2.2.kept/\S.2.2.kept.length<=cap'/\cap'<=maxLen
 inv:RcI R S
theorem gI.call {W W':World} {N y bs bb ts tb:Nat} {R:List Ru} {S:Vm×List Nd×Cr} (h:gI W N y bs bb ts tb R S) (hb:Below W.heap.size W W'):gI W' N y bs bb ts tb R S:=by
 obtain ⟨A,cap,B,cap',k,h1,h2,h3,h4,h5,h6⟩:=h.two;exact ⟨h.both.call hb,⟨A,cap,B,cap',k.call hb,h1.call hb,h2,h3,h4.call hb,h5,h6⟩,h.inv⟩
instance {W W':World} {N y bs bb ts tb:Nat} {R:List Ru} {S:Vm×List Nd×Cr}:ZC W W' (gI W N y bs bb ts tb R S) (gI W' N y bs bb ts tb R S):=⟨λh k=>k.call h⟩
attribute [local go_sem] Oper.semAt_some aC au aB ai
theorem asq (a b c d:Int) (w:World):(Op.equalIn 10000 108 (.agg #[zI a,zI b,zI c,zI d]) (.agg #[zI a,zI b,zI c,zI d])).run prog w= .ok true w:=by
 exact XH
theorem asr (a b c:Int) (w:World):(Op.equalIn 10000 110 (.agg #[zI a,zI b,zI c]) (.agg #[zI a,zI b,zI c])).run prog w= .ok true w:=by
 exact XH
theorem MS (A A':Option Addr) (n cap cap':Nat) (l:List Ru) (w:World) (hn:l.length=n) (hm:n<=1000) (hr:Rd w w.heap.size A (fl iU l)) (hr':Rd w w.heap.size A' (fl iU l)) :
  zK 191 #[.agg #[.slice A n cap],.agg #[.slice A' n cap']] w (.bool true):=by
 have hb0:=(aQ w (.cells #[.slice A n cap] 31)).alloc zs (.cells #[.slice A' n cap'] 31);have k0:=(af.new w 31 #[.slice A n cap]).alloc (.cells #[.slice A' n cap'] 31);have k1:=af.new (w.alloc (.cells #[.slice A n cap] 31)) 31 #[.slice A' n cap'];have r0:=hr.fB hb0;have r1:=hr'.fB hb0;obtain ⟨s,hs⟩:=ah (w.heap.size);rw [World.size_alloc,hs] at k1;rw [hs] at k0;have hn':=ae hn;have heq:=ae (λa b c d W=>asq a b c d W);clear hn hr hr';go_enter func191,ntmps191;go_upto_region 1 with fail
 generalize (w.alloc _).alloc _=w0 at *;try simp only [hs]
 obtain ⟨c0,c1⟩:=bB k0 k1;have d0:((n:Int) != (n:Int))=false:=by simp
 go_upto_region 3 with fail
 clear c0 c1;have WC:=ae k0;have k1':=ae k1;clear k0 k1;go_wp2_with fail
 go_loopw [5] (λu wr=>∃i:Nat,i<=n/\u = zI i/\Below w0.heap.size w0 wr) (λu _=>n - (intOf u).toNat)
 case atStart=>exact ⟨0,zo,rfl,Below.refl _ _⟩
 case round =>
  obtain ⟨i,hi,rfl,hB⟩:=hrel;have kr:=WC.out.call hB;have kq:=k1'.out.call hB;have cr:=kr.cell;by_cases hlt:i<n
  ·have hlt':decide ((i:Int)<(n:Int))=true:=by simpa using hlt
   have hin:(i:Int)<(n:Int):=zo;obtain ⟨b,o,rfl,hb,hc⟩:=(r0.fB hB).elem jY zo qa (k:=i) (by have:=hn'.out;omega);obtain ⟨b',o',rfl,hb',hc'⟩:=(r1.fB hB).elem jY zo qa (k:=i) (by have:=hn'.out;omega);generalize l.getD i qa=x at *;obtain ⟨xk,f,e,t⟩:=x;have x0:=hc 0 _ rfl;have x1:=hc 1 _ rfl;have x2:=hc 2 _ rfl;have x3:=hc 3 _ rfl;have y0:=hc' 0 _ rfl;have y1:=hc' 1 _ rfl;have y2:=hc' 2 _ rfl;have y3:=hc' 3 _ rfl;simp only [Nat.add_zero] at x0 y0;have e0:=λz:Ext wr=>(z.blk kr).cell
   have e1:=λz:Ext wr=>(z.blk kq).cell
   have a0:=λz:Ext wr=>z.cell x0
   have a1:=λz:Ext wr=>z.cell x1
   have a2:=λz:Ext wr=>z.cell x2
   have a3:=λz:Ext wr=>z.cell x3
   have b0:=λz:Ext wr=>z.cell y0
   have b1:=λz:Ext wr=>z.cell y1
   have b2:=λz:Ext wr=>z.cell y2
   have b3:=λz:Ext wr=>z.cell y3
   have hq:=λW=>heq.out xk f e t W
   clear hc hc' x0 x1 x2 x3 y0 y1 y2 y3;exact aeL
  ·exact aeM
theorem La (A A':Option Addr) (n cap cap':Nat) (l:List Ru) (cs hs:Nat->Int) (w:World) (hn:l.length=n) (hm:n<=1000) (hr:Rd w w.heap.size A (fl iU l)) (hr':Rd w w.heap.size A' (fl iU l)) :
  zK 161 #[ic (.slice A n cap) cs hs,ic (.slice A' n cap') cs hs] w (.bool true):=by
 have hb0:=(aQ w (.cells (aH (.slice A n cap) cs hs).toArray 58)).alloc zs (.cells (aH (.slice A' n cap') cs hs).toArray 58);have k0:=(af.new w 58 (aH (.slice A n cap) cs hs).toArray).alloc (.cells (aH (.slice A' n cap') cs hs).toArray 58);have k1:=af.new (w.alloc (.cells (aH (.slice A n cap) cs hs).toArray 58)) 58 (aH (.slice A' n cap') cs hs).toArray;have r0:=hr.fB hb0;have r1:=hr'.fB hb0;obtain ⟨s,hsz⟩:=ah (w.heap.size);rw [World.size_alloc,hsz] at k1;rw [hsz] at k0;have HP:=ae (λW h h'=>MS A A' n cap cap' l W hn hm h h');have hqc:∀W,(Op.equalIn 10000 56 (.agg #[zI (cs 0),zI (cs 1),zI (cs 2),zI (cs 3),zI (cs 4),zI (cs 5),zI (cs 6)]) (.agg #[zI (cs 0),zI (cs 1),zI (cs 2),zI (cs 3),zI (cs 4),zI (cs 5),zI (cs 6)])).run prog W= .ok true W:=λW=>R6 cs W
 have QV:∀W,(Op.equalIn 10000 56 (.agg #[zI (hs 0),zI (hs 1),zI (hs 2),zI (hs 3),zI (hs 4),zI (hs 5),zI (hs 6)]) (.agg #[zI (hs 0),zI (hs 1),zI (hs 2),zI (hs 3),zI (hs 4),zI (hs 5),zI (hs 6)])).run prog W= .ok true W:=λW=>R6 hs W
 unfold aH at hb0 k0 k1 r0 r1;unfold ic aH;clear hn hr hr';go_enter func161,ntmps161;go_upto_region 1 with fail
 generalize (w.alloc _).alloc _=w0 at *;try simp only [hsz]
 obtain ⟨c0,c1⟩:=bB k0 k1;go_wp2_with fail;refine (HP.out _ r0 r1).zr λw1 hb1=>?_
 have EY:=(k0.call hb1).cell;have k11:=(k1.call hb1).cell;clear c0 c1 k0 k1 r0 r1 HP;exact Jo
theorem l9 {P:Program} {ops:Array Oper} {C:World->Prop} {Q:Act->Prop} {a:Act} {o:Oper} {rest:List Oper} (x:Operand) (ty:TypeId) (p:Addr) (v:Value) (hg:o.guard=none) (h:o.op= .load ty x) (hx:a.eval x= .pointer (some p)) (hl:∀w,C w->(loadVar ty p).run P w= .ok v w)
  (hk:wpQuiet P ops C Q rest (a.put o.dst v)):wpQuiet P ops C Q (o::rest) a :=
 wpQuiet_step λK hK=>by
  rw [if_pos (by simp [Region.wanted,hg])];refine ⟨v,λw hw=>?_,hK _ hk⟩;unfold Oper.quietAt;have e:(execOp a.eval o).run P w= .ok (.value v) w:=by
   unfold execOp;simp only [h];simp [hx,Instr.loadAt,Instr.sureAddr,Result.andThen,hl w hw]
  rw [e];exact ⟨rfl,rfl⟩
theorem Lb:(prog.info? 118).map (·.size)=some 65:=zk
theorem Om (d:Nat) (f:Nat->Int) (w:World):∀is:List Nat,(∀i∈is,i<64)->(Op.eqItems (d+1) 5 1 (fP .u8 64 f) (fP .u8 64 f) is).run prog w= .ok true w
 | [],_=>by simp [Op.eqItems]
 | i::is,h=>by
  have ih:=Om d f w is (λj hj=>h j (by simp [hj]));have h1:=ui (k:=.u8) (f:=f) (h i zs);have a3:=Tryz.isAgg5;have he:=run_equalIn_int (P:=prog) w d 5 .u8 _ (f i) (f i) underlying5;generalize fP .u8 64 f=X at *;have p1:(part 5 X (i*1)).run prog w= .ok (.int .u8 (f i)) w:=by simp [part,a3,h1]
  rw [show (f i==f i)=true by simp] at he;simp only [Op.eqItems,Sem.run_bind,p1,he,Result.andThen_ok,Bool.not_true,Bool.false_eq_true,if_false];exact ih
theorem anD (d:Nat) (f:Nat->Int) (w:World):(Op.equalIn (d+2) 100 (.agg (fP .u8 64 f)) (.agg (fP .u8 64 f))).run prog w= .ok true w:=by
 obtain ⟨i0,hi⟩:=info_of_underlying (P:=prog) underlying5;rw [run_equalIn_array w (d+1) _ _ underlying100 hi];have hc:prog.cellsOf 5=1:=zk;rw [hc];exact Om d f w _ (λi hi=>List.mem_range.1 hi)
theorem X0 (p:Int) (f:Nat->Int):(lW p f).extract 1 65=fP .u8 64 f:=zk
theorem aa5 (p:Int) (f:Nat->Int):(lW p f).size=65:=zk
theorem aa6 (p:Int) (f:Nat->Int):(lW p f)[0]? = some (zI p):=zk
theorem ass (p:Int) (f:Nat->Int) (w:World):(Op.equalIn 10000 118 (.agg (lW p f)) (.agg (lW p f))).run prog w= .ok true w:=by
 have u3:=underlying3;have a3:=Tryz.isAgg3;have z3:=Tryz.sizeOf3;have a9:=Tryz.isAgg100;have z9:=Tryz.sizeOf100;have h0:(lW p f)[0]? = some (zI p):=aa6 p f;have hx:(lW p f).extract 1 65=fP .u8 64 f:=X0 p f;have hs:=aa5 p f;have he:(Op.equalIn 9999 100 (.agg (fP .u8 64 f)) (.agg (fP .u8 64 f))).run prog w= .ok true w:=anD 9997 f w;have he0:(Op.equalIn 9999 3 (zI p) (zI p)).run prog w= .ok (p==p) w:=run_equalIn_int (P:=prog) w 9998 3 .i64 _ p p underlying3;rw [show (p==p)=true by simp] at he0;generalize lW p f=D at *;generalize fP .u8 64 f=X at *;rw [show (10000:Nat)=9999+1 from rfl];go_simp;obtain ⟨hlt,e0⟩:=Array.getElem?_eq_some_iff.1 h0;simp only [e0,he0,he,Result.andThen_ok,Bool.true_eq_false,if_false]
theorem X5 (S T:Value) (V:Vm) (w:World) (hS:JG w S V) (hT:JG w T V) (hm:V.rf.rules.length<=1000) :
  zK 102 #[S,T] w (.bool true):=by
 obtain ⟨A1,A2,A3,A4,n1,c1,n2,c2,n3,c3,n4,c4,rfl,h1,r1,h2,r2,h3,r3,h4,r4⟩:=hS.ex;obtain ⟨B1,B2,B3,B4,m1,d1,m2,d2,m3,d3,m4,d4,rfl,g1,q1,g2,q2,g3,q3,g4,q4⟩:=hT.ex;obtain rfl:n1=m1:=h1.symm.trans g1;obtain rfl:n2=m2:=h2.symm.trans g2;obtain rfl:n3=m3:=h3.symm.trans g3;obtain rfl:n4=m4:=h4.symm.trans g4;clear g1 g2 g3 g4 hS hT;have hb0:=(aQ w (.cells (gG (.slice A1 n1 c1) (.slice A2 n2 c2) (.slice A3 n3 c3) (.slice A4 n4 c4) V.rf.calls V.rf.hits).toArray 60)).alloc zs (.cells (gG (.slice B1 n1 d1) (.slice B2 n2 d2) (.slice B3 n3 d3) (.slice B4 n4 d4) V.rf.calls V.rf.hits).toArray 60);have k0:=(af.new w 60 (gG (.slice A1 n1 c1) (.slice A2 n2 c2) (.slice A3 n3 c3) (.slice A4 n4 c4) V.rf.calls V.rf.hits).toArray).alloc (.cells (gG (.slice B1 n1 d1) (.slice B2 n2 d2) (.slice B3 n3 d3) (.slice B4 n4 d4) V.rf.calls V.rf.hits).toArray 60);have k1:=af.new (w.alloc (.cells (gG (.slice A1 n1 c1) (.slice A2 n2 c2) (.slice A3 n3 c3) (.slice A4 n4 c4) V.rf.calls V.rf.hits).toArray 60)) 60 (gG (.slice B1 n1 d1) (.slice B2 n2 d2) (.slice B3 n3 d3) (.slice B4 n4 d4) V.rf.calls V.rf.hits).toArray;obtain ⟨s,hs⟩:=ah (w.heap.size);rw [World.size_alloc,hs] at k1;rw [hs] at k0;have R1:=ae (And.intro (r1.fB hb0) (q1.fB hb0));have R2:=ae (And.intro (RI.more (RI.below r2 hb0) hb0.size) (RI.more (RI.below q2 hb0) hb0.size));have R3:=ae (And.intro (r3.fB hb0) (q3.fB hb0));have R4:=ae (And.intro (r4.fB hb0) (q4.fB hb0));have WH:=ae (λW h h'=>La A4 B4 n4 c4 d4 V.rf.rules V.rf.calls V.rf.hits W h4 zo h h');have H1:=ae h1;have H2:=ae h2;have H3:=ae h3;have hL1:=qU V 1024;have hL2:=wP V 1024;have hL3:=wQ V 1024;have e1:((n1:Int) != (n1:Int))=false:=by simp
 have e2:((n2:Int) != (n2:Int))=false:=by simp
 have e3:((n3:Int) != (n3:Int))=false:=by simp
 rw [h1] at hL1;rw [h2] at hL2;rw [h3] at hL3;clear r1 r2 r3 r4 q1 q2 q3 q4 h1 h2 h3 h4;unfold gG aH at hb0 k0 k1 R1 R2 R3 R4 ⊢;unfold ic aH at WH;go_enter func102,ntmps102;go_upto_region 1 with fail
 generalize (w.alloc _).alloc _=w0 at *;try simp only [hs]
 obtain ⟨c0,c1⟩:=bB k0 k1;go_wp2_with fail;refine (WH.out _ R4.out.1 R4.out.2).zr λw1 hb1=>?_
 have EY:=ae (k0.call hb1);have k11:=ae (k1.call hb1);have Q1:=ae (And.intro (R1.out.1.fB hb1) (R1.out.2.fB hb1));have Q2:=ae (And.intro (RI.more (RI.below R2.out.1 hb1) hb1.size) (RI.more (RI.below R2.out.2 hb1) hb1.size));have Q3:=ae (And.intro (R3.out.1.fB hb1) (R3.out.2.fB hb1));have B0:=hb0.zt hb1;clear c0 c1 k0 k1 R1 R2 R3 R4 WH hb1;have ast:=ae (λa b c W=>asr a b c W);have asu:=ae (λp W=>ass ((p:Nat):Int) (V.pg p).fe W);go_wp2_with fail
 go_loopw [5] (λu wr=>∃i:Nat,i<=n1/\u = zI i/\Below w1.heap.size w1 wr) (λu _=>n1 - (intOf u).toNat)
 case atStart=>exact ⟨0,zo,rfl,Below.refl _ _⟩
 case round =>
  obtain ⟨i,hi,rfl,hB⟩:=hrel;have kr:=EY.out.call hB;have kq:=k11.out.call hB;have cr:=kr.cell;by_cases hlt:i<n1
  ·have hlt':decide ((i:Int)<(n1:Int))=true:=by simpa using hlt
   have hin:(i:Int)<(n1:Int):=zo;obtain ⟨b,o,rfl,hb,hc⟩:=(Q1.out.1.fB hB).elem uh zo DW (k:=i) (by have:=H1.out;omega);obtain ⟨b',o',rfl,hb',hc'⟩:=(Q1.out.2.fB hB).elem uh zo DW (k:=i) (by have:=H1.out;omega);generalize (aF V 1024).getD i DW=x at *;obtain ⟨xa,xn,xk⟩:=x;have x0:=hc 0 _ rfl;have x1:=hc 1 _ rfl;have x2:=hc 2 _ rfl;have y0:=hc' 0 _ rfl;have y1:=hc' 1 _ rfl;have y2:=hc' 2 _ rfl;simp only [Nat.add_zero] at x0 y0;have e0:=λz:Ext wr=>(z.blk kr).cell
   have e1:=λz:Ext wr=>(z.blk kq).cell
   have a0:=λz:Ext wr=>z.cell x0
   have a1:=λz:Ext wr=>z.cell x1
   have a2:=λz:Ext wr=>z.cell x2
   have b0:=λz:Ext wr=>z.cell y0
   have b1:=λz:Ext wr=>z.cell y1
   have b2:=λz:Ext wr=>z.cell y2
   have hq:=λW=>ast.out xa xn xk W
   clear hc hc' x0 x1 x2 y0 y1 y2;exact aeL
  ·obtain rfl:i=n1:=zo
   have hlt':decide ((i:Int)<(i:Int))=false:=by simp
   have hB1:=ae hB;clear hB kr kq;go_wp2_with fail;clear cr
   go_loopw [6] (λu wr=>∃i:Nat,i<=n2/\u = zI i/\Below w1.heap.size w1 wr) (λu _=>n2 - (intOf u).toNat)
   case atStart=>exact ⟨0,zo,rfl,hB1.out⟩
   case round =>
    obtain ⟨j,hj,rfl,hB⟩:=hrel;have kr:=EY.out.call hB;have kq:=k11.out.call hB;have cr:=kr.cell;by_cases hlt2:j<n2
    ·have Jd:decide ((j:Int)<(n2:Int))=true:=by simpa using hlt2
     have hin:(j:Int)<(n2:Int):=zo;obtain ⟨b,o,rfl,hb,x0⟩:=(RI.more (RI.below Q2.out.1 hB) hB.size).at_ (k:=j) (by have:=H2.out;omega);obtain ⟨b',o',rfl,hb',y0⟩:=(RI.more (RI.below Q2.out.2 hB) hB.size).at_ (k:=j) (by have:=H2.out;omega);generalize (dC V 1024).getD j 0=x at *;have e0:=λz:Ext wr=>(z.blk kr).cell
     have e1:=λz:Ext wr=>(z.blk kq).cell
     have a0:=λz:Ext wr=>z.cell x0
     have b0:=λz:Ext wr=>z.cell y0
     have hq:(x != x)=false:=by simp
     clear x0 y0;go_upto_region 11 with fail
     clear cr;refine aD zk zk ?_
     repeat (go_big_quiet_step (fail))
     refine wpQuiet_nil ?_;rintro w2 ⟨⟨_,hw2⟩,rfl⟩;exact VN
    ·obtain rfl:j=n2:=zo
     have Jd:decide ((j:Int)<(j:Int))=false:=by simp
     have hB2:=ae hB;clear hB kr kq;go_wp2_with fail;clear cr
     go_loopw [7] (λu wr=>∃i:Nat,i<=n3/\u = zI i/\Below w1.heap.size w1 wr) (λu _=>n3 - (intOf u).toNat)
     case atStart=>exact ⟨0,zo,rfl,hB2.out⟩
     case round =>
      obtain ⟨k,hk,rfl,hB⟩:=hrel;have kr:=EY.out.call hB;have kq:=k11.out.call hB;have cr:=kr.cell;by_cases hlt3:k<n3
      ·have anE:decide ((k:Int)<(n3:Int))=true:=by simpa using hlt3
       have hin:(k:Int)<(n3:Int):=zo;obtain ⟨b,o,rfl,hb,hc⟩:=(Q3.out.1.fB hB).elem (zL V) zo 0 (k:=k) (by have:=H3.out;omega);obtain ⟨b',o',rfl,hb',hc'⟩:=(Q3.out.2.fB hB).elem (zL V) zo 0 (k:=k) (by have:=H3.out;omega);generalize (dS V 1024).getD k 0=p at *;have hq:=asu.out p;have hld:∀z:Ext wr,(loadVar 118 ⟨b,o+k*65,none⟩).run prog z.w= .ok (.agg (lW (p:Int) (V.pg p).fe)) z.w:=λz=>run_loadVar_mid (P:=prog) z.w b (o+k*65) 118 (rJ V p) _ (λj v hj=>z.cell (hc j v hj)) underlying118 rfl Lb
       have asv:∀z:Ext wr,(loadVar 118 ⟨b',o'+k*65,none⟩).run prog z.w= .ok (.agg (lW (p:Int) (V.pg p).fe)) z.w:=λz=>run_loadVar_mid (P:=prog) z.w b' (o'+k*65) 118 (rJ V p) _ (λj v hj=>z.cell (hc' j v hj)) underlying118 rfl Lb
       have e0:=λz:Ext wr=>(z.blk kr).cell
       have e1:=λz:Ext wr=>(z.blk kq).cell
       generalize lW (p:Int) (V.pg p).fe=D at *;clear hc hc';go_upto_region 16 with fail
       clear cr;refine aD zk zk ?_
       repeat (go_big_quiet_step (fail))
       refine l9 (.tmp 87) 118 ⟨b,o+k*65,none⟩ (.agg D) rfl rfl rfl (by rintro _ ⟨z,rfl⟩;exact hld z) ?_;simp only [Act.put,List.setIfInBounds_toArray,List.set_cons_zero,List.set_cons_succ]
       repeat (go_big_quiet_step (fail))
       refine l9 (.tmp 92) 118 ⟨b',o'+k*65,none⟩ (.agg D) rfl rfl rfl (by rintro _ ⟨z,rfl⟩;exact asv z) ?_;simp only [Act.put,List.setIfInBounds_toArray,List.set_cons_zero,List.set_cons_succ]
       repeat (go_big_quiet_step (fail))
       refine wpQuiet_nil ?_;rintro w2 ⟨⟨_,hw2⟩,rfl⟩;go_wp2_with fail;go_roundw
       case rel=>exact ⟨k+1,zo,by go_num,hB.zt hw2⟩
       case measure=>exact zm
      ·obtain rfl:k=n3:=zo
       have anE:decide ((k:Int)<(k:Int))=false:=by simp
       go_wp2_with fail;go_ret;exact ⟨rfl,B0.zt hB⟩
end Go.Proofs.YtlgcpjhimomiaaaGreat
namespace Go.Pol
open Go Go.RowKit Go.Proofs.Tryz
def Ij (y bs bb ts tb:Nat) (r:Cr) (v u:Value) (W:World):Prop:=W.cell? ⟨y,0,none⟩=some (.pointer (some ⟨bs,0,none⟩))/\W.cell? ⟨y,1,none⟩=some (.pointer (some ⟨bb,0,none⟩))/\W.cell? ⟨y,2,none⟩=some (zI r.pg)/\W.cell? ⟨y,3,none⟩=some (zI r.n)/\W.cell? ⟨y,4,none⟩=some (zI r.f)/\W.cell? ⟨y,5,none⟩=some (zI r.bk)/\W.cell? ⟨y,6,none⟩=some (zI r.ev)/\W.cell? ⟨y,7,none⟩=some (zI r.node)/\W.cell? ⟨y,8,none⟩=some (zI r.live)/\W.cell? ⟨y,9,none⟩=some v/\W.cell? ⟨y,10,none⟩=some (.bool r.cl) /\
 W.cell? ⟨y,11,none⟩=some (.pointer (some ⟨ts,0,none⟩))/\W.cell? ⟨y,12,none⟩=some (.pointer (some ⟨tb,0,none⟩))/\W.cell? ⟨y,13,none⟩=some (zI r.pg)/\W.cell? ⟨y,14,none⟩=some (zI r.n)/\W.cell? ⟨y,15,none⟩=some (zI r.f)/\W.cell? ⟨y,16,none⟩=some (zI r.bk)/\W.cell? ⟨y,17,none⟩=some (zI r.ev)/\W.cell? ⟨y,18,none⟩=some (zI r.node)/\W.cell? ⟨y,19,none⟩=some (zI r.live)/\W.cell? ⟨y,20,none⟩=some u/\W.cell? ⟨y,21,none⟩=some (.bool r.cl)
theorem Ij.of {y bs bb ts tb:Nat} {r:Cr} {v u:Value} {W:World} {t:TypeId} (h:af W y t (K8 (some ⟨bs,0,none⟩) (some ⟨bb,0,none⟩) r v (some ⟨ts,0,none⟩) (some ⟨tb,0,none⟩) r u)):Ij y bs bb ts tb r v u W :=
 ⟨h.cell 0,h.cell 1,h.cell 2,h.cell 3,h.cell 4,h.cell 5,h.cell 6,h.cell 7,h.cell 8,h.cell 9,h.cell 10,h.cell 11,h.cell 12,h.cell 13,h.cell 14,h.cell 15,h.cell 16,h.cell 17,h.cell 18,h.cell 19,h.cell 20,h.cell 21⟩
end Go.Pol
namespace Go.Proofs.YtlgcpjhimomiaaaGreat
open Go Go.Proofs Go.RowKit Go.Pol Go.Shelf Tryz
attribute [local go_sem] Oper.semAt_some aC au aB ai
theorem uP (N y bs bb ts tb:Nat) (R:List Ru) (S:Vm×List Nd×Cr) (w:World) (h:gI w N y bs bb ts tb R S) :
  zK 34 #[zP y] w (.bool true):=by
 obtain ⟨V,L,r⟩:=S;have hG:=h.inv.sys.1.good;have hO:=h.inv.eO;have h2:L.length=2:=h.inv.two;have hB:=h.both;obtain ⟨A,cap,A',cap',ky,hk,hl,hm,hk',hl',hm'⟩:=h.two;simp only at hG hO hB ky hk hl hm hk' hl' hm';have dR:V.rf.rules.length<=1000:=by
  have:=(lZ.1 hB.sys.ok.plan).1;omega
 clear h;have hbd:=(Below.refl w.heap.size w).drew;obtain ⟨B1,pO,hk1,asw⟩:=vO hbd hB ky hk hk';have HS:=ae (λW h h'=>GR r A A' cap cap' W zo h h');have HB6:=ae (λW h=>WQ bb L W h zo);have HB7:=ae (λW h=>Xr N tb L W h zo zo);rw [h2] at HB6 HB7;have h2':=ae h2;generalize hrl:r.kept.length=m at *;clear h2;go_enter func34,ntmps34;go_upto_region 1 with fail
 refine bT ?_;refine bM (Ij y bs bb ts tb r (.slice A m cap) (.slice A' m cap')) [35] zk ?_;generalize w.drew=wd at *;have hS:=Ij.of pO;dsimp only [Ij] at hS ⊢;clear hB ky hk hk';refine aW 0 hS ?_;refine aW 1 hS ?_;refine aW 2 hS ?_;refine aW 3 hS ?_;refine aW 4 hS ?_;refine aW 5 hS ?_;refine aW 6 hS ?_;refine aW 7 hS ?_;refine gD 8 λK hK=>?_
 go_simp;refine ((HS.out wd hk1.ru asw.ru)).mono ?_;rintro (e w2 ⟨rfl,hb2⟩);refine hK.out _ _ (λ_=>Ij.of (pO.call hb2)) (λhS=>?_);clear hK K;replace hS:=hS rfl;try simp only [Act.put,iE,iF,iG]
 refine aW 9 hS ?_;refine aW 10 hS ?_;refine aW 11 hS ?_;refine aW 12 hS ?_;refine aW 13 hS ?_;refine aW 15 hS ?_;refine aW 16 hS ?_;refine aW 17 hS ?_;refine aW 18 hS ?_;obtain ⟨jA,B2⟩:=bY hb2 pO B1;refine gD 14 λK hK=>?_
 go_simp;refine ((aao bs V w2 B2.sys)).mono ?_;rintro (e w3 ⟨X3,rfl,hX3,hb3⟩);refine hK.out _ _ (λ_=>Ij.of (jA.call hb3)) (λhS=>?_);clear hK K;replace hS:=hS rfl;try simp only [Act.put,iE,iF,iG]
 obtain ⟨gT,B3⟩:=bY hb3 jA B2;refine gD 19 λK hK=>?_
 go_simp;refine ((JS N ts V w3 B3.ref hG)).mono ?_;rintro (e w4 ⟨X4,rfl,hX4,hb4⟩);refine hK.out _ _ (λ_=>Ij.of (gT.call hb4)) (λhS=>?_);clear hK K;replace hS:=hS rfl;try simp only [Act.put,iE,iF,iG]
 obtain ⟨nH,B4⟩:=bY hb4 gT B3;refine gD 20 λK hK=>?_
 go_simp;refine ((X5 X3 X4 V w4 (hX3.on hb4) hX4 dR)).mono ?_;rintro (e w5 ⟨rfl,hb5⟩);refine hK.out _ _ (λ_=>Ij.of (nH.call hb5)) (λhS=>?_);clear hK K;replace hS:=hS rfl;try simp only [Act.put,iE,iF,iG]
 obtain ⟨qA,B5⟩:=bY hb5 nH B4;refine aW 21 hS ?_;refine aW 22 hS ?_;refine aW 23 hS ?_;refine aW 24 hS ?_;refine aW 25 hS ?_;refine aW 26 hS ?_;refine aW 28 hS ?_;refine aW 29 hS ?_;refine aW 30 hS ?_;refine aW 31 hS ?_;refine gD 27 λK hK=>?_
 go_simp;refine ((HB6.out w5 B5.eO)).mono ?_;rintro (e w6 ⟨⟨A6,c6,rfl,hr6,HY,MQ⟩,hb6⟩);refine hK.out _ _ (λ_=>Ij.of (qA.call hb6)) (λhS=>?_);clear hK K;replace hS:=hS rfl;try simp only [Act.put,iE,iF,iG]
 obtain ⟨jE,B6⟩:=bY hb6 qA B5;refine gD 32 λK hK=>?_
 go_simp;refine ((HB7.out w6 B6.wy)).mono ?_;rintro (e w7 ⟨⟨A7,c7,rfl,hr7,O6,hm7⟩,Dj⟩);refine hK.out _ _ (λ_=>Ij.of (jE.call Dj)) (λhS=>?_);clear hK K;replace hS:=hS rfl;try simp only [Act.put,iE,iF,iG]
 have yP:=jE.call Dj;refine gD 33 λK hK=>?_
 go_simp;refine ((TG A6 A7 2 c6 c7 L w7 h2'.out zo (hr6.fB Dj) hr7)).mono ?_;rintro (e w8 ⟨rfl,rU⟩);refine hK.out _ _ (λ_=>Ij.of (yP.call rU)) (λhS=>?_);clear hK K;replace hS:=hS rfl;try simp only [Act.put,iE,iF,iG]
 refine aW 34 hS ?_;refine ig 35 ?_;refine bE zk ?_ _;refine aS ?_;have hs:=hbd.size;go_wp2_with fail;go_ret;have b2:=hbd.trans (hb2.mono hs);have b3:=b2.zt hb3;have b4:=b3.zt hb4;have b5:=b4.zt hb5;have b6:=b5.zt hb6;have b7:=b6.zt Dj;exact ⟨rfl,b7.zt rU⟩
end Go.Proofs.YtlgcpjhimomiaaaGreat
namespace Go.Pol
open Go Go.RowKit Go.Proofs.Tryz
def nW (K:List Sp) (a i:Nat):Nat->Bool:=λp=>decide (a<=p)&&decide (p<i)&&!mem (p:Int) K
theorem Ay (K:List Sp) {a i:Nat} (h:a<=i) (p:Nat):nW K a (i+1) p=if p=i then !mem (i:Int) K else nW K a i p:=by
 unfold nW;by_cases e:p=i
 ·subst e
  rw [if_pos rfl,decide_eq_true zo,decide_eq_true zo];rfl
 ·rw [if_neg e]
  congr 2;exact decide_eq_decide.2 zo
theorem X6 {K:List Sp} (hK:Can K) {a t:Nat} (hB:Can (bJ (a:Int) (t:Int))) (k:Nat):nW K a t k=mem (k:Int) (az (bJ (a:Int) (t:Int)) (aZ K (0,1024))):=by
 rw [FM hK hB];unfold nW;congr 1;congr 1 <;> exact decide_eq_decide.2 zo
theorem Ez (K:List Sp) (live:Int):∀j:Nat,0<=rW K live j/\rW K live j<=j
 | 0=>by simp [rW,iL]
 | j+1=>by
  have:=Ez K live j;rw [Av];split <;> omega
theorem Az (l:List iO):(jf l).length=l.length:=by unfold jf;rw [List.length_map]
theorem ma (l:List iO) (i:Nat):(jf l).getD i (0,0)=((l.getD i (0,0,0)).1,(l.getD i (0,0,0)).2.1):=by
 unfold jf;rw [List.getD_eq_getElem?_getD,List.getD_eq_getElem?_getD,List.getElem?_map];cases l[i]? <;> rfl
theorem X7 {V:Vm} {L:List Nd} {r:Cr} {tt:Int} (h0:bq r=0) (h1:r.cl=false) (h2:¬(tt<r.live\/pJ r<tt)) {M:List Sp} (hM:az (bJ r.live tt) (aZ r.kept (0,1024))=M) {c:Int×List Nd} (hc:iZ L r.node.toNat (aG M)=c) {C:Int×Vm×List iO} (hC:jN (bW M 0 (ay r.pg r.n r.f r.bk r.ev)) [] V=C) :
  dh V L r tt=if c.1≠0 then (r,c.1,V,c.2) else if C.1=0 then ({ r with live:=tt,kept:=az r.kept (aZ (bJ 0 tt) (0,1024)) },0,C.2.1,c.2) else ({ r with kept:=(C.2.2.reverse.foldl dK (C.2.1,r.kept,aG M)).2.1 },C.1,(C.2.2.reverse.foldl dK (C.2.1,r.kept,aG M)).1,(jb c.2 r.node.toNat (C.2.2.reverse.foldl dK (C.2.1,r.kept,aG M)).2.2).2):=by
 unfold dh;rw [if_neg (by rw [h0];simp),if_neg (by rw [h1];simp),if_neg h2];dsimp only;rw [hM,hc,hC]
end Go.Pol
namespace Go.Proofs.YtlgcpjhimomiaaaGreat
open Go Go.Proofs Go.RowKit Go.Pol Go.Shelf Tryz
attribute [local go_sem] Oper.semAt_some aC au aB ai
theorem Us (B bs bb:Nat) (V:Vm) (L:List Nd) (pg n f bk ev:Int) (nn a t:Nat) (K:List Sp) (A:Option Addr) (m cap:Nat) (w:World) (hV:bn w B bs V) (hB:ed w B bb L) (hO:bf L) (hnl:nn<L.length) (hm:K.length=m) (hcap:m<=cap) (hcm:cap<=maxLen) (hk:KeptAt w A K) (hok:NV ⟨pg,n,f,bk,ev,nn,a,K,false⟩) (hat:a<=t) (htu:(t:Int)<=aG (ay pg n f bk ev)) :
  Calls prog 36 #[zP bs,zP bb,.agg (aj ⟨pg,n,f,bk,ev,nn,a,K,false⟩ (.slice A m cap)),zI t] w λe w'=>∃v,e= .returned (.tuple #[v,zI (dh V L ⟨pg,n,f,bk,ev,nn,a,K,false⟩ t).2.1])/\Dc (dh V L ⟨pg,n,f,bk,ev,nn,a,K,false⟩ t).1 w' v/\bO B bs bb (dh V L ⟨pg,n,f,bk,ev,nn,a,K,false⟩ t).2.2.1 (dh V L ⟨pg,n,f,bk,ev,nn,a,K,false⟩ t).2.2.2 w w':=by
 have hr:=hk.ru;have hlt:=hV.lt;have hp:dO pg n f bk ev:=hok.plan;have jC:Go.Pol.Can K:=hok.can;have hlow:∀x∈K,(a:Int)<=x.1:=λx hx=>(hok.low x hx).1
 have hz:bQ pg n f bk ev=0:=bR.2 hp;have hs1:aG (ay pg n f bk ev)<=1024:=(lL hp).2;have hck:bq ⟨pg,n,f,bk,ev,nn,a,K,false⟩=0:=fw.2 hok;have HZ:pJ ⟨pg,n,f,bk,ev,nn,a,K,false⟩=aG (ay pg n f bk ev):=by unfold pJ;rw [if_pos hz]
 have HK:=ae (λW h=>iC ⟨pg,n,f,bk,ev,nn,a,K,false⟩ A cap W (by simp only;omega) hcm h);have nV:=ae (λW h=>qy ⟨pg,n,f,bk,ev,nn,a,K,false⟩ A cap W h jC);have hcf:lT pg n f bk ev=(aG (ay pg n f bk ev),n - aG (ay pg n f bk ev)):=by unfold lT;rw [if_pos hz]
 have yN:=ae (λW=>vY pg n f bk ev W);rw [hcf,hz] at yN;simp only at yN;have Br:Go.Pol.Can (bJ (a:Int) (t:Int)):=mF zo zo;have hmA:∀k:Nat,k<1024->nW K a t k=mem (k:Int) (az (bJ (a:Int) (t:Int)) (aZ K (0,1024))):=λk _=>X6 jC Br k
 have hMo:Go.Pol.Can (az (bJ (a:Int) (t:Int)) (aZ K (0,1024))):=qo Br jC;have Zv:rW K a (t - a)=aG (az (bJ (a:Int) (t:Int)) (aZ K (0,1024))):=by
  have h:=XV jC (a:=a) (d:=t - a) zo (by rw [show a+(t - a)=t by omega];exact Br);rw [show a+(t - a)=t by omega] at h;exact h
 have hin:∀k,mem k (az (bJ (a:Int) (t:Int)) (aZ K (0,1024)))=true->k<aG (ay pg n f bk ev):=λk h=>by
  rw [FM jC Br,Bool.and_eq_true,Bool.and_eq_true,decide_eq_true_eq,decide_eq_true_eq] at h;omega
 have wB:=X7 (V:=V) (L:=L) (r:=⟨pg,n,f,bk,ev,nn,a,K,false⟩) (tt:=t) hck rfl (by rw [HZ];simp only;omega) rfl rfl rfl;rw [afC jC (live:=(a:Int)) (tt:=(t:Int)) zo hlow] at wB;obtain ⟨G,hG⟩:=ah (dh V L ⟨pg,n,f,bk,ev,nn,a,K,false⟩ t);rw [hG] at wB ⊢;clear hG;simp only [Int.toNat_natCast] at wB;have hset:∀f':Nat->Bool,(∀k:Nat,k<1024->f' k=mem (k:Int) (az (bJ (a:Int) (t:Int)) (aZ K (0,1024))))->ji (pG (ay pg n f bk ev) f' 1024)=jf (bW (az (bJ (a:Int) (t:Int)) (aZ K (0,1024))) 0 (ay pg n f bk ev)):=λf' h=>Ol hMo hs1 (bN hp).1 (bN hp).2 h
 have hall:=(Dh hMo hp).1;have Af:=Bb hMo hp;have hlen:=Kh hMo hp hin;have hsum:=Ez K (a:Int) (t - a);rw [Zv] at hsum;have HG:=ae (λW h=>PW B bb nn (aG (az (bJ (a:Int) (t:Int)) (aZ K (0,1024)))) L W h hO hnl);have XA:=uX hO hnl (aG (az (bJ (a:Int) (t:Int)) (aZ K (0,1024))));have hcL:=xZ L nn (aG (az (bJ (a:Int) (t:Int)) (aZ K (0,1024))));generalize az (bJ (a:Int) (t:Int)) (aZ K (0,1024))=M at *;obtain ⟨RL,Qv⟩:=ah (ay pg n f bk ev);obtain ⟨R,hR⟩:=ah (bW M 0 RL);have wY:=ae (λ(W:World) (v:Value) (cs:Array Value) (hM:bC cs (nW K a t))=>K6 ⟨pg,n,f,bk,ev,nn,a,K,false⟩ v cs (nW K a t) W hM hz);simp only at wY;rw [hset _ hmA,Qv,hR] at wY;have X8:=ae (λ(W:World) (v:Value) (cs:Array Value) (g:Nat->Bool) (x:iO) (hM:bC cs g) (hx:Fv 0 RL x)=>Ey ⟨pg,n,f,bk,ev,nn,a,K,false⟩ v cs g x true W hM hz (by simp only;rw [Qv];exact hx) hs1);rw [Qv] at wB hall hlen hs1 htu yN Af;rw [hR] at wB hall hlen Af;have Qw:=ae hall;have Oo:=ae Af;have anF:Hid (dU R=aG M):=ae hlen;obtain ⟨sm,hsm⟩:=ah (aG M);rw [hsm] at wB HG XA hcL Zv hsum;have asA:=ae hsm;have afJ:=ae Zv;obtain ⟨CH,hCH⟩:=ah (iZ L nn sm);rw [hCH] at HG XA hcL wB;obtain ⟨ce,cL⟩:=CH;simp only at HG XA hcL wB;have asB:=ae XA;have asC:=ae hcL;have asD:=ae jC;clear Af hset hmA hcf hCH hsm Zv hlen hall Qv hR HZ hok hMo Br hlow hp hin XA hcL;rw [hck] at HK;rw [hm] at HK nV;have hm':=ae hm;have hb0:=below_alloc2 (aQ w (.cells (aj ⟨pg,n,f,bk,ev,(nn:Int),(a:Int),K,false⟩ (.slice A m cap)) 28)) (.cells (aj bD zN) 28);have k0:=(af.new w 28 (aj ⟨pg,n,f,bk,ev,(nn:Int),(a:Int),K,false⟩ (.slice A m cap))).dV (.cells (aj bD zN) 28);have kR:=af.oG w (.cells (aj ⟨pg,n,f,bk,ev,(nn:Int),(a:Int),K,false⟩ (.slice A m cap)) 28) 28 (aj bD zN);have hr0:=ae (hr.on hb0);dsimp only [aj,bD] at k0 hb0 kR hr0 HK ⊢;have kZ:=ae hk;dsimp only [aj] at nV wY X8;have hBr:=ae hB;have X9:=ae hV;have asE:=ae X8;have d2:decide ((t:Int)<(a:Int))=false:=by rw [decide_eq_false_iff_not];omega
 have d3:decide (aG RL<(t:Int))=false:=by rw [decide_eq_false_iff_not];omega
 have hZs:=ik;obtain ⟨us,akQ⟩:=ah (aG RL);rw [akQ] at d3 yN hs1 htu;clear hr hk hm hB hV akQ X8;go_enter func36,ntmps36;go_wp2_with fail;refine (HK.out _ hr0.out).zr λw1 hb1=>?_
 obtain ⟨k1,aT⟩:=bY hb1 k0 kR;have B1:=hb0.zt hb1;have hr1:=hr0.out.on hb1;obtain ⟨c1,jw⟩:=bB k1 aT;have jy:=aT.frozen;clear HK k0 kR hb0 hr0 hb1;go_wp2_with fail;refine (yN.out _).zr λw2 hb2=>?_
 obtain ⟨k2,cK⟩:=bY hb2 k1 aT;have B2:=B1.zt hb2;have hr2:=hr1.on hb2;have c2:=k2.cell;have hbM:=aQ w2 (.cells zeroCells189 189);have kM:=af.new w2 189 zeroCells189;obtain ⟨k3,fC⟩:=bY hbM k2 cK;have B3:=B2.zt hbM;have hr3:=hr2.on hbM;obtain ⟨mo,hmo⟩:=ah (w2.heap.size);have hwm:w.heap.size+2<=mo:=by have:=cK.lt;omega
 rw [hmo] at kM;clear k1 aT B1 c1 jw jy hr1 hb2 yN cK B2 hr2 hbM k2;go_upto_region 10 with fail
 try simp only [hmo]
 generalize w2.alloc _=w3 at *;have c3:=k3.cell;clear c2 hmo;go_wp2_with fail;refine (nV.out _ hr3).mono ?_;rintro e w4 ⟨cs,rfl,nE,hb4⟩;have hb5:=aQ w4 (.cells zeroCells189 189);have kH:=af.new w4 189 zeroCells189;have k4:=(k3.call hb4).call hb5;have dX:=(fC.call hb4).call hb5;have kM4:=(kM.call hb4).call hb5;have B4:=(B3.zt hb4).trans (hb5.mono (by have:=B3.size;have:=hb4.size;omega));have Ya:=hZs.size;have hsz:=nE.size;have hone:=nE.one;obtain ⟨dd,hd⟩:=ah (w4.heap.size);have hwd:mo<dd:=by have h1:=kM.lt;have h2:=hb4.size;omega
 rw [hd] at kH;clear hb5 hb4 k3 fC B3 kM c3 hr3 nV;go_upto_region 11 with (refine wpList_store_mid rfl 189 (.tmp 15) (.tmp 49) rfl dd 0 cs rfl rfl (lN cs _ _ dd hsz Ya kH).2.2 (by rw [hsz];kernel_rfl) hone ?_)
 obtain ⟨yh,F2,_⟩:=lN cs _ _ dd hsz Ya kH;have k5:=F2.blk k4 zo;have nA:=F2.blk dX zo;have kM5:=F2.blk kM4 zo;have B5:=B4.trans (F2.below (by have:=B4.size;omega) (λk hk e=>by omega));generalize (w4.alloc _).setCells dd 0 cs.toList=w5 at *;generalize zeroCells189=Z at *;clear kH k4 dX kM4 B4 F2 hone Ya hsz hd;have akR:bC Z (nW K a a):=hZs.congr (λp _=>by
  symm;unfold nW;rw [Bool.and_eq_false_iff,Bool.and_eq_false_iff,decide_eq_false_iff_not,decide_eq_false_iff_not];exact .inl zo)
 have c5:=k5.cell;go_wp2_with fail
 go_loopw [16,17] (λv16 v17 wr=>∃(i:Nat) (mm:Int) (ps:Array Value),v17 = zI i/\v16 = zI mm/\Hid (mm=rW K a (i - a))/\0<=mm/\mm<=i/\a<=i/\i<=t/\af wr w.heap.size 28 (aj ⟨pg,n,f,bk,ev,nn,a,K,false⟩ (.slice A m cap))/\af wr (w.heap.size+1) 28 (aj bD zN)/\af wr dd 189 cs/\af wr mo 189 ps/\bC ps (nW K a i)/\Below w.heap.size w wr) (λ_ v _=>t - (intOf v).toNat)
 case atStart=>exact ⟨a,0,Z,rfl,rfl,ae (by rw [Nat.sub_self];rfl),Int.le_refl _,zo,Nat.le_refl _,hat,k5,nA,yh,kM5,akR,B5⟩
 case round =>
  clear c5 k5 nA yh kM5 akR B5 hZs;obtain ⟨i,mm,ps,rfl,rfl,hmm,hm0,hm1,hai,hit,k6,oK,Bz,kM6,hP,B6⟩:=hrel;dsimp only [aj,bD] at k6 oK;by_cases hit2:i<t
  ·have d1:decide ((i:Int)<(t:Int))=true:=by rw [decide_eq_true_eq];omega
   have hi:i<1024:=zo;have q0:=(Bz.cell i).trans (nE.at_ i hi);cases hmem:mem (i:Int) K with
   | true =>
    rw [hmem] at q0;have hP2:=hP.congr (g:=nW K a (i+1)) (λp _=>by
     rw [Ay K hai];by_cases e:p=i
     ·subst e
      rw [if_pos rfl,hmem];unfold nW;rw [hmem];simp
     ·rw [if_neg e])
    have afK:Hid (mm=rW K a (i+1 - a)):=ae (by
     rw [show i+1 - a=(i - a)+1 by omega,Av,show (a:Int)+((i - a:Nat):Int)=i by omega,if_pos hmem,<-hmm.out];omega)
    clear hmem hmm hP;go_wp2_with fail;go_roundw
    case rel=>exact ⟨i+1,mm,ps,by go_num,rfl,afK,hm0,zo,zo,zo,k6,oK,Bz,kM6,hP2,B6⟩
    case measure=>exact zm
   | false =>
    rw [hmem] at q0;have hold:=(kM6.cell i).trans (hP.at_ i hi);have fM:=kM6.frozen;have hM2:=ae (hP.set (g:=nW K a (i+1)) i hi true (by rw [Ay K hai,if_pos rfl,hmem];rfl) (λj hj=>by rw [Ay K hai,if_neg hj]));generalize nW K a i i=b0 at hold;have afK:Hid (mm+1=rW K a (i+1 - a)):=ae (by
     rw [show i+1 - a=(i - a)+1 by omega,Av,show (a:Int)+((i - a:Nat):Int)=i by omega,if_neg (by rw [hmem];simp),<-hmm.out])
    have F:ag (λk=>k=mo) wr (wr.setCell ⟨mo,i,none⟩ (.bool true)):=ag.setCell (T:=λk=>k=mo) (p:=⟨mo,i,none⟩) (ag.refl _ _) (λ_=>rfl) _;have sF:=B6.size;clear hmem hmm hP;go_wp2_with fail;go_roundw
    case rel=>exact ⟨i+1,mm+1,_,by go_num,by go_num,afK,zo,zo,zo,zo,F.blk k6 zo,F.blk oK zo,F.blk Bz zo,kM6.aM i (.bool true),hM2.out,B6.trans (F.below zo (λk hk e=>by omega))⟩
    case measure=>exact zm
  obtain rfl:t=i:=zo;have d1:decide ((t:Int)<(t:Int))=false:=by rw [decide_eq_false_iff_not];omega
  have Ta:sm=mm:=(afJ.out.symm.trans hmm.out.symm);subst Ta;have c6:=k6.cell;have hV6:=X9.out.call B6;clear hit2 hmm afJ;go_wp2_with fail;refine (HG.out _ (hBr.out.call B6)).zr λw7 h7=>?_
  have S7:=bO.mU hV6 h7;have T7:=(bO.below X9.out hBr.out B6).trans S7;have k7:=S7.blk hV6 k6 zd zd;have Qq:=S7.blk hV6 oK zd zd;have Uf:=S7.blk hV6 Bz zd zd;have kM7:=S7.blk hV6 kM6 zd zd;obtain ⟨c7,cR7⟩:=bB k7 Qq;have fR7:=Qq.frozen;clear h7 S7 hV6 k6 oK Bz kM6 B6 c6 HG;by_cases hce:ce=0
  case neg =>
   have h0':=gJ hce;rw [if_pos hce] at wB;subst wB;clear hce;go_wp2_with fail;change bodyPost _ _ _ _ _ (aP w7 (w.heap.size+1) ⟨pg,n,f,bk,ev,nn,a,K,false⟩ (.slice A m cap));have aX:=aK Qq ⟨pg,n,f,bk,ev,nn,a,K,false⟩ (.slice A m cap);have F9:=aL w7 (w.heap.size+1) ⟨pg,n,f,bk,ev,nn,a,K,false⟩ (.slice A m cap);generalize aP w7 (w.heap.size+1) ⟨pg,n,f,bk,ev,nn,a,K,false⟩ (.slice A m cap)=w9 at *;dsimp only [aj] at aX;have di:=aX.cell;refine bodyPost_ret (v:=.tuple #[.agg (aj ⟨pg,n,f,bk,ev,nn,a,K,false⟩ (.slice A m cap)),zI ce]) (by simp [results,results36,go_sem,di,aj]) rfl ?_;have T9:=T7.fresh F9 hlt (λk hk=>by subst hk;omega) (λk hk=>by subst hk;exact ⟨_,_,Qq,zd,zd⟩);exact ⟨_,rfl,⟨A,cap,by rw [hm'.out],by rw [hm'.out];exact hcap,hcm,T9.kept X9.out kZ.out⟩,T9⟩
  subst hce;rw [if_neg zs] at wB;have Ut:=hP.size;have Uu:=ae (λW=>wY.out W (.slice A m cap) ps hP);clear wY hP
  go_wp2_with (refine wpList_load_mid rfl 189 (.tmp 14) rfl mo 0 rfl ps.toList _ (dZ kM7) underlying189 rfl (by rw [Array.length_toList,Ut];kernel_rfl) ?_;rw [Array.toArray_toList])
  refine (Uu.out _).mono ?_;rintro e w8 ⟨Ar,asI,rfl,hkR,hlR,hcR,rU⟩;have T8:=T7.aU rU;obtain ⟨k8,Qr,MR⟩:=mY rU k7 Qq Uf;clear T7 k7 Qq Uf kM7 c7 cR7 fR7 Uu rU Ut;have hpl:=Az R;have G5:=ae hpl;obtain ⟨rl,hrl⟩:=ah (R.length);rw [hpl,hrl] at hlR ⊢;have G6:=ae hrl;have hrm:rl<=maxLen:=zo;unfold maxLen at hrm;obtain ⟨CC,hCC⟩:∃C,jN R [] V=C:=⟨_,rfl⟩;rw [hCC] at wB;have asJ:=ae hCC;have afM:=ae wB;have hsR:Hid (dU R=sm):=ae (anF.out.trans asA.out);have afN:=ae nE;clear hpl hrl hCC wB nE;go_wp2_with fail
  go_loopw [10,16,19] (λv10 v16 v19 wr=>∃(i:Nat) (z0:Int) (Vi:Vm),v10 = zI z0/\v16 = zI sm/\v19 = zI i/\i<=rl/\Hid (jN (R.drop i) (R.take i) Vi=CC)/\af wr w.heap.size 28 (aj ⟨pg,n,f,bk,ev,nn,a,K,false⟩ (.slice A m cap))/\af wr (w.heap.size+1) 28 (aj bD zN)/\af wr dd 189 cs/\bO B bs bb Vi cL w wr/\KeptAt wr Ar (jf R)) (λ_ _ v _=>rl - (intOf v).toNat)
  case atStart=>exact ⟨0,0,V,rfl,rfl,rfl,zo,ae (by rw [List.drop_zero,List.take_zero];exact asJ.out),k8,Qr,MR,T8,hkR⟩
  case round =>
   clear k8 Qr MR T8 hkR;obtain ⟨i,z0,Vi,rfl,rfl,rfl,hi,hcm2,k9,aX,Qx,T9,oV⟩:=hrel;dsimp only [aj,bD] at k9 aX;by_cases hir:i<rl
   ·have d1:decide ((i:Int)<(rl:Int))=true:=by rw [decide_eq_true_eq];omega
    obtain ⟨rb,ro,rfl,hrb,q5,q6⟩:=oV.ru.at_' (k:=i) (by rw [G5.out,G6.out];exact hir);rw [ma] at q5 q6;have Mv:i<R.length:=by rw [G6.out];exact hir
    have htk:=nK (0,0,0) R Mv;have Ae:=hcm2.out;rw [Go.Pol.drop_cons (0,0,0) R i Mv] at Ae;generalize R.getD i (0,0,0)=x at *;have hA:Hid ((bK Vi x.1 x.2.1 2 1 2).1=0->jN (R.drop (i+1)) (R.take (i+1)) (bK Vi x.1 x.2.1 2 1 2).2=CC):=ae (λh=>by rw [<-Ae,afD h,htk]);have hNo:Hid ((bK Vi x.1 x.2.1 2 1 2).1≠0->((bK Vi x.1 x.2.1 2 1 2).1,(bK Vi x.1 x.2.1 2 1 2).2,R.take i)=CC):=ae (λh=>by rw [<-Ae,afE h]);obtain ⟨xa,xb,xn⟩:=x;simp only at q5 q6 hA hNo;have e1:=λx:Ext wr=>x.cell q5
    have e2:=λx:Ext wr=>x.cell q6
    clear htk Ae Mv;go_upto_region 25 with fail
    refine df 11 zk zk ?_;simp only [List.take_succ_cons,List.take_zero,List.drop_succ_cons,List.drop_zero]
    repeat (go_big_quiet_step (fail))
    refine wpQuiet_nil ?_;intro z;have Tz:=T9.aU z.le;have kz:=k9.call z.le;have EA:=aX.call z.le;have Lc:=Qx.call z.le;have hkz:=oV.call z.le;have HD:=ae (Py B bs xa xb Vi z.w Tz.sys);clear q5 q6 e1 e2 T9 k9 aX Qx oV;go_wp2_with fail;refine HD.out.zr λw9 h9=>?_
    have S9:=bO.iX Tz.sys Tz.eO h9;have wo:=Tz.trans S9;have k10:=S9.blk Tz.sys kz zd zd;have lJ:=S9.blk Tz.sys EA zd zd;have afO:=S9.blk Tz.sys Lc zd zd;have hk10:=S9.kept Tz.sys hkz;clear h9 S9 Tz kz EA Lc hkz HD;obtain ⟨J,hJ⟩:=ah (bK Vi xa xb 2 1 2);rw [hJ] at hA hNo wo;simp only [hJ];obtain ⟨je,jV⟩:=J;simp only at hA hNo wo ⊢;clear hJ;by_cases hj:je=0
    ·subst hj
     have hA2:=ae (hA.out rfl);clear hA hNo;go_wp2_with fail;go_roundw
     case rel=>exact ⟨i+1,_,jV,rfl,rfl,by go_num,zo,hA2,k10,lJ,afO,wo,hk10⟩
     case measure=>exact zm
    have hj':=lV hj;have hG2:=afM.out;rw [<-hNo.out hj,if_neg hj] at hG2;simp only at hG2;obtain ⟨U,hU⟩:=ah (((R.take i).reverse).foldl dK (jV,K,sm));rw [hU] at hG2;have hUH:=ae hU;have hsi:dU (R.take i)<=sm:=by
     have h1:=hsR.out;rw [<-List.take_append_drop i R,qH] at h1;have h2:=uE (R.drop i) (λy hy=>Oo.out y (List.mem_of_mem_drop hy));omega
    have akS:=ae hG2;have c10:=k10.cell;clear hU hG2 hA hNo hj;go_wp2_with fail;clear c10
    go_loopw [16,20] (λv16 v20 wr=>∃(c:Nat) (y mk:Int) (Vk:Vm) (Kk:List Sp) (Qy:Array Value),v20 = zI y/\y=(c:Int) - 1/\v16 = zI mk/\c<=i/\dU (R.take c)<=mk/\mk<=5000/\Hid (((R.take c).reverse).foldl dK (Vk,Kk,mk)=U)/\Go.Pol.Can Kk/\af wr w.heap.size 28 (aj ⟨pg,n,f,bk,ev,nn,a,K,false⟩ (.slice A m cap))/\af wr (w.heap.size+1) 28 (aj bD zN)/\af wr dd 189 Qy/\Hid (bC Qy (λk=>mem (k:Int) Kk))/\bO B bs bb Vk cL w wr/\KeptAt wr (some ⟨rb,ro,none⟩) (jf R)) (λ_ v _=>(intOf v+1).toNat)
    case atStart=>exact ⟨i,_,sm,jV,K,cs,rfl,rfl,rfl,Nat.le_refl _,hsi,zo,hUH,asD.out,k10,lJ,afO,afN,wo,hk10⟩
    case round =>
     clear k10 lJ afO wo hk10;obtain ⟨c,y,mk,Vk,Kk,Qy,rfl,hy,rfl,hci,hs0,hs5,hUk,TK,k11,Ci,AA,xw,EB,afP⟩:=hrel;dsimp only [aj,bD] at k11 Ci;cases c with
     | zero =>
      obtain rfl:y = -1:=zo;have yL:=hUk.out;rw [List.take_zero,List.reverse_nil,List.foldl_nil] at yL;have hG3:=akS.out;rw [<-yL] at hG3;simp only at hG3;have Uv:=ae (λW h=>Dm B bb nn mk cL W h asB.out (by rw [asC.out];exact hnl));obtain ⟨GV,hGV⟩:=ah (jb cL nn mk);rw [hGV] at Uv hG3;have hKs:=ae (Un TK);have c11:=k11.cell;subst hG3;clear hGV yL hy hUk akS hs0 hs5;go_wp2_with fail;refine (Uv.out _ EB.eO).zr λXK h12=>?_
      have Uw:=bO.mU EB.sys h12;have qx:=EB.trans Uw;have k12:=Uw.blk EB.sys k11 zd zd;have AB:=Uw.blk EB.sys Ci zd zd;have yD:=Uw.blk EB.sys AA zd zd;have xx:=xw.out.size;have pF:=lq Qy _ XK xw.out;rw [hKs.out] at pF;clear h12 Uw EB k11 Ci AA c11 Uv
      go_wp2_with (refine wpList_load_mid rfl 189 (.tmp 15) rfl dd 0 rfl Qy.toList _ (dZ yD) underlying189 rfl (by rw [Array.length_toList,xx];kernel_rfl) ?_;rw [Array.toArray_toList])
      refine pF.mono ?_;rintro e wq ⟨Aq,cq,rfl,hkq,hlq,hcq,hbq⟩;obtain ⟨kq,Bw⟩:=bY hbq k12 AB;have Tq:=qx.aU hbq;obtain ⟨cqx,cRq⟩:=bB kq Bw;obtain ⟨fqx,fRq⟩:=tu kq Bw;clear k12 AB yD qx pF xw;go_wp2_with fail;change bodyPost _ _ _ _ _ (aP (wq.setCell ⟨w.heap.size,7,none⟩ (.slice Aq Kk.length cq)) (w.heap.size+1) ⟨pg,n,f,bk,ev,nn,a,Kk,false⟩ (.slice Aq Kk.length cq));have aX:=aK (Bw.far (p:=⟨w.heap.size,7,none⟩) (by show w.heap.size+1≠w.heap.size;omega) (.slice Aq Kk.length cq)) ⟨pg,n,f,bk,ev,nn,a,Kk,false⟩ (.slice Aq Kk.length cq);have F9:=aL (wq.setCell ⟨w.heap.size,7,none⟩ (.slice Aq Kk.length cq)) (w.heap.size+1) ⟨pg,n,f,bk,ev,nn,a,Kk,false⟩ (.slice Aq Kk.length cq);generalize aP (wq.setCell ⟨w.heap.size,7,none⟩ (.slice Aq Kk.length cq)) (w.heap.size+1) ⟨pg,n,f,bk,ev,nn,a,Kk,false⟩ (.slice Aq Kk.length cq)=w9 at *;dsimp only [aj] at aX;have di:=aX.cell;refine bodyPost_ret (v:=.tuple #[.agg (aj ⟨pg,n,f,bk,ev,nn,a,Kk,false⟩ (.slice Aq Kk.length cq)),zI je]) (by simp [results,results36,go_sem,di,aj]) rfl ?_;have F6:=((ag.refl (λk=>k=w.heap.size\/k=w.heap.size+1) wq).setCell (p:=⟨w.heap.size,7,none⟩) (λ_=>.inl rfl) (.slice Aq Kk.length cq)).trans (F9.mono (λk _ hk=>.inr hk));exact afv
     | succ c =>
      obtain rfl:y=(c:Int):=zo;have d1:decide ((0:Int)<=(c:Int))=true:=by rw [decide_eq_true_eq];omega
      have hcR:c<R.length:=by rw [G6.out];omega
      obtain ⟨rb',ro',he',axC,q5,q6⟩:=afP.ru.at_' (k:=c) (by rw [G5.out];exact hcR);cases he';rw [ma] at q5 q6;have yL:=hUk.out;rw [XY R c hcR] at yL;have htk:=nK (0,0,0) R hcR;rw [htk,qH] at hs0;have hxm:R.getD c (0,0,0)∈R:=by rw [List.getD_eq_getElem?_getD,List.getElem?_eq_getElem hcR];exact List.getElem_mem hcR
      have hrun:=(Qw.out _ hxm).1;have kK:=Oo.out _ hxm;obtain ⟨x,Yb⟩:=ah (R.getD c (0,0,0));rw [Yb] at q5 q6 kK hrun htk hs0 yL;obtain ⟨xa,xb,xn⟩:=x;have Es:=ae Yb;simp only at q5 q6 kK;have asK:dU [((xa,xb,xn):iO)]=xb:=by simp [dU]
      rw [asK] at hs0;have oq:=Can.one kK;have wH:=av.1 kK;simp only at wH;have hsp:=uE (R.take c) (λy hy=>Oo.out y (List.mem_of_mem_take hy));have hU3:(List.take c R).reverse.foldl dK (if (bK Vk xa xb 3 2 1).1≠0 then ((bK Vk xa xb 3 2 1).2,setOf (Kk++[(xn,xb)]),mk - xb) else ((bK Vk xa xb 3 2 1).2,Kk,mk))=U:=yL;have Zw:=ae hU3;have e1:=λx:Ext wr=>x.cell q5
      have e2:=λx:Ext wr=>x.cell q6
      clear yL hU3 htk hy hUk hxm Yb;go_upto_region 30 with fail
      refine df 11 zk zk ?_;simp only [List.take_succ_cons,List.take_zero,List.drop_succ_cons,List.drop_zero]
      repeat (go_big_quiet_step (fail))
      refine wpQuiet_nil ?_;intro z;have Tz:=EB.aU z.le;have kz:=k11.call z.le;have EA:=Ci.call z.le;have Lc:=AA.call z.le;have hkz:=afP.call z.le;have HD:=ae (um B bs xa xb Vk z.w Tz.sys);clear q5 q6 e1 e2 EB k11 Ci AA afP;go_wp2_with fail;refine HD.out.zr λw9 h9=>?_
      have S9:=bO.iX Tz.sys Tz.eO h9;have qx:=Tz.trans S9;have k12:=S9.blk Tz.sys kz zd zd;have AB:=S9.blk Tz.sys EA zd zd;have yD:=S9.blk Tz.sys Lc zd zd;have sj:=S9.kept Tz.sys hkz;clear h9 S9 Tz kz EA Lc hkz HD;obtain ⟨J,hJ⟩:=ah (bK Vk xa xb 3 2 1);rw [hJ] at Zw qx;simp only [hJ];obtain ⟨ke,kV⟩:=J;simp only at Zw qx ⊢;have hU4:=Zw.out;clear hJ Zw;by_cases hj2:ke=0
      ·subst hj2
       rw [if_neg zs] at hU4;have hU5:=ae hU4;clear hU4;go_wp2_with fail;go_roundw
       case rel=>exact ⟨c,_,mk,kV,Kk,Qy,rfl,rfl,rfl,zo,zo,hs5,hU5,TK,k12,AB,yD,xw,qx,sj⟩
       case measure=>(simp [intOf];try omega)
      have hj3:=gJ hj2;rw [if_pos hj2] at hU4;have hU5:=ae hU4;obtain ⟨g5,o5,Yc,hg5,q5,q6⟩:=sj.ru.at_' (k:=c) (by rw [G5.out];exact hcR);cases Yc;rw [ma,Es.out] at q5 q6;simp only at q5 q6;have e0:=λx:Ext w9=>(x.blk k12).cell
      have e1:=λx:Ext w9=>x.cell q5
      have e2:=λx:Ext w9=>x.cell q6
      have xx:=xw.out.size;have hld:=λzz:Ext w9=>run_loadVar_mid (P:=prog) zz.w dd 0 189 Qy.toList _ (dZ (zz.blk yD)) underlying189 rfl (by rw [Array.length_toList,xx];kernel_rfl)
      simp only [Array.toArray_toList] at hld;have HMx:=ae (λW=>asE.out W (.slice A m cap) Qy (λk=>mem (k:Int) Kk) (xa,xb,xn) xw.out hrun);have EC:=ae hld;clear hU4 hj2 hld;go_upto_region 31 with fail
      refine df 6 zk zk ?_;simp only [List.take_succ_cons,List.take_zero,List.drop_succ_cons,List.drop_zero];go_big_quiet_step (fail);refine l9 (.tmp 15) 189 ⟨dd,0,none⟩ (.agg Qy) rfl rfl rfl (by rintro _ ⟨zz,rfl⟩;exact EC.out zz) ?_;simp only [Act.put,List.setIfInBounds_toArray,List.set_cons_zero,List.set_cons_succ]
      repeat (go_big_quiet_step (fail))
      refine wpQuiet_nil ?_;intro z2;have Ql:=qx.aU z2.le;have k13:=k12.call z2.le;have Ux:=AB.call z2.le;have Oq:=yD.call z2.le;have yC:=sj.call z2.le;clear q5 q6 e0 e1 e2 qx k12 AB yD sj EC;go_wp2_with fail;refine (HMx.out _).mono ?_;rintro e Qk ⟨cs',rfl,Zx,KY⟩;have Dr:=Ql.aU KY;obtain ⟨k14,Uy,G7,Am⟩:=vO KY k13 Ux Oq yC;have Yd:=Zx.size;have ahM:=Zx.one;clear Ql k13 Ux Oq yC KY HMx;go_upto_region 32 with (refine wpList_store_mid rfl 189 (.tmp 15) (.tmp 122) rfl dd 0 cs' rfl rfl (lN cs' _ _ dd Yd xx G7).2.2 (by rw [Yd];kernel_rfl) ahM ?_)
      obtain ⟨Ld,Le,_⟩:=lN cs' _ _ dd Yd xx G7;have k15:=Le.blk k14 zo;have Zy:=Le.blk Uy zo;have KZ:=Dr.fresh Le hlt (λk hk=>by subst hk;omega) (λk hk=>by subst hk;exact ⟨_,_,G7,zd,zd⟩);have Ao:=Am.far Le (λg cs hg e=>by have e:g=dd:=e;subst e;exact G7.ne hg zd);generalize Qk.setCells dd 0 cs'.toList=w15 at *;clear Dr k14 Uy G7 Am Le;obtain ⟨g5,o5,Yc,hg5,q5,q6⟩:=Ao.ru.at_' (k:=c) (by rw [G5.out];exact hcR);cases Yc;rw [ma,Es.out] at q5 q6;simp only at q5 q6;have Ot:=ae (Zx.congr (λj _=>XW TK oq j));clear Zx;go_wp2_with fail;go_roundw
      case rel=>exact ⟨c,_,mk - xb,kV,_,cs',rfl,by go_num,by go_num,zo,zo,zo,hU5,nO _,k15,Zy,Ld,Ot,KZ,Ao⟩
      case measure=>(simp [intOf];try omega)
   ·obtain rfl:i=rl:=zo
    have d1:decide ((i:Int)<(i:Int))=false:=by rw [decide_eq_false_iff_not];omega
    have hG2:=afM.out;have hC2:=hcm2.out;rw [List.drop_of_length_le (by rw [G6.out];omega),List.take_of_length_le (by rw [G6.out];omega)] at hC2;rw [<-hC2] at hG2;rw [show jN [] R Vi=(0,Vi,R) from rfl,if_pos rfl] at hG2;simp only at hG2;obtain ⟨SA,Bj⟩:=ah (ji (dz (λj=>mem (j:Int) K) (a:Int) (t:Int) false));rw [Bj] at hG2;have afy:=ae Bj;have hMa:bC cs (dz (λj=>mem (j:Int) K) (a:Int) (a:Int) false):=afN.out.congr (λk hk=>by unfold dz;rw [if_neg zo]);subst hG2;have c9:=k9.cell;clear Bj hC2 hcm2 afM oV;go_wp2_with fail;clear c9
    go_loopw [21] (λv21 wr=>∃(j:Nat) (csj:Array Value),v21 = zI j/\a<=j/\j<=t/\af wr w.heap.size 28 (aj ⟨pg,n,f,bk,ev,nn,a,K,false⟩ (.slice A m cap))/\af wr (w.heap.size+1) 28 (aj bD zN)/\af wr dd 189 csj/\Hid (bC csj (dz (λj=>mem (j:Int) K) (a:Int) (j:Int) false))/\bO B bs bb Vi cL w wr) (λv _=>t - (intOf v).toNat)
    case atStart=>exact ⟨a,cs,rfl,Nat.le_refl _,hat,k9,aX,Qx,ae hMa,T9⟩
    case round =>
     clear k9 aX Qx T9 hMa afN;obtain ⟨j,csj,rfl,haj,hjt,k11,Ci,AA,xw,EB⟩:=hrel;dsimp only [aj,bD] at k11 Ci;by_cases hj2:j<t
     ·have d1:decide ((j:Int)<(t:Int))=true:=by rw [decide_eq_true_eq];omega
      have hj:j<1024:=zo;have hold:=(AA.cell j).trans (xw.out.at_ j hj);have fH:=AA.frozen;have asN:=ae (xw.out.set (g:=dz (λj=>mem (j:Int) K) (a:Int) ((j+1:Nat):Int) false) j hj false (by rw [ko _ _ j false zo,if_pos rfl]) (λq hq=>by rw [ko _ _ j false zo,if_neg hq]));generalize dz (λj=>mem (j:Int) K) (a:Int) (j:Int) false j=b0 at hold;have F:ag (λk=>k=dd) wr (wr.setCell ⟨dd,j,none⟩ (.bool false)):=ag.setCell (T:=λk=>k=dd) (p:=⟨dd,j,none⟩) (ag.refl _ _) (λ_=>rfl) _;have qx:=EB.fresh F hlt (λk hk=>by subst hk;omega) (λk hk=>by subst hk;exact ⟨_,_,AA,zd,zd⟩);clear EB xw;go_wp2_with fail;go_roundw
      case rel=>exact ⟨j+1,_,by go_num,zo,zo,F.blk k11 zo,F.blk Ci zo,AA.aM j (.bool false),asN,qx⟩
      case measure=>exact zm
     obtain rfl:j=t:=zo;have d1:decide ((j:Int)<(j:Int))=false:=by rw [decide_eq_false_iff_not];omega
     have xx:=xw.out.size;have pF:=lq csj _ wr xw.out;rw [afy.out] at pF
     go_wp2_with (refine wpList_load_mid rfl 189 (.tmp 15) rfl dd 0 rfl csj.toList _ (dZ AA) underlying189 rfl (by rw [Array.length_toList,xx];kernel_rfl) ?_;rw [Array.toArray_toList])
     refine pF.mono ?_;rintro e wq ⟨Aq,cq,rfl,hkq,hlq,hcq,hbq⟩;obtain ⟨kq,Bw⟩:=bY hbq k11 Ci;have Tq:=EB.aU hbq;obtain ⟨cqx,cRq⟩:=bB kq Bw;obtain ⟨fqx,fRq⟩:=tu kq Bw;have F4:=((ag.refl (λk=>k=w.heap.size\/k=w.heap.size+1) wq).setCell (p:=⟨w.heap.size,6,none⟩) (λ_=>.inl rfl) (zI j)).setCell (p:=⟨w.heap.size,7,none⟩) (λ_=>.inl rfl) (.slice Aq SA.length cq);have oK:=(Bw.far (p:=⟨w.heap.size,6,none⟩) (by show w.heap.size+1≠w.heap.size;omega) (zI j)).far (p:=⟨w.heap.size,7,none⟩) (by show w.heap.size+1≠w.heap.size;omega) (.slice Aq SA.length cq);clear k11 Ci AA EB pF xw;go_wp2_with fail;change bodyPost _ _ _ _ _ (aP ((wq.setCell ⟨w.heap.size,6,none⟩ (zI j)).setCell ⟨w.heap.size,7,none⟩ (.slice Aq SA.length cq)) (w.heap.size+1) ⟨pg,n,f,bk,ev,nn,j,SA,false⟩ (.slice Aq SA.length cq));have aX:=aK oK ⟨pg,n,f,bk,ev,nn,j,SA,false⟩ (.slice Aq SA.length cq);have F9:=aL ((wq.setCell ⟨w.heap.size,6,none⟩ (zI j)).setCell ⟨w.heap.size,7,none⟩ (.slice Aq SA.length cq)) (w.heap.size+1) ⟨pg,n,f,bk,ev,nn,j,SA,false⟩ (.slice Aq SA.length cq);generalize aP ((wq.setCell ⟨w.heap.size,6,none⟩ (zI j)).setCell ⟨w.heap.size,7,none⟩ (.slice Aq SA.length cq)) (w.heap.size+1) ⟨pg,n,f,bk,ev,nn,j,SA,false⟩ (.slice Aq SA.length cq)=w9 at *;dsimp only [aj] at aX;have di:=aX.cell;refine bodyPost_ret (v:=.tuple #[.agg (aj ⟨pg,n,f,bk,ev,nn,j,SA,false⟩ (.slice Aq SA.length cq)),zI 0]) (by simp [results,results36,go_sem,di,aj]) rfl ?_;have F6:=F4.trans (F9.mono (λk _ hk=>.inr hk));exact afv
theorem zT9 {P:Prop} (h:P:=by
 go_enter func36,ntmps36;go_wp2_with fail;refine (HK.out _ hr0.out).zr λw1 hb1=>?_
 obtain ⟨k1,aT⟩:=bY hb1 k0 kR;have B1:=hb0.zt hb1;have hr1:=hr0.out.on hb1;obtain ⟨c1,jw⟩:=bB k1 aT;have jy:=aT.frozen;clear HK k0 kR hb0 hr0 hb1;go_wp2_with fail;refine (yN.out _).zr λw2 hb2=>?_
 obtain ⟨k2,cK⟩:=bY hb2 k1 aT;have B2:=B1.zt hb2;obtain ⟨c2,cR2⟩:=bB k2 cK;have fR2:=cK.frozen;clear k1 aT B1 c1 jw jy hr1 hb2 yN;go_wp2_with fail;change bodyPost _ _ _ _ _ (aP w2 (w.heap.size+1) ⟨pg,n,f,bk,ev,node,live,K,false⟩ (.slice A m cap));have aX:=aK cK ⟨pg,n,f,bk,ev,node,live,K,false⟩ (.slice A m cap);have F9:=aL w2 (w.heap.size+1) ⟨pg,n,f,bk,ev,node,live,K,false⟩ (.slice A m cap);have B9:=dG B2 (g:=(w.heap.size+1)) zo ⟨pg,n,f,bk,ev,node,live,K,false⟩ (.slice A m cap);generalize aP w2 (w.heap.size+1) ⟨pg,n,f,bk,ev,node,live,K,false⟩ (.slice A m cap)=w9 at *;dsimp only [aj] at aX;have di:=aX.cell;refine bodyPost_ret (v:=.tuple #[.agg (aj ⟨pg,n,f,bk,ev,node,live,K,false⟩ (.slice A m cap)),zI 7]) (by simp [results,results36,go_sem,di,aj]) rfl ?_;exact ⟨_,rfl,⟨A,cap,by rw [hm.out],by rw [hm.out];exact hcap,hcm,kZ.out.call B9⟩,.below hV hB B9⟩):P:=h
theorem Ye (B bs bb:Nat) (V:Vm) (L:List Nd) (r:Cr) (tt:Int) (A:Option Addr) (cap:Nat) (w:World) (hV:bn w B bs V) (hB:ed w B bb L) (hO:bf L) (hnl:bq r=0->r.node.toNat<L.length) (hcap:r.kept.length<=cap) (hcm:cap<=maxLen) (hk:KeptAt w A r.kept) :
  Calls prog 36 #[zP bs,zP bb,.agg (aj r (.slice A r.kept.length cap)),zI tt] w λe w'=>∃v,e= .returned (.tuple #[v,zI (dh V L r tt).2.1])/\Dc (dh V L r tt).1 w' v/\bO B bs bb (dh V L r tt).2.2.1 (dh V L r tt).2.2.2 w w':=by
 by_cases hY:bq r=0/\r.cl=false/\r.live<=tt/\tt<=pJ r
 ·obtain ⟨h0,h1,h2,h3⟩:=hY
  have hok:=fw.1 h0;have hn:=hnl h0;have hn0:=hok.node.1;have hl0:=hok.C9;have HZ:pJ r=aG (ay r.pg r.n r.f r.bk r.ev):=by unfold pJ;rw [if_pos (bR.2 hok.plan)]
  rw [HZ] at h3;obtain ⟨pg,n,f,bk,ev,node,live,K,cl⟩:=r;simp only at h1 h2 h3 hn hn0 hl0 hcap hk;subst h1;obtain ⟨nn,rfl⟩:∃nn:Nat,node=nn:=⟨node.toNat,zo⟩;obtain ⟨a,rfl⟩:∃a:Nat,live=a:=⟨live.toNat,zo⟩;obtain ⟨t,rfl⟩:∃t:Nat,tt=t:=⟨tt.toNat,zo⟩;rw [Int.toNat_natCast] at hn;exact Us B bs bb V L pg n f bk ev nn a t K A _ cap w hV hB hO hn rfl hcap hcm hk hok zo h3
 have hr:=hk.ru;have HK:=ae (λW h=>iC r A cap W hcap hcm h);have yN:=ae (λW=>vY r.pg r.n r.f r.bk r.ev W);rw [xV] at yN;obtain ⟨G,hG⟩:=ah (dh V L r tt);rw [hG];unfold dh at hG;clear hnl;generalize bq r=ck at *;generalize pJ r=us at *;obtain ⟨pg,n,f,bk,ev,node,live,K,cl⟩:=r;simp only at hcap hcm hr hk hG HK yN hY ⊢;generalize (lT pg n f bk ev).2=V2 at *;generalize bQ pg n f bk ev=cg at *;obtain ⟨m,hm0⟩:=ah (K.length);rw [hm0] at hcap HK ⊢;have hm:=ae hm0;have hb0:=below_alloc2 (aQ w (.cells (aj ⟨pg,n,f,bk,ev,node,live,K,cl⟩ (.slice A m cap)) 28)) (.cells (aj bD zN) 28);have k0:=(af.new w 28 (aj ⟨pg,n,f,bk,ev,node,live,K,cl⟩ (.slice A m cap))).dV (.cells (aj bD zN) 28);have kR:=af.oG w (.cells (aj ⟨pg,n,f,bk,ev,node,live,K,cl⟩ (.slice A m cap)) 28) 28 (aj bD zN);have hr0:=ae (hr.on hb0);dsimp only [aj,bD] at k0 hb0 kR hr0 HK ⊢;have kZ:=ae hk;clear hm0 hr hk;by_cases h0:ck=0
 case neg =>
  have h0':=gJ h0;rw [if_pos h0] at hG;subst hG;clear h0 hY;go_enter func36,ntmps36;go_wp2_with fail;refine (HK.out _ hr0.out).zr λw1 hb1=>?_
  obtain ⟨k1,aT⟩:=bY hb1 k0 kR;have B1:=hb0.zt hb1;have hr1:=hr0.out.on hb1;obtain ⟨c1,jw⟩:=bB k1 aT;have jy:=aT.frozen;clear HK k0 kR hb0 hr0 hb1;go_wp2_with fail;change bodyPost _ _ _ _ _ (aP w1 (w.heap.size+1) ⟨pg,n,f,bk,ev,node,live,K,cl⟩ (.slice A m cap));have aX:=aK aT ⟨pg,n,f,bk,ev,node,live,K,cl⟩ (.slice A m cap);have F9:=aL w1 (w.heap.size+1) ⟨pg,n,f,bk,ev,node,live,K,cl⟩ (.slice A m cap);have B9:=dG B1 (g:=(w.heap.size+1)) zo ⟨pg,n,f,bk,ev,node,live,K,cl⟩ (.slice A m cap);generalize aP w1 (w.heap.size+1) ⟨pg,n,f,bk,ev,node,live,K,cl⟩ (.slice A m cap)=w9 at *;dsimp only [aj] at aX;have di:=aX.cell;refine bodyPost_ret (v:=.tuple #[.agg (aj ⟨pg,n,f,bk,ev,node,live,K,cl⟩ (.slice A m cap)),zI ck]) (by simp [results,results36,go_sem,di,aj]) rfl ?_;exact Fj
 subst h0;rw [if_neg zs] at hG;by_cases h1:cl=true
 case pos =>
  subst h1;rw [if_pos rfl] at hG;subst hG;clear hY;go_enter func36,ntmps36;go_wp2_with fail;refine (HK.out _ hr0.out).zr λw1 hb1=>?_
  obtain ⟨k1,aT⟩:=bY hb1 k0 kR;have B1:=hb0.zt hb1;have hr1:=hr0.out.on hb1;obtain ⟨c1,jw⟩:=bB k1 aT;have jy:=aT.frozen;clear HK k0 kR hb0 hr0 hb1;go_wp2_with fail;change bodyPost _ _ _ _ _ (aP w1 (w.heap.size+1) ⟨pg,n,f,bk,ev,node,live,K,true⟩ (.slice A m cap));have aX:=aK aT ⟨pg,n,f,bk,ev,node,live,K,true⟩ (.slice A m cap);have F9:=aL w1 (w.heap.size+1) ⟨pg,n,f,bk,ev,node,live,K,true⟩ (.slice A m cap);have B9:=dG B1 (g:=(w.heap.size+1)) zo ⟨pg,n,f,bk,ev,node,live,K,true⟩ (.slice A m cap);generalize aP w1 (w.heap.size+1) ⟨pg,n,f,bk,ev,node,live,K,true⟩ (.slice A m cap)=w9 at *;dsimp only [aj] at aX;have di:=aX.cell;refine bodyPost_ret (v:=.tuple #[.agg (aj ⟨pg,n,f,bk,ev,node,live,K,true⟩ (.slice A m cap)),zI 9]) (by simp [results,results36,go_sem,di,aj]) rfl ?_;exact Fj
 have h1':=QE h1;subst h1';rw [if_neg zs] at hG;by_cases h2:tt<live
 case pos =>
  have h2':=bU h2;rw [if_pos (.inl h2)] at hG;subst hG;clear h2 hY;exact zT9
 have h2':=bV h2;have h3:us<tt:=by
  by_cases h3:us<tt
  ·exact h3
  ·exact absurd ⟨rfl,rfl,zo,zo⟩ hY
 have h3':=bU h3;rw [if_pos (.inr h3)] at hG;subst hG;clear h2 h3 hY;exact zT9
end Go.Proofs.YtlgcpjhimomiaaaGreat
