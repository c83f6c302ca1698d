/- Texts: RWalkH, RSpecB, RWalkI, RWalkJ, RSpecC, RWalkK, RWalkL, RSpecD, RSpecE, RSpecF, RSpecG, QWalkQ, QWalkR. -/
import Derived.Test.YtjmmgoijnhnnaaaGreatR16
set_option maxRecDepth 100000
set_option maxHeartbeats 12800000
namespace Go.Pol
open Go Go.RowKit Go.Proofs.Tryz
def dA (f:Nat→Bool) (a b:Int) (v:Bool):Nat→Bool:=fun k=>if a≤(k:Int)∧(k:Int)<b then v else f k
theorem jZ (f:Nat→Bool) (a:Int) (i:Nat) (v:Bool) (hi:a≤(i:Int)) (k:Nat):dA f a ((i+1:Nat):Int) v k=if k=i then v else dA f a i v k:=by
 unfold dA;by_cases h:k=i
 ·subst h;rw [if_pos rfl,if_pos (by omega)]
 ·rw [if_neg h]
  by_cases h2:a≤(k:Int)∧(k:Int)<(i:Int)
  ·rw [if_pos h2,if_pos (by omega)]
  ·rw [if_neg h2,if_neg (by omega)]
theorem aad {K:List Sp} (hK:Can K) {a b:Int} (hB:Can (bG a b)):setOf (K++bG a b)=iX (dA (fun k=>mem (k:Int) K) a b true):=by
 refine (ng _).og _ (fun p hp=>?_);rw [Bool.eq_iff_iff,wQ (fun x hx=>(List.mem_append.1 hx).elim (hK.1 x) (hB.1 x)),mem_append,vM];unfold dA;by_cases h:a≤(p:Int)∧(p:Int)<b
 ·rw [if_pos h,decide_eq_true h.1,decide_eq_true h.2];simp
 ·rw [if_neg h]
  have:(decide (a≤(p:Int))&&decide ((p:Int)<b))=false:=by
   rw [Bool.eq_false_iff,Ne,Bool.and_eq_true,decide_eq_true_eq,decide_eq_true_eq];exact h
  rw [this,Bool.or_false]
theorem jU (X Z:Array Value) (W:World) (g:Nat) (hX:X.size=1024) (hZ:Z.size=1024) (hk:ag W g 231 Z):ag (W.setCells g 0 X.toList) g 231 X∧af (fun k=>k=g) W (W.setCells g 0 X.toList)∧W.there g 0 X.size:=by
 have kP:=ag.puts (g:=g) (t:=231) (w:=W) (cs:=#[]) X.toList 0 _ _ hk;rw [eB (by rw [Array.length_toList,hX,hZ])] at kP;exact ⟨kP,af.puts (T:=fun k=>k=g) rfl X.toList 0 W _ (af.refl _ W),dP hk 0 _ (by omega)⟩
def tN (B bs:Nat) (w:World) (k:Nat):Prop:=k=bs∨yZ B w k
structure bI (B bs bb:Nat) (V:Vm) (L:List Nd) (w w':World):Prop where
 sys:bq w' B bs V
 eD:eP w' B bb L
 far:af (tN B bs w) w w'
theorem bq.typed {w:World} {B b:Nat} {V:Vm} (h:bq w B b V):∃cs,ag w b 189 cs:=by
 obtain ⟨cs,A,n,cap,hk,_⟩:=h.ex;exact ⟨cs,hk⟩
theorem eP.typed {w:World} {N b:Nat} {L:List Nd} (h:eP w N b L):∃cs,ag w b 227 cs:=by
 obtain ⟨A,cap,k,_⟩:=h.ex;exact ⟨_,k⟩
theorem tN.not {w:World} {B bs:Nat} {V:Vm} (h:bq w B bs V) {g:Nat} {t:TypeId} {cs:Array Value} (hg:ag w g t cs) (h1:t≠189) (h2:t≠120):¬tN B bs w g:=by
 rintro (rfl|⟨_,ds,hd⟩)
 ·obtain ⟨es,he⟩:=h.typed
  exact hg.ne he h1
 ·exact hg.ne hd h2
theorem bI.blk {B bs bb:Nat} {V V0:Vm} {L:List Nd} {w w':World} (h:bI B bs bb V L w w') (h0:bq w B bs V0) {g:Nat} {t:TypeId} {cs:Array Value} (hg:ag w g t cs) (h1:t≠189:=by decide) (h2:t≠120:=by decide):ag w' g t cs :=
 h.far.blk hg (tN.not h0 hg h1 h2)
theorem bI.kept {B bs bb:Nat} {V V0:Vm} {L:List Nd} {w w':World} (h:bI B bs bb V L w w') (h0:bq w B bs V0) {A:Option Addr} {us:List Sp} (hk:KeptAt w A us):KeptAt w' A us :=
 hk.far h.far (fun _ _ hg=>tN.not h0 hg (by decide) (by decide))
theorem bI.below {B bs bb:Nat} {V:Vm} {L:List Nd} {w w':World} (hV:bq w B bs V) (hB:eP w B bb L) (h:Below w.heap.size w w'):bI B bs bb V L w w':=⟨hV.call h,hB.call h,af.of_below h⟩
theorem bI.iK {B bs bb:Nat} {V V':Vm} {L:List Nd} {w w':World} (hV:bq w B bs V) (hB:eP w B bb L) (h:dZ B bs V' w w'):bI B bs bb V' L w w':=by
 refine ⟨h.1,?_,h.2.mono (fun k _ hk=>.inl hk)⟩;obtain ⟨cs,hc⟩:=hV.typed;refine hB.far h.2 (fun e=>?_) (fun k ⟨_,ds,hd⟩ e=>?_)
 ·obtain ⟨ds,hd⟩:=hB.typed
  have e:bb=bs:=e;subst e;exact hd.ne hc
 ·have e:k=bs:=e
  subst e;exact hd.ne hc
theorem bI.mi {B bs bb:Nat} {V:Vm} {L:List Nd} {w w':World} (hV:bq w B bs V) (h:mR B bb L w w'):bI B bs bb V L w w':=by
 obtain ⟨cs,hc⟩:=hV.typed;exact ⟨hV.far h.2 (fun k ⟨hk,ds,hd⟩=>⟨hk,fun e=>by subst e;exact hc.ne hd⟩),h.1,h.2.mono (fun _ _ hk=>.inr hk)⟩
theorem tN.back {w w1:World} {B bs k:Nat} (hF:af (tN B bs w) w w1) (hk:k<w.heap.size) (h:tN B bs w1 k):tN B bs w k:=by
 rcases h with h|⟨hb,cs,hcs⟩
 ·exact .inl h
 ·by_cases h0:tN B bs w k
  ·exact h0
  ·exact .inr ⟨hb,cs,(hF.block k hk h0).symm.trans hcs⟩
theorem bI.trans {B bs bb:Nat} {V V1:Vm} {L L1:List Nd} {w w1 w2:World} (h:bI B bs bb V1 L1 w w1) (k:bI B bs bb V L w1 w2):bI B bs bb V L w w2 :=
 ⟨k.sys,k.eD,h.far.trans' k.far (fun _ hi ht=>tN.back h.far hi ht)⟩
theorem bI.aU {B bs bb:Nat} {V:Vm} {L:List Nd} {w w1 w2:World} (h:bI B bs bb V L w w1) (k:Below w1.heap.size w1 w2):bI B bs bb V L w w2:=h.trans (.below h.sys h.eD k)
theorem bI.fresh {B bs bb:Nat} {V:Vm} {L:List Nd} {w w1 w2:World} {T:Nat→Prop} (h:bI B bs bb V L w w1) (hF:af T w1 w2) (hw:bs<w.heap.size) (hT:∀k,T k→w.heap.size≤k) (hty:∀k,T k→∃t cs,ag w1 k t cs∧t≠120∧t≠227):bI B bs bb V L w w2:=by
 have hbase:=h.sys.base;refine ⟨h.sys.far hF (fun k hk=>by have:=hT k hk;exact ⟨by omega,by omega⟩),?_,h.far.trans' hF (fun i hi ht=>absurd (hT i ht) (by omega))⟩;refine h.eD.far hF (fun ht=>?_) (fun k ⟨_,es,he⟩ ht=>?_)
 ·obtain ⟨ds,hd⟩:=h.eD.typed
  obtain ⟨t,es,he,_,h3⟩:=hty _ ht;exact he.ne hd h3
 ·obtain ⟨t,ds,hd,h2,_⟩:=hty _ ht
  exact hd.ne he h2
theorem dZ.trans {B b:Nat} {V V1:Vm} {w w1 w2:World} (h:dZ B b V1 w w1) (k:dZ B b V w1 w2):dZ B b V w w2:=⟨k.1,h.2.trans k.2⟩
theorem dZ.below {B b:Nat} {V:Vm} {w w1:World} (h:bq w B b V) (k:Below w.heap.size w w1):dZ B b V w w1:=⟨h.call k,af.of_below k⟩
theorem dZ.blk {B b:Nat} {V V0:Vm} {w w1:World} (h:dZ B b V w w1) (h0:bq w B b V0) {g:Nat} {t:TypeId} {cs:Array Value} (hg:ag w g t cs) (h1:t≠189:=by decide):ag w1 g t cs :=
 h.2.blk hg (fun e=>by
  have e:g=b:=e;subst e;obtain ⟨es,he⟩:=h0.typed;exact hg.ne he h1)
theorem dZ.fresh {B b:Nat} {V:Vm} {w w1 w2:World} {T:Nat→Prop} (h:dZ B b V w w1) (hF:af T w1 w2) (hw:b<w.heap.size) (hT:∀k,T k→w.heap.size≤k):dZ B b V w w2:=by
 have hbase:=h.1.base;exact ⟨h.1.far hF (fun k hk=>by have:=hT k hk;exact ⟨by omega,by omega⟩),h.2.trans' hF (fun i hi ht=>absurd (hT i ht) (by omega))⟩
theorem Qg (pg n f bk ev node:Int):bE ⟨pg,n,f,bk,ev,node,0,[],false⟩=if bN pg n f bk ev≠0 then bN pg n f bk ev else if node<0∨64≤node then 7 else 0:=by
 unfold bE;simp only;by_cases h:bN pg n f bk ev≠0
 ·rw [if_pos h,if_pos h]
 ·rw [if_neg h,if_neg h]
  have hp:=bU.1 (by simpa using h:bN pg n f bk ev=0);have hu:¬oG ⟨pg,n,f,bk,ev,node,0,[],false⟩<0:=by
   unfold oG;simp only;rw [if_pos (by simpa using h)];have:=qo (L:=aA pg n f bk ev) (rO hp);omega
  by_cases h2:node<0∨64≤node
  ·rw [if_pos h2,if_pos (by omega)]
  ·rw [if_neg h2,if_neg (by omega)]
   have:dX []=0:=by decide
   rw [this];simp
theorem EC:∀(s:List Sp) {e e':Int},e≤e'→aW e' s=true→aW e s=true
 | [],_,_,_,_=>rfl
 | x::r,e,e',he,h=>by
  have h1:=aJ.1 h;exact aJ.2 ⟨by omega,h1.2⟩
theorem Ak:∀(A B:List Sp) {e e':Int},e≤e'→(∀x∈A,x.1+x.2≤e')→aW e A=true→aW e' B=true→aW e (A++B)=true
 | [],B,e,e',he,_,_,hB=>EC B he hB
 | x::r,B,e,e',he,hA,hf,hB=>by
  have h1:=aJ.1 hf;rw [List.cons_append];exact aJ.2 ⟨h1.1,Ak r B (hA x (by simp)) (fun y hy=>hA y (by simp [hy])) h1.2 hB⟩
theorem CV (d:Int):∀(A:List Sp) {e:Int},aW e A=true→aW (e+d) (A.map fun x=>(x.1+d,x.2))=true
 | [],_,_=>rfl
 | x::r,e,h=>by
  have h1:=aJ.1 h;rw [List.map_cons];refine aJ.2 ⟨by simp only;omega,?_⟩;have:=CV d r h1.2;rw [show x.1+x.2+d=x.1+d+x.2 by omega] at this;exact this
theorem Tp:∀(A:List Sp) {e e':Int},(∀x∈A,e'<x.1)→aW e A=true→aW e' A=true
 | [],_,_,_,_=>rfl
 | x::r,e,e',hA,h=>by
  have h1:=aJ.1 h;exact aJ.2 ⟨hA x (by simp),h1.2⟩
def iV (l:List iF):List Sp:=l.map fun x=>(x.1,x.2.1)
theorem ED {S:List Sp} (hS:Can S):∀(L:List Sp) (m e:Int),0≤m→m+aI L≤1024→(∀u∈L,bB u=true)→aW e L=true→aW e (iV (bS S m L))=true
 | [],_,_,_,_,_,_=>rfl
 | u::r,m,e,hm,hs,hv,hf=>by
  have hu:=av.1 (hv u (by simp));have h1:=aJ.1 hf;have hsr:0≤aI r:=qo (fun x hx=>(av.1 (hv x (by simp [hx]))).2.2.1);have hsc:aI (u::r)=u.2+aI r:=by simp [aI]
  rw [hsc] at hs;have hone:Can [(m,u.2)]:=Can.one (av.2 (by simp only;omega));have hc:=hS.common hone;have hmem:=hS.iy hone;have hin:∀x∈ay S [(m,u.2)],m≤x.1∧x.1+x.2≤m+u.2:=fun x hx=>by
   have hx':=av.1 (hc.1 x hx);have a1:mem x.1 (ay S [(m,u.2)])=true:=List.any_eq_true.2 ⟨x,hx,by simp;omega⟩;have a2:mem (x.1+x.2 - 1) (ay S [(m,u.2)])=true:=List.any_eq_true.2 ⟨x,hx,by simp;omega⟩;rw [hmem,Bool.and_eq_true] at a1 a2;have b1:=a1.2;have b2:=a2.2;rw [iM] at b1 b2;simp only at b1 b2;omega
  have e0:iV (bS S m (u::r))=((ay S [(m,u.2)]).map fun x=>(x.1+(u.1 - m),x.2))++iV (bS S (m+u.2) r):=by
   unfold iV;rw [bS,List.map_append,List.map_map];congr 1;refine List.map_congr_left (fun x _=>?_);simp only [Function.comp];congr 1;omega
  rw [e0];refine Ak _ _ (e':=u.1+u.2) (by omega) (fun y hy=>?_) ?_ (ED hS r _ _ (by omega) (by omega) (fun x hx=>hv x (by simp [hx])) h1.2)
  ·obtain ⟨x,hx,rfl⟩:=List.mem_map.1 hy
   have:=hin x hx;simp only;omega
  ·have h2:=CV (u.1 - m) _ (Tp _ (e':=m - 1) (fun x hx=>by have:=hin x hx;omega) hc.2)
   exact EC _ (by omega) h2
theorem Qh (l:List iF) (p:Int):mem p (iV l)=true↔∃x∈l,x.1≤p∧p<x.1+x.2.1:=by
 unfold mem iV;rw [List.any_map,List.any_eq_true];simp only [Function.comp,Bool.and_eq_true,decide_eq_true_eq]
theorem Tu {S:List Sp} (hS:Can S) {L:List Sp} (hs:aI L≤1024) (hv:∀u∈L,bB u=true) (hf:aW (-1) L=true) (p:Int):mem p (iV (bS S 0 L))=(mem p L&&mem (jg p 0 L).1 S):=by
 rw [Bool.eq_iff_iff,Qh,Bool.and_eq_true];have hpos:∀u∈L,1≤u.2:=fun u hu=>(av.1 (hv u hu)).2.2.1
 constructor
 ·rintro ⟨x,hx,h1,h2⟩
  obtain ⟨hr,hm⟩:=pz hS L 0 (-1) (by omega) (by omega) hv hf x hx;obtain ⟨a,b⟩:=hr.page p h1 h2;exact ⟨a,hm _ (by omega) (by omega)⟩
 ·rintro ⟨h1,h2⟩
  have hr:=nN L 0 p hpos h1;obtain ⟨x,hx,h3,h4⟩:=wY hS L 0 (by omega) (by omega) hv _ h2 hr.1 hr.2;obtain ⟨hq,_⟩:=pz hS L 0 (-1) (by omega) (by omega) hv hf x hx;have:=hq.num p h1 h3 h4;exact ⟨x,hx,this.1,this.2⟩
theorem Tv {S:List Sp} (hS:Can S) {L:List Sp} (hs:aI L≤1024) (hv:∀u∈L,bB u=true) (hf:aW (-1) L=true):iV (bS S 0 L)=iX (fun p=>mem (p:Int) L&&mem (jg p 0 L).1 S):=by
 refine Can.og ⟨fun x hx=>?_,ED hS L 0 (-1) (by omega) (by omega) hv hf⟩ _ (fun p _=>(Tu hS hs hv hf p).symm);unfold iV at hx;obtain ⟨y,hy,rfl⟩:=List.mem_map.1 hx;obtain ⟨hr,_⟩:=pz hS L 0 (-1) (by omega) (by omega) hv hf y hy;have h1:=hr.pos;have h2:=hr.lo;have h3:=hr.hi;rw [av];simp only;omega
def oz (L:List Sp) (f:Nat→Bool) (i:Nat):Nat→Bool:=fun p=>mem (p:Int) L&&(decide ((jg p 0 L).1<(i:Int))&&f (jg p 0 L).1.toNat)
theorem Qi {L:List Sp} {f:Nat→Bool} (hL:∀u∈L,1≤u.2) {i:Nat} (h:f i=false∨aI L≤i) (p:Nat):oz L f (i+1) p=oz L f i p:=by
 unfold oz;cases hm:mem (p:Int) L with
 | false=>rfl
 | true =>
  have hr:=nN L 0 p hL hm;rw [Bool.true_and,Bool.true_and];by_cases e:(jg p 0 L).1=i
  ·rw [e]
   rcases h with h|h
   ·rw [Int.toNat_natCast,h,Bool.and_false,Bool.and_false]
   ·omega
  ·congr 1
   exact decide_eq_decide.2 (by omega)
theorem K5 {L:List Sp} {f:Nat→Bool} (hL:∀u∈L,1≤u.2) {i q:Nat} (hf:f i=true) (hq:mem (q:Int) L=true) (hi:(jg q 0 L).1=i) (p:Nat):oz L f (i+1) p=if p=q then true else oz L f i p:=by
 unfold oz;by_cases e:p=q
 ·subst e
  rw [if_pos rfl,hq,hi,Int.toNat_natCast,hf,decide_eq_true (by omega)];rfl
 ·rw [if_neg e]
  cases hm:mem (p:Int) L with
  | false=>rfl
  | true =>
   rw [Bool.true_and,Bool.true_and];congr 1;refine decide_eq_decide.2 ?_;have:(jg p 0 L).1≠i:=fun h=>e (by
    have:=Dy L 0 p q hL hm hq (h.trans hi.symm);omega)
   omega
theorem K6:∀(L:List Sp) (m p:Int),mem p L=true→(jg p m L).2=0
 | [],_,_,h=>by simp [mem] at h
 | x::r,m,p,h=>by
  rw [jg];split
  ·rfl
  ·rename_i hn
   refine K6 r _ p ?_;rw [bK] at h;exact h.resolve_left hn
theorem Qj {f g:Nat→Bool} (h:∀p,p<1024→f p=g p):iX f=iX g:=by
 refine (Da f).og g (fun p hp=>?_);rw [Bool.eq_iff_iff,Db,Int.toNat_natCast,←h p hp];exact ⟨fun e=>⟨by omega,e⟩,fun e=>e.2⟩
theorem K7 {S:List Sp} (hS:Can S) {L:List Sp} (hs:aI L≤1024) (hv:∀u∈L,bB u=true) (hf:aW (-1) L=true) {f:Nat→Bool} (h:∀k:Nat,k<1024→f k=mem (k:Int) S):iX (oz L f 1024)=iV (bS S 0 L):=by
 rw [Tv hS hs hv hf];refine Qj (fun p _=>?_);unfold oz;cases hm:mem (p:Int) L with
 | false=>rfl
 | true =>
  have hr:=nN L 0 p (fun u hu=>(av.1 (hv u hu)).2.2.1) hm;rw [Bool.true_and,Bool.true_and,decide_eq_true (by omega),Bool.true_and,h _ (by omega)];congr 1;omega
theorem aaj {K:List Sp} (hK:Can K) {live tt:Int} (h2:tt≤1024) (hl:∀x∈K,live≤x.1):ay K (aZ (bG 0 tt) (0,1024))=iX (dA (fun j=>mem (j:Int) K) live tt false):=by
 have hB:Can (bG 0 tt):=lZ (by omega) (by omega);refine (pE hK hB).og _ (fun p hp=>?_);rw [sJ hK hB,vM];unfold dA;by_cases h:live≤(p:Int)∧(p:Int)<tt
 ·rw [if_pos h,decide_eq_true (by omega),decide_eq_true h.2];simp
 ·rw [if_neg h]
  by_cases h3:(p:Int)<live
  ·have:mem (p:Int) K=false:=by
    rw [Bool.eq_false_iff];intro hm;obtain ⟨x,hx,hh⟩:=List.any_eq_true.1 hm;have:=hl x hx;simp at hh;omega
   simp [this]
  ·rw [decide_eq_false (p:=(p:Int)<tt) (by omega)];simp
theorem DT {K:List Sp} (hK:Can K) {live tt:Int} (hB:Can (bG live tt)) (k:Int):mem k (ay (bG live tt) (aZ K (0,1024)))=(decide (live≤k)&&decide (k<tt)&&!mem k K):=by
 rw [sJ hB hK,vM]
def qL (K:List Sp) (live:Int) (n:Nat):Int:=iC (fun q=>!mem q K) n live
theorem Ty {K:List Sp} (hK:Can K) {a d:Nat} (h:a+d≤1024) (hB:Can (bG (a:Int) ((a+d:Nat):Int))):qL K a d=aI (ay (bG (a:Int) ((a+d:Nat):Int)) (aZ K (0,1024))):=by
 have hm:=fun k=>DT hK hB k
 rw [←OD (pE hB hK)];obtain ⟨e,he⟩:∃e,1024=a+(d+e):=⟨1024 - a - d,by omega⟩;rw [show iC (fun q=>mem q (ay (bG (a:Int) ((a+d:Nat):Int)) (aZ K (0,1024)))) 1024 0=iC (fun q=>mem q (ay (bG (a:Int) ((a+d:Nat):Int)) (aZ K (0,1024)))) (a+(d+e)) 0 by rw [←he]];rw [jY,jY,nk a 0 (fun q h1 h2=>by rw [hm,decide_eq_false (by omega)];rfl),nk e _ (fun q h1 h2=>by rw [hm,decide_eq_false (p:=q<((a+d:Nat):Int)) (by omega)];simp),Int.zero_add,Int.add_zero,Int.zero_add];unfold qL;refine uF d _ (fun q h1 h2=>?_);rw [hm,decide_eq_true (by omega),decide_eq_true (by omega)];rfl
theorem y7 (K:List Sp) (live:Int) (i:Nat):qL K live (i+1)=qL K live i+if mem (live+i) K=true then 0 else 1:=by
 unfold qL;rw [Ik];cases mem (live+i) K <;> rfl
theorem aak {x:iF} {r d:List iF} {V:Vm} (h:(bJ V x.1 x.2.1 2 1 2).1=0):jy (x::r) d V=jy r (d++[x]) (bJ V x.1 x.2.1 2 1 2).2:=by
 rw [jy];rw [if_neg (fun e=>e h)]
theorem aal {x:iF} {r d:List iF} {V:Vm} (h:(bJ V x.1 x.2.1 2 1 2).1≠0):jy (x::r) d V=((bJ V x.1 x.2.1 2 1 2).1,(bJ V x.1 x.2.1 2 1 2).2,d):=by
 rw [jy];rw [if_pos h]
theorem TA {K:List Sp} (hK:Can K) {a n:Int} (hx:Can [(a,n)]) (j:Nat):dA (fun k=>mem (k:Int) K) a (a+n) true j=mem (j:Int) (setOf (K++[(a,n)])):=by
 rw [G5 hK hx,Bool.eq_iff_iff,Bool.or_eq_true,iM];unfold dA;by_cases h:a≤(j:Int)∧(j:Int)<a+n
 ·rw [if_pos h]
  exact ⟨fun _=>.inr h,fun _=>rfl⟩
 ·rw [if_neg h]
  exact ⟨fun e=>.inl e,fun e=>e.elim id (fun e=>absurd e h)⟩
theorem TB {K:List Sp} (hK:Can K) {a n:Int} (hx:Can [(a,n)]) (j:Nat):dA (fun k=>mem (k:Int) K) a (a+n) false j=mem (j:Int) (ay K (aZ [(a,n)] (0,1024))):=by
 rw [sJ hK hx];unfold dA;by_cases h:a≤(j:Int)∧(j:Int)<a+n
 ·rw [if_pos h,(iM (x:=(a,n)) (p:=(j:Int))).2 h];simp
 ·have:mem (j:Int) [(a,n)]=false:=by rw [Bool.eq_false_iff,Ne,iM];exact h
  rw [if_neg h,this];simp
theorem Qk {K:List Sp} (hK:Can K):iX (fun k=>mem (k:Int) K)=K:=(hK.og _ (fun _ _=>rfl)).symm
theorem TC (D:List iF) (k:Nat) (h:k<D.length) (S:Vm×List Sp×Int):((D.take (k+1)).reverse).foldl dK S=((D.take k).reverse).foldl dK (dK S (D.getD k (0,0,0))):=by
 rw [List.take_add_one,List.getElem?_eq_getElem h,Option.toList_some,List.reverse_append,List.foldl_append,List.getD_eq_getElem?_getD,List.getElem?_eq_getElem h];rfl
end Go.Pol
namespace Go.Proofs.YtjmmgoijnhnnaaaGreat
open Go Go.Proofs Go.RowKit Go.Pol Go.Shelf Tryz
attribute [local go_sem] Oper.semAt_some aC au az ah
theorem kG (cs:Array Value) (f:Nat→Bool) (w:World) (hm:bC cs f) :
  Calls prog 156 #[.agg cs] w fun e w'=>∃(A:Option Addr) (cap:Nat),e= .returned (.slice A (iX f).length cap)∧KeptAt w' A (iX f)∧(iX f).length≤cap∧cap≤maxLen∧Below w.heap.size w w':=by
 obtain ⟨i0,hi,hz0,hz1,hz2⟩:=dW;have hb0:=aV w (.cells cs 231);have kM:=ag.new w 231 cs;have hcs:=ae hm.at_;have hcz:=hm.size;have hok:=ae (fun p=>vD f p);have hA:Hid (iX f=cK f 1024):=ae rfl;obtain ⟨SA,zM⟩:∃S,iX f=S:=⟨_,rfl⟩;rw [zM];have Y7:=ae zM;clear zM hm;go_enter func156,ntmps156;go_wp2_with fail
 go_loopw [3,4] (fun v i wr=>∃k:Nat,k≤1024∧i= .int .i64 k∧wr.ownsRow (w.heap.size+1) 140 2 v (cK f k).length (ax (cK f k))∧ag wr w.heap.size 231 cs∧Below w.heap.size w wr) (fun _ i _=>1024 - (intOf i).toNat)
 case atStart=>exact ⟨0,by omega,rfl,World.ownsRow_nil _ _ _ _,kM,hb0⟩
 case round =>
  obtain ⟨k,hk,rfl,hrow,kW,hB⟩:=hrel;have oV:=hB.size;have hwl:=kW.lt;by_cases hlt:k<1024
  ·have hlt':decide ((k:Int)<1024)=true:=by simp;omega
   have hck:wr.cell? ⟨w.heap.size,k,none⟩=some (.bool (f k)):=by rw [kW.cell];exact hcs.out k hlt
   have hstep:=ae (show cK f (k+1)=_ from rfl);have BA:(cK f k).length≤1024:=by
    have:=(hok.out k);have h:=xm (cK f k) (-1) k (fun x hx=>⟨(this.wid x hx).2.1,(this.wid x hx).2.2⟩) this.form (by omega);omega
   cases zN:f k with
   | false =>
    rw [zN] at hck;have hS:Hid (cK f (k+1)=cK f k):=ae (by rw [cK,if_neg (by simp [zN])]);go_wp2_with fail;go_roundw
    case rel=>exact ⟨k+1,by omega,by simp,by rw [hS.out];exact hrow,kW,hB⟩
    case measure=>simp [intOf];omega
   | true =>
    rw [zN] at hck;by_cases hk0:0<k
    case neg =>
     have hk0':decide (0<(k:Int))=false:=by simp;omega
     have Y8:decide (0<k)=false:=by simp;omega
     have hS:Hid (cK f (k+1)=cK f k++[((k:Int),1)]):=ae (by rw [cK,if_pos zN,if_neg (by simp;omega)]);have kN:=ag.new wr 140 #[.int .i64 (k:Int),.int .i64 1]
     go_wp2_with (refine wpList_append_own _ rfl (.tmp 9) (.tmp 12) 41 rfl (w.heap.size+1) 140 i0 (.agg #[.int .i64 0,.int .i64 0]) 2 16 underlying41 hi hz0 hz1 hz2 rfl (by decide) _ (cK f k).length (ax (cK f k)) rfl (hrow.alloc _) ⟨wr.heap.size,0,none⟩ 1 1 [.int .i64 (k:Int),.int .i64 1] rfl rfl (ja kN) gQ (by unfold maxLen;omega) (by omega) (by simp;omega) ?_;intro v' w1 hown' hgrow _;rw [←dE (cK f k) ((k:Int),1),←hS.out] at hown')
     have hne1:=(hrow.alloc (.cells #[.int .i64 (k:Int),.int .i64 1] 140)).lt;go_roundw
     case rel=>exact ⟨k+1,by omega,by simp,by rw [show (cK f (k+1)).length=(cK f k).length+1 by rw [hS.out];simp];exact hown',(kW.alloc _).grown hgrow (fun e=>by have:=(hrow.lt _ e.symm).1;omega),(hB.alloc oV _).grown hgrow (by simp;omega) (fun j hj=>by have:=(hrow.lt j hj).1;omega)⟩
     case measure=>simp [intOf];omega
    case pos =>
     have hk0':decide (0<(k:Int))=true:=by simp;omega
     have Y8:decide (0<k)=true:=by simp;omega
     have hkp:wr.cell? ⟨w.heap.size,k - 1,none⟩=some (.bool (f (k - 1))):=by rw [kW.cell];exact hcs.out (k - 1) (by omega)
     cases hfp:f (k - 1) with
     | false =>
      rw [hfp] at hkp;have hS:Hid (cK f (k+1)=cK f k++[((k:Int),1)]):=ae (by rw [cK,if_pos zN,if_neg (by simp [hfp])]);have kN:=ag.new wr 140 #[.int .i64 (k:Int),.int .i64 1]
      go_wp2_with (refine wpList_append_own _ rfl (.tmp 9) (.tmp 12) 41 rfl (w.heap.size+1) 140 i0 (.agg #[.int .i64 0,.int .i64 0]) 2 16 underlying41 hi hz0 hz1 hz2 rfl (by decide) _ (cK f k).length (ax (cK f k)) rfl (hrow.alloc _) ⟨wr.heap.size,0,none⟩ 1 1 [.int .i64 (k:Int),.int .i64 1] rfl rfl (ja kN) gQ (by unfold maxLen;omega) (by omega) (by simp;omega) ?_;intro v' w1 hown' hgrow _;rw [←dE (cK f k) ((k:Int),1),←hS.out] at hown')
      have hne1:=(hrow.alloc (.cells #[.int .i64 (k:Int),.int .i64 1] 140)).lt;go_roundw
      case rel=>exact ⟨k+1,by omega,by simp,by rw [show (cK f (k+1)).length=(cK f k).length+1 by rw [hS.out];simp];exact hown',(kW.alloc _).grown hgrow (fun e=>by have:=(hrow.lt _ e.symm).1;omega),(hB.alloc oV _).grown hgrow (by simp;omega) (fun j hj=>by have:=(hrow.lt j hj).1;omega)⟩
      case measure=>simp [intOf];omega
     | true =>
      rw [hfp] at hkp;obtain ⟨r,x,hrx,hxe⟩:=(hok.out k).last hk0 hfp;have hwx:=(hok.out k).wid x (by rw [hrx];simp);have hS:Hid (cK f (k+1)=r++[(x.1,x.2+1)]):=ae (by rw [cK,if_pos zN,if_pos (by simp [hfp];omega),hrx,Aw]);rw [hrx] at hrow BA;clear hrx hstep;obtain ⟨xa,xb⟩:=x;dsimp only at hwx hxe;rw [List.length_append,List.length_singleton] at hrow BA;obtain ⟨g,cap,rfl⟩:=ownsRow_succ hrow;have hgb:=(hrow.lt g rfl).1;have hcx:wr.cell? ⟨g,r.length*2+1,none⟩=some (.int .i64 xb):=by
       rw [hrow.cellAt _ (by omega),dE,List.getElem?_append_right (by rw [dB];omega),dB];simp
      have hfx:=hrow.frozenAt (r.length*2+1);obtain ⟨hst,hgr⟩:=hrow.stored (r.length*2+1) (.int .i64 (xb+1));rw [wL] at hst;obtain ⟨rl,hrl⟩:=aj (r.length);rw [hrl] at hcx hfx hst hgr BA ⊢;have Y9:=ae hrl;clear hrl hrow;go_wp2_with fail;go_roundw
      case rel=>exact ⟨k+1,by omega,by simp,by rw [hS.out];simpa [Y9.out] using hst,kW.grown hgr (fun e=>by cases e;omega),hB.grown hgr oV (fun j hj=>by cases hj;omega)⟩
      case measure=>simp [intOf];omega
  ·obtain rfl:k=1024:=by omega
   obtain ⟨A,cap,rfl,gG,h1,h2⟩:=KeptAt.own hrow rfl;have hE:Hid (SA=cK f 1024):=ae (by rw [←Y7.out];rfl);go_wp2_with fail;go_ret;rw [hE.out];exact ⟨A,cap,rfl,gG,h1,h2,hB⟩
theorem tL (r:Cr) (A:Option Addr) (cap:Nat) (w:World) (hk:RU w w.heap.size A r.kept) (hc:Go.Pol.Can r.kept) :
  Calls prog 149 #[.agg (ai r (.slice A r.kept.length cap))] w fun e w'=>∃cs,e= .returned (.agg cs)∧bC cs (fun k=>mem (k:Int) r.kept)∧Below w.heap.size w w':=by
 obtain ⟨s,hs⟩:=aj (w.heap.size);have hb0:=(aV w (.cells (ai r (.slice A r.kept.length cap)) 43)).alloc (by simp) (.cells zeroCells231 231);have k0:=(ag.new w 43 (ai r (.slice A r.kept.length cap))).alloc (.cells zeroCells231 231);have kR:=ag.new (w.alloc (.cells (ai r (.slice A r.kept.length cap)) 43)) 231 zeroCells231;rw [World.size_alloc,hs] at kR;have hlen:r.kept.length≤1025:=by
  have h:=xm r.kept (-1) 1024 (fun x hx=>by have:=av.1 (hc.1 x hx);omega) hc.2 (by omega);omega
 have HM:=ae (fun W h=>SB A r.kept.length cap r.kept W rfl (by omega) h (fun x hx=>hc.1 x hx));have hk0:=hk.on hb0;have hZ:=fV;obtain ⟨m,hm0⟩:=aj (r.kept.length);rw [hm0] at hb0 k0 kR hk0 HM ⊢;rw [hs] at hb0 k0;dsimp only [ai] at hb0 k0 kR hk0 ⊢;clear hk hc hm0 hlen;go_enter func149,ntmps149;go_upto_region 1 with fail
 try simp only [hs]
 generalize zeroCells231=Z at *;generalize (w.alloc _).alloc _=w0 at *;have c0:=k0.cell;have hzs:=hZ.size;go_wp2_with fail;refine (HM.out _ hk0).mono ?_;rintro e w1 ⟨cs,rfl,hMe,hb1⟩;have hsz:=hMe.size;have hone:=hMe.one;have aN:=kR.call hb1;have hth:=BF aN;have B1:=hb0.trans (hb1.mono (by have:=hb0.size;omega))
 go_wp2_with (refine wpList_store_mid rfl 231 (.tmp 2) (.tmp 5) rfl (s+1) 0 cs rfl rfl (by rw [hsz,←hzs];exact hth) (by rw [hsz];kernel_rfl) hone ?_)
 have hrg:=World.rangeAt_setCells_same w1 (s+1) 0 cs.toList (by rw [Array.length_toList,hsz,←hzs];exact hth);have ZI:=below_setCells (s+1) (by omega) cs.toList 0 w1 B1;generalize w1.setCells (s+1) 0 cs.toList=w9 at *;have hld:=run_loadVar_mid (P:=prog) w9 (s+1) 0 231 cs.toList _ hrg underlying231 rfl (by rw [Array.length_toList,hsz];kernel_rfl);rw [Array.toArray_toList] at hld;exact bodyPost_ret (v:=.agg cs) (vw rfl rfl hld) rfl ⟨cs,rfl,hMe,by rw [hs];exact ZI⟩
theorem MV (r:Cr) (tt:Int) (A:Option Addr) (cap:Nat) (w:World) (hcap:r.kept.length≤cap) (hcm:cap≤maxLen) (hk:KeptAt w A r.kept) :
  Calls prog 89 #[.agg (ai r (.slice A r.kept.length cap)),.int .i64 tt] w fun e w'=>∃v,e= .returned (.tuple #[v,.int .i64 (iE r tt).2])∧Bj (iE r tt).1 w' v∧Below w.heap.size w w':=by
 have hr:=hk.ru;have HK:=ae (fun W h=>jF r A cap W hcap hcm h);have hR:∃R,iE r tt=R:=⟨_,rfl⟩;obtain ⟨R,hR⟩:=hR;rw [hR];unfold iE at hR;have hz:=@gB r;have hZ:bE r=0→0≤r.live∧r.live≤1024∧dX r.kept=0:=fun h=>⟨(hz.1 h).AU,Int.le_trans (hz.1 h).Dj (zm (hz.1 h).plan),bP.2 (hz.1 h).can⟩
 clear hz;generalize bE r=ck at *;obtain ⟨pg,n,f_,bk,ev,node,live,K,cl⟩:=r;simp only at hcap hcm hr hk hR hZ HK ⊢;obtain ⟨m,hm0⟩:=aj (K.length);rw [hm0] at hcap HK ⊢;have hm:=ae hm0;have hb0:=below_alloc2 (aV w (.cells (ai ⟨pg,n,f_,bk,ev,node,live,K,cl⟩ (.slice A m cap)) 43)) (.cells (ai bn (.slice none 0 0)) 43);have k0:=(ag.new w 43 (ai ⟨pg,n,f_,bk,ev,node,live,K,cl⟩ (.slice A m cap))).dU (.cells (ai bn (.slice none 0 0)) 43);have kR:=ag.nL w (.cells (ai ⟨pg,n,f_,bk,ev,node,live,K,cl⟩ (.slice A m cap)) 43) 43 (ai bn (.slice none 0 0));have hr0:=ae (hr.on hb0);dsimp only [ai,bn] at k0 hb0 kR hr0 HK ⊢;have gI:=ae hk;clear hm0 hr hk;by_cases h0:ck=0
 case neg =>
  have h0':(ck != 0)=true:=by simpa using h0
  rw [if_pos h0] at hR;subst hR;clear h0;go_enter func89,ntmps89;go_wp2_with fail;refine (HK.out _ hr0.out).mono ?_;rintro e w1 ⟨rfl,hb1⟩;have k1:=k0.call hb1;have aN:=kR.call hb1;have B1:=hb0.trans (hb1.mono hb0.size);have hr1:=hr0.out.on hb1;have c1:=k1.cell;have gY:=aN.cell;have gZ:=aN.frozen;clear HK k0 kR hb0 hr0 hb1;go_wp2_with fail;change bodyPost _ _ _ _ _ (aL w1 (w.heap.size+1) ⟨pg,n,f_,bk,ev,node,live,K,cl⟩ (.slice A m cap));have aR:=aG aN ⟨pg,n,f_,bk,ev,node,live,K,cl⟩ (.slice A m cap);have F9:=aH w1 (w.heap.size+1) ⟨pg,n,f_,bk,ev,node,live,K,cl⟩ (.slice A m cap);have B9:=bW B1 (g:=(w.heap.size+1)) (by omega) ⟨pg,n,f_,bk,ev,node,live,K,cl⟩ (.slice A m cap);generalize aL w1 (w.heap.size+1) ⟨pg,n,f_,bk,ev,node,live,K,cl⟩ (.slice A m cap)=w9 at *;dsimp only [ai] at aR;have bV:=aR.cell;refine bodyPost_ret (v:=.tuple #[.agg (ai ⟨pg,n,f_,bk,ev,node,live,K,cl⟩ (.slice A m cap)),.int .i64 ck]) (by simp [results,results89,go_sem,bV,ai]) rfl ?_;exact ⟨_,rfl,⟨A,cap,by rw [hm.out],by rw [hm.out];exact hcap,hcm,gI.out.call B9⟩,B9⟩
 subst h0;rw [if_neg (by simp)] at hR;by_cases h1:cl=true
 case pos =>
  subst h1;rw [if_pos rfl] at hR;subst hR;go_enter func89,ntmps89;go_wp2_with fail;refine (HK.out _ hr0.out).mono ?_;rintro e w1 ⟨rfl,hb1⟩;have k1:=k0.call hb1;have aN:=kR.call hb1;have B1:=hb0.trans (hb1.mono hb0.size);have hr1:=hr0.out.on hb1;have c1:=k1.cell;have gY:=aN.cell;have gZ:=aN.frozen;clear HK k0 kR hb0 hr0 hb1;go_wp2_with fail;change bodyPost _ _ _ _ _ (aL w1 (w.heap.size+1) ⟨pg,n,f_,bk,ev,node,live,K,true⟩ (.slice A m cap));have aR:=aG aN ⟨pg,n,f_,bk,ev,node,live,K,true⟩ (.slice A m cap);have F9:=aH w1 (w.heap.size+1) ⟨pg,n,f_,bk,ev,node,live,K,true⟩ (.slice A m cap);have B9:=bW B1 (g:=(w.heap.size+1)) (by omega) ⟨pg,n,f_,bk,ev,node,live,K,true⟩ (.slice A m cap);generalize aL w1 (w.heap.size+1) ⟨pg,n,f_,bk,ev,node,live,K,true⟩ (.slice A m cap)=w9 at *;dsimp only [ai] at aR;have bV:=aR.cell;refine bodyPost_ret (v:=.tuple #[.agg (ai ⟨pg,n,f_,bk,ev,node,live,K,true⟩ (.slice A m cap)),.int .i64 9]) (by simp [results,results89,go_sem,bV,ai]) rfl ?_;exact ⟨_,rfl,⟨A,cap,by rw [hm.out],by rw [hm.out];exact hcap,hcm,gI.out.call B9⟩,B9⟩
 have h1':cl=false:=by simpa using h1
 subst h1';rw [if_neg (by simp)] at hR;by_cases h2:tt<0
 case pos =>
  have h2':decide (tt<0)=true:=by simpa using h2
  rw [if_pos (.inl h2)] at hR;subst hR;clear h2;go_enter func89,ntmps89;go_wp2_with fail;refine (HK.out _ hr0.out).mono ?_;rintro e w1 ⟨rfl,hb1⟩;have k1:=k0.call hb1;have aN:=kR.call hb1;have B1:=hb0.trans (hb1.mono hb0.size);have hr1:=hr0.out.on hb1;have c1:=k1.cell;have gY:=aN.cell;have gZ:=aN.frozen;clear HK k0 kR hb0 hr0 hb1;go_wp2_with fail;change bodyPost _ _ _ _ _ (aL w1 (w.heap.size+1) ⟨pg,n,f_,bk,ev,node,live,K,false⟩ (.slice A m cap));have aR:=aG aN ⟨pg,n,f_,bk,ev,node,live,K,false⟩ (.slice A m cap);have F9:=aH w1 (w.heap.size+1) ⟨pg,n,f_,bk,ev,node,live,K,false⟩ (.slice A m cap);have B9:=bW B1 (g:=(w.heap.size+1)) (by omega) ⟨pg,n,f_,bk,ev,node,live,K,false⟩ (.slice A m cap);generalize aL w1 (w.heap.size+1) ⟨pg,n,f_,bk,ev,node,live,K,false⟩ (.slice A m cap)=w9 at *;dsimp only [ai] at aR;have bV:=aR.cell;refine bodyPost_ret (v:=.tuple #[.agg (ai ⟨pg,n,f_,bk,ev,node,live,K,false⟩ (.slice A m cap)),.int .i64 7]) (by simp [results,results89,go_sem,bV,ai]) rfl ?_;exact ⟨_,rfl,⟨A,cap,by rw [hm.out],by rw [hm.out];exact hcap,hcm,gI.out.call B9⟩,B9⟩
 have h2':decide (tt<0)=false:=by simpa using h2
 by_cases h3:live<tt
 case pos =>
  have h3':decide (live<tt)=true:=by simpa using h3
  rw [if_pos (.inr h3)] at hR;subst hR;clear h2 h3;go_enter func89,ntmps89;go_wp2_with fail;refine (HK.out _ hr0.out).mono ?_;rintro e w1 ⟨rfl,hb1⟩;have k1:=k0.call hb1;have aN:=kR.call hb1;have B1:=hb0.trans (hb1.mono hb0.size);have hr1:=hr0.out.on hb1;have c1:=k1.cell;have gY:=aN.cell;have gZ:=aN.frozen;clear HK k0 kR hb0 hr0 hb1;go_wp2_with fail;change bodyPost _ _ _ _ _ (aL w1 (w.heap.size+1) ⟨pg,n,f_,bk,ev,node,live,K,false⟩ (.slice A m cap));have aR:=aG aN ⟨pg,n,f_,bk,ev,node,live,K,false⟩ (.slice A m cap);have F9:=aH w1 (w.heap.size+1) ⟨pg,n,f_,bk,ev,node,live,K,false⟩ (.slice A m cap);have B9:=bW B1 (g:=(w.heap.size+1)) (by omega) ⟨pg,n,f_,bk,ev,node,live,K,false⟩ (.slice A m cap);generalize aL w1 (w.heap.size+1) ⟨pg,n,f_,bk,ev,node,live,K,false⟩ (.slice A m cap)=w9 at *;dsimp only [ai] at aR;have bV:=aR.cell;refine bodyPost_ret (v:=.tuple #[.agg (ai ⟨pg,n,f_,bk,ev,node,live,K,false⟩ (.slice A m cap)),.int .i64 7]) (by simp [results,results89,go_sem,bV,ai]) rfl ?_;exact ⟨_,rfl,⟨A,cap,by rw [hm.out],by rw [hm.out];exact hcap,hcm,gI.out.call B9⟩,B9⟩
 have h3':decide (live<tt)=false:=by simpa using h3
 rw [if_neg (by omega)] at hR;obtain ⟨z1,z2,z3⟩:=hZ rfl;have jN:=bP.1 z3;have zK:Go.Pol.Can (bG tt live):=lZ (by omega) (by omega);have oJ:=ae (fun W h=>tL ⟨pg,n,f_,bk,ev,node,live,K,false⟩ A cap W h jN);simp only at oJ;rw [hm.out] at oJ;dsimp only [ai] at oJ;have zM:Hid (setOf (K++bG tt live)=iX (dA (fun k=>mem (k:Int) K) tt live true)):=ae (aad jN (lZ (by omega) (by omega)));generalize setOf (K++bG tt live)=SA at *;clear h1 h2 h3 hZ z3 jN;subst hR;go_enter func89,ntmps89;go_wp2_with fail;refine (HK.out _ hr0.out).mono ?_;rintro e w1 ⟨rfl,hb1⟩;have k1:=k0.call hb1;have aN:=kR.call hb1;have B1:=hb0.trans (hb1.mono hb0.size);have hr1:=hr0.out.on hb1;have c1:=k1.cell;have gY:=aN.cell;have gZ:=aN.frozen;clear HK k0 kR hb0 hr0 hb1;go_wp2_with fail;refine (oJ.out _ hr1).mono ?_;rintro e w2 ⟨cs,rfl,lN,hb2⟩;have hb3:=aV w2 (.cells zeroCells231 231);have kH:=ag.new w2 231 zeroCells231;have k2:=(k1.call hb2).call hb3;have bT:=(aN.call hb2).call hb3;have B3:=(B1.trans (hb2.mono B1.size)).trans (hb3.mono (by have:=B1.size;have:=hb2.size;omega));have hZs:=fV.size;have hsz:=lN.size;have hone:=lN.one;obtain ⟨d,hd⟩:=aj (w2.heap.size);have hwd:w.heap.size+2≤d:=by have h1:=aN.lt;have h2:=hb2.size;omega
 rw [hd] at kH;clear hb3 k1 aN B1 c1 gY gZ hr1 oJ;go_upto_region 10 with (refine wpList_store_mid rfl 231 (.tmp 7) (.tmp 28) rfl d 0 cs rfl rfl (jU cs _ _ d hsz hZs kH).2.2 (by rw [hsz];kernel_rfl) hone ?_)
 obtain ⟨wo,F2,_⟩:=jU cs _ _ d hsz hZs kH;have k3:=F2.blk k2 (by omega);have eZ:=F2.blk bT (by omega);have B4:=B3.trans (F2.below (by have:=B3.size;omega) (fun k hk e=>by omega));generalize (w2.alloc _).setCells d 0 cs.toList=w4 at *;clear kH k2 bT B3 F2 hsz hone hZs;have h20:¬tt<0:=by simpa using h2'
 have h30:¬live<tt:=by simpa using h3'
 obtain ⟨t,rfl⟩:∃t:Nat,tt=t:=⟨tt.toNat,by omega⟩;have htl:(t:Int)≤live:=by omega
 clear h20 h30;have hM0:bC cs (dA (fun k=>mem (k:Int) K) t t true):=lN.congr (fun k hk=>by unfold dA;rw [if_neg (by omega)]);generalize (fun k:Nat=>mem (k:Int) K)=f at *
 go_loopw [8] (fun u wr=>∃(i:Nat) (cs:Array Value),u= .int .i64 i∧t≤i∧(i:Int)≤live∧ag wr w.heap.size 43 #[.int .i64 pg,.int .i64 n,.int .i64 f_,.int .i64 bk,.int .i64 ev,.int .i64 node,.int .i64 live,.slice A m cap,.bool false]∧ag wr (w.heap.size+1) 43 #[.int .i64 0,.int .i64 0,.int .i64 0,.int .i64 0,.int .i64 0,.int .i64 0,.int .i64 0,.slice none 0 0,.bool false]∧ag wr d 231 cs∧bC cs (dA f t i true)∧Below w.heap.size w wr) (fun u _=>(live - intOf u).toNat)
 case atStart=>exact ⟨t,cs,rfl,by omega,htl,k3,eZ,wo,hM0,B4⟩
 case round =>
  clear hM0 lN k3 eZ wo B4;obtain ⟨i,cs,rfl,hti,hil,k3,eZ,kH,hM,B⟩:=hrel;have c3:=k3.cell;by_cases hlt:(i:Int)<live
  ·have d1:decide ((i:Int)<live)=true:=by simpa using hlt
   have hi:i<1024:=by omega
   have hold:=(kH.cell i).trans (hM.at_ i hi);have fH:=kH.frozen;have hM2:=ae (hM.set (g:=dA f t ((i+1:Nat):Int) true) i hi true (by rw [jZ f t i true (by omega),if_pos rfl]) (fun j hj=>by rw [jZ f t i true (by omega),if_neg hj]));generalize dA f t i true i=b0 at hold;have F:af (fun k=>k=d) wr (wr.setCell ⟨d,i,none⟩ (.bool true)):=af.setCell (T:=fun k=>k=d) (p:=⟨d,i,none⟩) (af.refl _ _) (fun _=>rfl) _;go_wp2_with fail;go_roundw
   case rel=>exact ⟨i+1,_,by go_num,by omega,by omega,F.blk k3 (by omega),F.blk eZ (by omega),kH.aO i (.bool true),hM2.out,B.trans (F.below (by have:=B.size;omega) (fun k hk e=>by omega))⟩
   case measure=>simp [intOf];omega
  ·have d1:decide ((i:Int)<live)=false:=by simpa using hlt
   obtain rfl:(i:Int)=live:=by omega
   have hsz:=hM.size
   go_wp2_with (refine wpList_load_mid rfl 231 (.tmp 7) rfl d 0 rfl cs.toList _ (ed kH) underlying231 rfl (by rw [Array.length_toList,hsz];kernel_rfl) ?_;rw [Array.toArray_toList])
   refine (kG cs _ wr hM).mono ?_;rintro e w5 ⟨A5,c5,rfl,hk5,hl5,hc5,hb5⟩;have k5:=k3.call hb5;have mJ:=eZ.call hb5;have B5:=B.trans (hb5.mono B.size);have c5x:=k5.cell;have f5x:=k5.frozen;have cR5:=mJ.cell;have fR5:=mJ.frozen;rw [←zM.out] at hk5 hl5 ⊢;clear k3 eZ kH hM c3 B;have k5H:=ae k5;have ajX:=ae mJ;have nP:=(mJ.far (p:=⟨w.heap.size,6,none⟩) (by show w.heap.size+1≠w.heap.size;omega) (.int .i64 t)).far (p:=⟨w.heap.size,7,none⟩) (by show w.heap.size+1≠w.heap.size;omega) (.slice A5 SA.length c5);have B6:=(B5.setCell (p:=⟨w.heap.size,6,none⟩) (Nat.le_refl _) (.int .i64 t)).setCell (p:=⟨w.heap.size,7,none⟩) (Nat.le_refl _) (.slice A5 SA.length c5);have F4:=((af.refl (fun k=>k=w.heap.size∨k=w.heap.size+1) w5).setCell (p:=⟨w.heap.size,6,none⟩) (fun _=>.inl rfl) (.int .i64 t)).setCell (p:=⟨w.heap.size,7,none⟩) (fun _=>.inl rfl) (.slice A5 SA.length c5);clear k5 mJ B5;go_wp2_with fail;change bodyPost _ _ _ _ _ (aL ((w5.setCell ⟨w.heap.size,6,none⟩ (.int .i64 t)).setCell ⟨w.heap.size,7,none⟩ (.slice A5 SA.length c5)) (w.heap.size+1) ⟨pg,n,f_,bk,ev,node,t,SA,false⟩ (.slice A5 SA.length c5));have aR:=aG nP ⟨pg,n,f_,bk,ev,node,t,SA,false⟩ (.slice A5 SA.length c5);have F9:=aH ((w5.setCell ⟨w.heap.size,6,none⟩ (.int .i64 t)).setCell ⟨w.heap.size,7,none⟩ (.slice A5 SA.length c5)) (w.heap.size+1) ⟨pg,n,f_,bk,ev,node,t,SA,false⟩ (.slice A5 SA.length c5);have B9:=bW B6 (g:=(w.heap.size+1)) (by omega) ⟨pg,n,f_,bk,ev,node,t,SA,false⟩ (.slice A5 SA.length c5);generalize aL ((w5.setCell ⟨w.heap.size,6,none⟩ (.int .i64 t)).setCell ⟨w.heap.size,7,none⟩ (.slice A5 SA.length c5)) (w.heap.size+1) ⟨pg,n,f_,bk,ev,node,t,SA,false⟩ (.slice A5 SA.length c5)=w9 at *;dsimp only [ai] at aR;have bV:=aR.cell;refine bodyPost_ret (v:=.tuple #[.agg (ai ⟨pg,n,f_,bk,ev,node,t,SA,false⟩ (.slice A5 SA.length c5)),.int .i64 0]) (by simp [results,results89,go_sem,bV,ai]) rfl ?_;have F6:=F4.trans (F9.mono (fun k _ hk=>.inr hk));exact ⟨_,rfl,⟨A5,c5,rfl,hl5,hc5,hk5.far F6 (fun g cs hg=>by rintro (rfl|rfl);exact k5H.out.ne hg;exact ajX.out.ne hg)⟩,B9⟩
theorem Qb {K:List Sp} (hK:Go.Pol.Can K) (k:Int):(lq K (k,1)=0∧(aZ K (k,1)).isEmpty=true)↔(0≤k∧k<1024∧mem k K=true):=by
 have ha:lq K (k,1)=0↔0≤k∧k<1024:=by
  unfold lq;rw [if_pos (bP.2 hK)];have hv:bB (k,1)=true↔0≤k∧k<1024:=by rw [av];simp only;omega
  by_cases h:bB (k,1)=true
  ·rw [if_pos h];exact ⟨fun _=>hv.1 h,fun _=>rfl⟩
  ·rw [if_neg h];exact ⟨fun e=>absurd e (by decide),fun e=>absurd (hv.2 e) h⟩
 constructor
 ·rintro ⟨h1,h2⟩
  have h3:=ha.1 h1;rw [O3 hK (av.2 (by simp only;omega))] at h2;exact ⟨h3.1,h3.2,h2⟩
 ·rintro ⟨h1,h2,h3⟩
  exact ⟨ha.2 ⟨h1,h2⟩,by rw [O3 hK (av.2 (by simp only;omega))];exact h3⟩
theorem aae {K:List Sp} (hK:Go.Pol.Can K) {k:Nat} (hk:k<1024):ay K (aZ [((k:Int),1)] (0,1024))=iX (dA (fun j=>mem (j:Int) K) k ((k+1:Nat):Int) false):=by
 have h1:Go.Pol.Can [((k:Int),1)]:=Can.one (av.2 (by simp only;omega));refine (pE hK h1).og _ (fun p hp=>?_);rw [sJ hK h1];unfold dA;by_cases h:p=k
 ·subst h
  rw [if_pos (by omega)];have:mem (p:Int) [((p:Int),1)]=true:=by rw [iM];simp only;omega
  rw [this];simp
 ·rw [if_neg (by omega)]
  have:mem (p:Int) [((k:Int),1)]=false:=by rw [Bool.eq_false_iff,Ne,iM];simp only;omega
  rw [this];simp
theorem MW (B bs bb:Nat) (V:Vm) (L:List Nd) (r:Cr) (k:Int) (A:Option Addr) (cap:Nat) (w:World) (hV:bq w B bs V) (hB:eP w B bb L) (hO:bg L) (hnl:bE r=0→r.node.toNat<L.length) (hcap:r.kept.length≤cap) (hcm:cap≤maxLen) (hk:KeptAt w A r.kept) (h0:bE r=0) (hp:0≤k∧k<1024∧mem k r.kept=true) :
  Calls prog 90 #[.pointer (some ⟨bs,0,none⟩),.pointer (some ⟨bb,0,none⟩),.agg (ai r (.slice A r.kept.length cap)),.int .i64 k] w fun e w'=>∃v,e= .returned (.tuple #[v,.int .i64 (bX V L r k).2.1])∧Bj (bX V L r k).1 w' v∧bI B bs bb (bX V L r k).2.2.1 (bX V L r k).2.2.2 w w':=by
 have hr:=hk.ru;have hlt:=hV.lt;have HK:=ae (fun W h=>jF r A cap W hcap hcm h);have oJ:=ae (fun W h hc=>tL r A cap W h hc);obtain ⟨R,hR⟩:=aj (bX V L r k);rw [hR];unfold bX at hR;have hz:=@gB r;have hZ:bE r=0→0≤r.node∧bN r.pg r.n r.f r.bk r.ev=0∧dX r.kept=0∧r.node.toNat<L.length:=fun h=>⟨(hz.1 h).node.1,bU.2 (hz.1 h).plan,bP.2 (hz.1 h).can,hnl h⟩
 clear hz hnl;generalize bE r=ck at *;obtain ⟨pg,n,f,bk,ev,node,live,K,cl⟩:=r;simp only at hcap hcm hr hk hR hZ HK oJ hp ⊢;obtain ⟨m,hm0⟩:=aj (K.length);rw [hm0] at hcap HK oJ ⊢;have hm:=ae hm0;have hb0:=below_alloc2 (aV w (.cells (ai ⟨pg,n,f,bk,ev,node,live,K,cl⟩ (.slice A m cap)) 43)) (.cells (ai bn (.slice none 0 0)) 43);have k0:=(ag.new w 43 (ai ⟨pg,n,f,bk,ev,node,live,K,cl⟩ (.slice A m cap))).dU (.cells (ai bn (.slice none 0 0)) 43);have kR:=ag.nL w (.cells (ai ⟨pg,n,f,bk,ev,node,live,K,cl⟩ (.slice A m cap)) 43) 43 (ai bn (.slice none 0 0));have hr0:=ae (hr.on hb0);dsimp only [ai,bn] at k0 hb0 kR hr0 HK ⊢;have gI:=ae hk;dsimp only [ai] at oJ;clear hm0 hr hk;subst h0;rw [if_neg (by simp)] at hR;obtain ⟨z1,z2,z3,z4⟩:=hZ rfl;have jN:=bP.1 z3;have hph:=Qb jN k;have IP:=ae (fun W h=>oJ.out W h jN);rw [if_neg (Classical.not_not.2 (hph.2 hp))] at hR;clear oJ hph z3 hZ;obtain ⟨p1,p2,d3⟩:=hp;obtain ⟨j,rfl⟩:∃j:Nat,k=j:=⟨k.toNat,by omega⟩;have hj:j<1024:=by omega
 have d1:decide ((j:Int)<0)=false:=by simp
 have d2:decide (1024≤(j:Int))=false:=by simp;omega
 clear p1 p2;have HN:=ae (fun W=>yV pg n f bk ev j W (lu (aA pg n f bk ev) j) (by rw [if_pos z2]));obtain ⟨pn,hpn⟩:=aj (lu (aA pg n f bk ev) j);rw [hpn] at HN hR;obtain ⟨pn,pe⟩:=pn;have HD:=ae (fun W h=>tC B bs pn 1 V W h);obtain ⟨J,hJ⟩:=aj (bJ V pn 1 3 2 1);simp only [hJ] at hR;rw [hJ] at HD;obtain ⟨je,jV⟩:=J;clear hpn hJ;simp only at hR HD HN;rw [aae jN hj] at hR;have hBr:=ae hB;by_cases h3:je=0
 case neg =>
  have h3':(je != 0)=true:=by simpa using h3
  rw [if_pos h3] at hR;subst hR;clear h3 jN z2;go_enter func90,ntmps90;go_wp2_with fail;refine (HK.out _ hr0.out).mono ?_;rintro e w1 ⟨rfl,hb1⟩;have k1:=k0.call hb1;have aN:=kR.call hb1;have B1:=hb0.trans (hb1.mono hb0.size);have hr1:=hr0.out.on hb1;have c1:=k1.cell;have gY:=aN.cell;have gZ:=aN.frozen;clear HK k0 kR hb0 hr0 hb1;go_wp2_with fail;refine (IP.out _ hr1).mono ?_;rintro e w2 ⟨cs,rfl,lN,hb2⟩;have hb3:=aV w2 (.cells zeroCells231 231);have kH:=ag.new w2 231 zeroCells231;have k2:=(k1.call hb2).call hb3;have bT:=(aN.call hb2).call hb3;have B3:=(B1.trans (hb2.mono B1.size)).trans (hb3.mono (by have:=B1.size;have:=hb2.size;omega));have hZs:=fV.size;have hsz:=lN.size;have hone:=lN.one;obtain ⟨d,hd⟩:=aj (w2.heap.size);have hwd:w.heap.size+2≤d:=by have h1:=aN.lt;have h2:=hb2.size;omega
  rw [hd] at kH;clear hb3 k1 aN B1 c1 gY gZ hr1 IP;go_upto_region 5 with (refine wpList_store_mid rfl 231 (.tmp 11) (.tmp 21) rfl d 0 cs rfl rfl (jU cs _ _ d hsz hZs kH).2.2 (by rw [hsz];kernel_rfl) hone ?_)
  obtain ⟨wo,F2,_⟩:=jU cs _ _ d hsz hZs kH;have k4:=F2.blk k2 (by omega);have dI:=F2.blk bT (by omega);have B4:=B3.trans (F2.below (by have:=B3.size;omega) (fun k hk e=>by omega));generalize (w2.alloc _).setCells d 0 cs.toList=w4 at *;clear kH k2 bT B3 F2 hone hZs hb2;have c4:=k4.cell;have Qc:=dI.cell;have Qd:=dI.frozen;have q4:=(wo.cell j).trans (lN.at_ j hj);rw [d3] at q4;go_wp2_with fail;refine (HN.out _).mono ?_;rintro e w5 ⟨rfl,hb5⟩;have k5:=k4.call hb5;have mJ:=dI.call hb5;have kH5:=wo.call hb5;have B5:=B4.trans (hb5.mono (by have:=B4.size;omega));have c5:=k5.cell;clear k4 dI wo B4 c4 Qc Qd q4 hb5 HN;go_wp2_with fail;refine (HD.out _ (hV.call B5)).mono ?_;rintro e w6 ⟨rfl,h6⟩;have S6:=bI.iK (hV.call B5) (hBr.out.call B5) h6;have T6:=(bI.below hV hBr.out B5).trans S6;have k6:=S6.blk (hV.call B5) k5 (by decide) (by decide);have nP:=S6.blk (hV.call B5) mJ (by decide) (by decide);have zQ:=S6.blk (hV.call B5) kH5 (by decide) (by decide);have c6:=k6.cell;have cR6:=nP.cell;have fR6:=nP.frozen;clear k5 mJ kH5 c5 h6;go_wp2_with fail;change bodyPost _ _ _ _ _ (aL w6 (w.heap.size+1) ⟨pg,n,f,bk,ev,node,live,K,cl⟩ (.slice A m cap));have aR:=aG nP ⟨pg,n,f,bk,ev,node,live,K,cl⟩ (.slice A m cap);have F9:=aH w6 (w.heap.size+1) ⟨pg,n,f,bk,ev,node,live,K,cl⟩ (.slice A m cap);generalize aL w6 (w.heap.size+1) ⟨pg,n,f,bk,ev,node,live,K,cl⟩ (.slice A m cap)=w9 at *;dsimp only [ai] at aR;have bV:=aR.cell;refine bodyPost_ret (v:=.tuple #[.agg (ai ⟨pg,n,f,bk,ev,node,live,K,cl⟩ (.slice A m cap)),.int .i64 je]) (by simp [results,results90,go_sem,bV,ai]) rfl ?_;have T9:=T6.fresh F9 hlt (fun k hk=>by subst hk;omega) (fun k hk=>by subst hk;exact ⟨_,_,nP,by decide,by decide⟩);exact ⟨_,rfl,⟨A,cap,by rw [hm.out],by rw [hm.out];exact hcap,hcm,T9.kept hV gI.out⟩,T9⟩
 subst h3;rw [if_neg (by simp)] at hR;obtain ⟨nn,rfl⟩:∃nn:Nat,node=nn:=⟨node.toNat,by omega⟩;rw [Int.toNat_natCast] at hR z4;have HG:=ae (fun W h=>BJ B bb nn 1 L W h hO z4);generalize iT L nn 1=G at *;generalize zM:iX (dA (fun i=>mem (i:Int) K) j ((j+1:Nat):Int) false)=SA at *;have aah:=ae zM;clear zM jN z2;subst hR;go_enter func90,ntmps90;go_wp2_with fail;refine (HK.out _ hr0.out).mono ?_;rintro e w1 ⟨rfl,hb1⟩;have k1:=k0.call hb1;have aN:=kR.call hb1;have B1:=hb0.trans (hb1.mono hb0.size);have hr1:=hr0.out.on hb1;have c1:=k1.cell;have gY:=aN.cell;have gZ:=aN.frozen;clear HK k0 kR hb0 hr0 hb1;go_wp2_with fail;refine (IP.out _ hr1).mono ?_;rintro e w2 ⟨cs,rfl,lN,hb2⟩;have hb3:=aV w2 (.cells zeroCells231 231);have kH:=ag.new w2 231 zeroCells231;have k2:=(k1.call hb2).call hb3;have bT:=(aN.call hb2).call hb3;have B3:=(B1.trans (hb2.mono B1.size)).trans (hb3.mono (by have:=B1.size;have:=hb2.size;omega));have hZs:=fV.size;have hsz:=lN.size;have hone:=lN.one;obtain ⟨d,hd⟩:=aj (w2.heap.size);have hwd:w.heap.size+2≤d:=by have h1:=aN.lt;have h2:=hb2.size;omega
 rw [hd] at kH;clear hb3 k1 aN B1 c1 gY gZ hr1 IP;go_upto_region 5 with (refine wpList_store_mid rfl 231 (.tmp 11) (.tmp 21) rfl d 0 cs rfl rfl (jU cs _ _ d hsz hZs kH).2.2 (by rw [hsz];kernel_rfl) hone ?_)
 obtain ⟨wo,F2,_⟩:=jU cs _ _ d hsz hZs kH;have k4:=F2.blk k2 (by omega);have dI:=F2.blk bT (by omega);have B4:=B3.trans (F2.below (by have:=B3.size;omega) (fun k hk e=>by omega));generalize (w2.alloc _).setCells d 0 cs.toList=w4 at *;clear kH k2 bT B3 F2 hone hZs hb2;have c4:=k4.cell;have Qc:=dI.cell;have Qd:=dI.frozen;have q4:=(wo.cell j).trans (lN.at_ j hj);rw [d3] at q4;go_wp2_with fail;refine (HN.out _).mono ?_;rintro e w5 ⟨rfl,hb5⟩;have k5:=k4.call hb5;have mJ:=dI.call hb5;have kH5:=wo.call hb5;have B5:=B4.trans (hb5.mono (by have:=B4.size;omega));have c5:=k5.cell;clear k4 dI wo B4 c4 Qc Qd q4 hb5 HN;go_wp2_with fail;refine (HD.out _ (hV.call B5)).mono ?_;rintro e w6 ⟨rfl,h6⟩;have S6:=bI.iK (hV.call B5) (hBr.out.call B5) h6;have T6:=(bI.below hV hBr.out B5).trans S6;have k6:=S6.blk (hV.call B5) k5 (by decide) (by decide);have nP:=S6.blk (hV.call B5) mJ (by decide) (by decide);have zQ:=S6.blk (hV.call B5) kH5 (by decide) (by decide);have c6:=k6.cell;have cR6:=nP.cell;have fR6:=nP.frozen;clear k5 mJ kH5 c5 h6;go_wp2_with fail;refine (HG.out _ T6.eD).mono ?_;rintro e w7 ⟨rfl,h7⟩;have S7:=bI.mi T6.sys h7;have T7:=T6.trans S7;have k7:=S7.blk T6.sys k6;have MX:=S7.blk T6.sys nP;have Qe:=S7.blk T6.sys zQ;have q7:=(Qe.cell j).trans (lN.at_ j hj);rw [d3] at q7;have fH7:=Qe.frozen;have hM2:=lN.set (g:=dA (fun i=>mem (i:Int) K) j ((j+1:Nat):Int) false) j hj false (by unfold dA;rw [if_pos (by omega)]) (fun i hi=>by unfold dA;rw [if_neg (by omega)]);have F8:af (fun k=>k=d) w7 (w7.setCell ⟨d,j,none⟩ (.bool false)):=af.setCell (T:=fun k=>k=d) (p:=⟨d,j,none⟩) (af.refl _ _) (fun _=>rfl) _;have T8:=T7.fresh F8 hlt (fun k hk=>by subst hk;omega) (fun k hk=>by subst hk;exact ⟨_,_,Qe,by decide,by decide⟩);have k8:=F8.blk k7 (by omega);have MZ:=F8.blk MX (by omega);have JX:=Qe.aO j (.bool false);obtain ⟨cs8,adM⟩:∃c,cs.setIfInBounds j (.bool false)=c:=⟨_,rfl⟩;rw [adM] at JX hM2;clear adM;obtain ⟨w8,hw8⟩:=aj (w7.setCell ⟨d,j,none⟩ (.bool false));rw [hw8] at T8 k8 MZ JX;have aj0:=hM2.size;have ou:=kG _ _ w8 hM2;rw [aah.out] at ou;have c8:=k8.cell;have c7:=k7.cell;clear k6 nP zQ c6 cR6 fR6 h7 S7 S6 T6 T7 MX Qe HG HD F8 k7
 go_wp2_with (refine wpList_load_mid rfl 231 (.tmp 11) rfl d 0 rfl cs8.toList _ (ed JX) underlying231 rfl (by rw [Array.length_toList,aj0];kernel_rfl) ?_;rw [Array.toArray_toList])
 refine ou.mono ?_;rintro e wq ⟨Aq,cq,rfl,hkq,hlq,hcq,hbq⟩;have kq:=k8.call hbq;have wu:=MZ.call hbq;have Tq:=T8.aU hbq;have cqx:=kq.cell;have fqx:=kq.frozen;have cRq:=wu.cell;have fRq:=wu.frozen;clear k8 MZ JX T8 ou hM2;go_wp2_with fail;change bodyPost _ _ _ _ _ (aL (wq.setCell ⟨w.heap.size,7,none⟩ (.slice Aq SA.length cq)) (w.heap.size+1) ⟨pg,n,f,bk,ev,nn,live,SA,cl⟩ (.slice Aq SA.length cq));have aR:=aG (wu.far (p:=⟨w.heap.size,7,none⟩) (by show w.heap.size+1≠w.heap.size;omega) (.slice Aq SA.length cq)) ⟨pg,n,f,bk,ev,nn,live,SA,cl⟩ (.slice Aq SA.length cq);have F9:=aH (wq.setCell ⟨w.heap.size,7,none⟩ (.slice Aq SA.length cq)) (w.heap.size+1) ⟨pg,n,f,bk,ev,nn,live,SA,cl⟩ (.slice Aq SA.length cq);generalize aL (wq.setCell ⟨w.heap.size,7,none⟩ (.slice Aq SA.length cq)) (w.heap.size+1) ⟨pg,n,f,bk,ev,nn,live,SA,cl⟩ (.slice Aq SA.length cq)=w9 at *;dsimp only [ai] at aR;have bV:=aR.cell;refine bodyPost_ret (v:=.tuple #[.agg (ai ⟨pg,n,f,bk,ev,nn,live,SA,cl⟩ (.slice Aq SA.length cq)),.int .i64 0]) (by simp [results,results90,go_sem,bV,ai]) rfl ?_;have F6:=((af.refl (fun k=>k=w.heap.size∨k=w.heap.size+1) wq).setCell (p:=⟨w.heap.size,7,none⟩) (fun _=>.inl rfl) (.slice Aq SA.length cq)).trans (F9.mono (fun k _ hk=>.inr hk));have T9:=Tq.fresh F6 hlt (fun k hk=>by rcases hk with rfl|rfl <;> omega) (fun k hk=>by rcases hk with rfl|rfl;exact ⟨_,_,kq,by decide,by decide⟩;exact ⟨_,_,wu,by decide,by decide⟩);exact ⟨_,rfl,⟨Aq,cq,rfl,hlq,hcq,hkq.far F6 (fun g cs hg=>by rintro (rfl|rfl);exact kq.ne hg;exact wu.ne hg)⟩,T9⟩
theorem Qf (B bs bb:Nat) (V:Vm) (L:List Nd) (r:Cr) (k:Int) (A:Option Addr) (cap:Nat) (w:World) (hV:bq w B bs V) (hB:eP w B bb L) (hO:bg L) (hnl:bE r=0→r.node.toNat<L.length) (hcap:r.kept.length≤cap) (hcm:cap≤maxLen) (hk:KeptAt w A r.kept) :
  Calls prog 90 #[.pointer (some ⟨bs,0,none⟩),.pointer (some ⟨bb,0,none⟩),.agg (ai r (.slice A r.kept.length cap)),.int .i64 k] w fun e w'=>∃v,e= .returned (.tuple #[v,.int .i64 (bX V L r k).2.1])∧Bj (bX V L r k).1 w' v∧bI B bs bb (bX V L r k).2.2.1 (bX V L r k).2.2.2 w w':=by
 by_cases hY:bE r=0∧(0≤k∧k<1024∧mem k r.kept=true)
 ·exact MW B bs bb V L r k A cap w hV hB hO hnl hcap hcm hk hY.1 hY.2
 have hr:=hk.ru;have hlt:=hV.lt;have HK:=ae (fun W h=>jF r A cap W hcap hcm h);have oJ:=ae (fun W h hc=>tL r A cap W h hc);obtain ⟨R,hR⟩:=aj (bX V L r k);rw [hR];unfold bX at hR;have hz:=@gB r;have hZ:bE r=0→0≤r.node∧bN r.pg r.n r.f r.bk r.ev=0∧dX r.kept=0∧r.node.toNat<L.length:=fun h=>⟨(hz.1 h).node.1,bU.2 (hz.1 h).plan,bP.2 (hz.1 h).can,hnl h⟩
 clear hz hnl;generalize bE r=ck at *;obtain ⟨pg,n,f,bk,ev,node,live,K,cl⟩:=r;simp only at hcap hcm hr hk hR hZ HK oJ hY ⊢;obtain ⟨m,hm0⟩:=aj (K.length);rw [hm0] at hcap HK oJ ⊢;have hm:=ae hm0;have hb0:=below_alloc2 (aV w (.cells (ai ⟨pg,n,f,bk,ev,node,live,K,cl⟩ (.slice A m cap)) 43)) (.cells (ai bn (.slice none 0 0)) 43);have k0:=(ag.new w 43 (ai ⟨pg,n,f,bk,ev,node,live,K,cl⟩ (.slice A m cap))).dU (.cells (ai bn (.slice none 0 0)) 43);have kR:=ag.nL w (.cells (ai ⟨pg,n,f,bk,ev,node,live,K,cl⟩ (.slice A m cap)) 43) 43 (ai bn (.slice none 0 0));have hr0:=ae (hr.on hb0);dsimp only [ai,bn] at k0 hb0 kR hr0 HK ⊢;have gI:=ae hk;dsimp only [ai] at oJ;clear hm0 hr hk;by_cases h0:ck=0
 case neg =>
  have h0':(ck != 0)=true:=by simpa using h0
  rw [if_pos h0] at hR;subst hR;clear h0 hZ;go_enter func90,ntmps90;go_wp2_with fail;refine (HK.out _ hr0.out).mono ?_;rintro e w1 ⟨rfl,hb1⟩;have k1:=k0.call hb1;have aN:=kR.call hb1;have B1:=hb0.trans (hb1.mono hb0.size);have hr1:=hr0.out.on hb1;have c1:=k1.cell;have gY:=aN.cell;have gZ:=aN.frozen;clear HK k0 kR hb0 hr0 hb1;go_wp2_with fail;change bodyPost _ _ _ _ _ (aL w1 (w.heap.size+1) ⟨pg,n,f,bk,ev,node,live,K,cl⟩ (.slice A m cap));have aR:=aG aN ⟨pg,n,f,bk,ev,node,live,K,cl⟩ (.slice A m cap);have F9:=aH w1 (w.heap.size+1) ⟨pg,n,f,bk,ev,node,live,K,cl⟩ (.slice A m cap);have B9:=bW B1 (g:=(w.heap.size+1)) (by omega) ⟨pg,n,f,bk,ev,node,live,K,cl⟩ (.slice A m cap);generalize aL w1 (w.heap.size+1) ⟨pg,n,f,bk,ev,node,live,K,cl⟩ (.slice A m cap)=w9 at *;dsimp only [ai] at aR;have bV:=aR.cell;refine bodyPost_ret (v:=.tuple #[.agg (ai ⟨pg,n,f,bk,ev,node,live,K,cl⟩ (.slice A m cap)),.int .i64 ck]) (by simp [results,results90,go_sem,bV,ai]) rfl ?_;exact ⟨_,rfl,⟨A,cap,by rw [hm.out],by rw [hm.out];exact hcap,hcm,gI.out.call B9⟩,.below hV hB B9⟩
 subst h0;rw [if_neg (by simp)] at hR;obtain ⟨z1,z2,z3,z4⟩:=hZ rfl;have jN:=bP.1 z3;have hph:=Qb jN k;have IP:=ae (fun W h=>oJ.out W h jN);have hp:¬(0≤k∧k<1024∧mem k K=true):=fun e=>hY ⟨rfl,e⟩
 clear hY;rw [if_pos (fun e=>hp (hph.1 e))] at hR;subst hR;clear oJ hph z3 hZ;by_cases p1:k<0
 ·have d1:decide (k<0)=true:=by simpa using p1
  clear hp p1;go_enter func90,ntmps90;go_wp2_with fail;refine (HK.out _ hr0.out).mono ?_;rintro e w1 ⟨rfl,hb1⟩;have k1:=k0.call hb1;have aN:=kR.call hb1;have B1:=hb0.trans (hb1.mono hb0.size);have hr1:=hr0.out.on hb1;have c1:=k1.cell;have gY:=aN.cell;have gZ:=aN.frozen;clear HK k0 kR hb0 hr0 hb1;go_wp2_with fail;refine (IP.out _ hr1).mono ?_;rintro e w2 ⟨cs,rfl,lN,hb2⟩;have hb3:=aV w2 (.cells zeroCells231 231);have kH:=ag.new w2 231 zeroCells231;have k2:=(k1.call hb2).call hb3;have bT:=(aN.call hb2).call hb3;have B3:=(B1.trans (hb2.mono B1.size)).trans (hb3.mono (by have:=B1.size;have:=hb2.size;omega));have hZs:=fV.size;have hsz:=lN.size;have hone:=lN.one;obtain ⟨d,hd⟩:=aj (w2.heap.size);have hwd:w.heap.size+2≤d:=by have h1:=aN.lt;have h2:=hb2.size;omega
  rw [hd] at kH;clear hb3 k1 aN B1 c1 gY gZ hr1 IP;go_upto_region 5 with (refine wpList_store_mid rfl 231 (.tmp 11) (.tmp 21) rfl d 0 cs rfl rfl (jU cs _ _ d hsz hZs kH).2.2 (by rw [hsz];kernel_rfl) hone ?_)
  obtain ⟨wo,F2,_⟩:=jU cs _ _ d hsz hZs kH;have k4:=F2.blk k2 (by omega);have dI:=F2.blk bT (by omega);have B4:=B3.trans (F2.below (by have:=B3.size;omega) (fun k hk e=>by omega));generalize (w2.alloc _).setCells d 0 cs.toList=w4 at *;clear kH k2 bT B3 F2 hone hZs hb2;have c4:=k4.cell;have Qc:=dI.cell;have Qd:=dI.frozen;go_wp2_with fail;change bodyPost _ _ _ _ _ (aL w4 (w.heap.size+1) ⟨pg,n,f,bk,ev,node,live,K,cl⟩ (.slice A m cap));have aR:=aG dI ⟨pg,n,f,bk,ev,node,live,K,cl⟩ (.slice A m cap);have F9:=aH w4 (w.heap.size+1) ⟨pg,n,f,bk,ev,node,live,K,cl⟩ (.slice A m cap);have B9:=bW B4 (g:=(w.heap.size+1)) (by omega) ⟨pg,n,f,bk,ev,node,live,K,cl⟩ (.slice A m cap);generalize aL w4 (w.heap.size+1) ⟨pg,n,f,bk,ev,node,live,K,cl⟩ (.slice A m cap)=w9 at *;dsimp only [ai] at aR;have bV:=aR.cell;refine bodyPost_ret (v:=.tuple #[.agg (ai ⟨pg,n,f,bk,ev,node,live,K,cl⟩ (.slice A m cap)),.int .i64 4]) (by simp [results,results90,go_sem,bV,ai]) rfl ?_;exact ⟨_,rfl,⟨A,cap,by rw [hm.out],by rw [hm.out];exact hcap,hcm,gI.out.call B9⟩,.below hV hB B9⟩
 have d1:decide (k<0)=false:=by simpa using p1
 by_cases p2:1024≤k
 ·have d2:decide (1024≤k)=true:=by simpa using p2
  clear hp p1 p2;go_enter func90,ntmps90;go_wp2_with fail;refine (HK.out _ hr0.out).mono ?_;rintro e w1 ⟨rfl,hb1⟩;have k1:=k0.call hb1;have aN:=kR.call hb1;have B1:=hb0.trans (hb1.mono hb0.size);have hr1:=hr0.out.on hb1;have c1:=k1.cell;have gY:=aN.cell;have gZ:=aN.frozen;clear HK k0 kR hb0 hr0 hb1;go_wp2_with fail;refine (IP.out _ hr1).mono ?_;rintro e w2 ⟨cs,rfl,lN,hb2⟩;have hb3:=aV w2 (.cells zeroCells231 231);have kH:=ag.new w2 231 zeroCells231;have k2:=(k1.call hb2).call hb3;have bT:=(aN.call hb2).call hb3;have B3:=(B1.trans (hb2.mono B1.size)).trans (hb3.mono (by have:=B1.size;have:=hb2.size;omega));have hZs:=fV.size;have hsz:=lN.size;have hone:=lN.one;obtain ⟨d,hd⟩:=aj (w2.heap.size);have hwd:w.heap.size+2≤d:=by have h1:=aN.lt;have h2:=hb2.size;omega
  rw [hd] at kH;clear hb3 k1 aN B1 c1 gY gZ hr1 IP;go_upto_region 5 with (refine wpList_store_mid rfl 231 (.tmp 11) (.tmp 21) rfl d 0 cs rfl rfl (jU cs _ _ d hsz hZs kH).2.2 (by rw [hsz];kernel_rfl) hone ?_)
  obtain ⟨wo,F2,_⟩:=jU cs _ _ d hsz hZs kH;have k4:=F2.blk k2 (by omega);have dI:=F2.blk bT (by omega);have B4:=B3.trans (F2.below (by have:=B3.size;omega) (fun k hk e=>by omega));generalize (w2.alloc _).setCells d 0 cs.toList=w4 at *;clear kH k2 bT B3 F2 hone hZs hb2;have c4:=k4.cell;have Qc:=dI.cell;have Qd:=dI.frozen;go_wp2_with fail;change bodyPost _ _ _ _ _ (aL w4 (w.heap.size+1) ⟨pg,n,f,bk,ev,node,live,K,cl⟩ (.slice A m cap));have aR:=aG dI ⟨pg,n,f,bk,ev,node,live,K,cl⟩ (.slice A m cap);have F9:=aH w4 (w.heap.size+1) ⟨pg,n,f,bk,ev,node,live,K,cl⟩ (.slice A m cap);have B9:=bW B4 (g:=(w.heap.size+1)) (by omega) ⟨pg,n,f,bk,ev,node,live,K,cl⟩ (.slice A m cap);generalize aL w4 (w.heap.size+1) ⟨pg,n,f,bk,ev,node,live,K,cl⟩ (.slice A m cap)=w9 at *;dsimp only [ai] at aR;have bV:=aR.cell;refine bodyPost_ret (v:=.tuple #[.agg (ai ⟨pg,n,f,bk,ev,node,live,K,cl⟩ (.slice A m cap)),.int .i64 4]) (by simp [results,results90,go_sem,bV,ai]) rfl ?_;exact ⟨_,rfl,⟨A,cap,by rw [hm.out],by rw [hm.out];exact hcap,hcm,gI.out.call B9⟩,.below hV hB B9⟩
 have d2:decide (1024≤k)=false:=by simpa using p2
 have d3:mem k K=false:=by
  rw [Bool.eq_false_iff];exact fun e=>hp ⟨by omega,by omega,e⟩
 obtain ⟨j,rfl⟩:∃j:Nat,k=j:=⟨k.toNat,by omega⟩;have hj:j<1024:=by omega
 clear hp p1 p2;go_enter func90,ntmps90;go_wp2_with fail;refine (HK.out _ hr0.out).mono ?_;rintro e w1 ⟨rfl,hb1⟩;have k1:=k0.call hb1;have aN:=kR.call hb1;have B1:=hb0.trans (hb1.mono hb0.size);have hr1:=hr0.out.on hb1;have c1:=k1.cell;have gY:=aN.cell;have gZ:=aN.frozen;clear HK k0 kR hb0 hr0 hb1;go_wp2_with fail;refine (IP.out _ hr1).mono ?_;rintro e w2 ⟨cs,rfl,lN,hb2⟩;have hb3:=aV w2 (.cells zeroCells231 231);have kH:=ag.new w2 231 zeroCells231;have k2:=(k1.call hb2).call hb3;have bT:=(aN.call hb2).call hb3;have B3:=(B1.trans (hb2.mono B1.size)).trans (hb3.mono (by have:=B1.size;have:=hb2.size;omega));have hZs:=fV.size;have hsz:=lN.size;have hone:=lN.one;obtain ⟨d,hd⟩:=aj (w2.heap.size);have hwd:w.heap.size+2≤d:=by have h1:=aN.lt;have h2:=hb2.size;omega
 rw [hd] at kH;clear hb3 k1 aN B1 c1 gY gZ hr1 IP;go_upto_region 5 with (refine wpList_store_mid rfl 231 (.tmp 11) (.tmp 21) rfl d 0 cs rfl rfl (jU cs _ _ d hsz hZs kH).2.2 (by rw [hsz];kernel_rfl) hone ?_)
 obtain ⟨wo,F2,_⟩:=jU cs _ _ d hsz hZs kH;have k4:=F2.blk k2 (by omega);have dI:=F2.blk bT (by omega);have B4:=B3.trans (F2.below (by have:=B3.size;omega) (fun k hk e=>by omega));generalize (w2.alloc _).setCells d 0 cs.toList=w4 at *;clear kH k2 bT B3 F2 hone hZs hb2;have c4:=k4.cell;have Qc:=dI.cell;have Qd:=dI.frozen;have q4:=(wo.cell j).trans (lN.at_ j hj);rw [d3] at q4;go_wp2_with fail;change bodyPost _ _ _ _ _ (aL w4 (w.heap.size+1) ⟨pg,n,f,bk,ev,node,live,K,cl⟩ (.slice A m cap));have aR:=aG dI ⟨pg,n,f,bk,ev,node,live,K,cl⟩ (.slice A m cap);have F9:=aH w4 (w.heap.size+1) ⟨pg,n,f,bk,ev,node,live,K,cl⟩ (.slice A m cap);have B9:=bW B4 (g:=(w.heap.size+1)) (by omega) ⟨pg,n,f,bk,ev,node,live,K,cl⟩ (.slice A m cap);generalize aL w4 (w.heap.size+1) ⟨pg,n,f,bk,ev,node,live,K,cl⟩ (.slice A m cap)=w9 at *;dsimp only [ai] at aR;have bV:=aR.cell;refine bodyPost_ret (v:=.tuple #[.agg (ai ⟨pg,n,f,bk,ev,node,live,K,cl⟩ (.slice A m cap)),.int .i64 4]) (by simp [results,results90,go_sem,bV,ai]) rfl ?_;exact ⟨_,rfl,⟨A,cap,by rw [hm.out],by rw [hm.out];exact hcap,hcm,gI.out.call B9⟩,.below hV hB B9⟩
theorem M0 (B bs:Nat) (V:Vm) (pg n f bk ev node:Int) (w:World) (hV:bq w B bs V) :
  Calls prog 85 #[.pointer (some ⟨bs,0,none⟩),eQ pg n f bk ev,.int .i64 node] w fun e w'=>∃v,e= .returned (.tuple #[v,.int .i64 (kC V pg n f bk ev node).2.1])∧Bj (kC V pg n f bk ev node).1 w' v∧dZ B bs (kC V pg n f bk ev node).2.2 w w':=by
 have hlt:=hV.lt;have HK:=ae (fun W=>oh pg n f bk ev W);obtain ⟨R,hR⟩:=aj (kC V pg n f bk ev node);rw [hR];unfold kC at hR;simp only at hR;rw [Qg] at hR;have hb0:=below_alloc2 (aV w (.cells (bf pg n f bk ev) 25)) (.cells (ai bn (.slice none 0 0)) 43);have k0:=(ag.new w 25 (bf pg n f bk ev)).dU (.cells (ai bn (.slice none 0 0)) 43);have kR:=ag.nL w (.cells (bf pg n f bk ev) 25) 43 (ai bn (.slice none 0 0));dsimp only [ai,bn,bf] at k0 hb0 kR ⊢;unfold eQ at HK ⊢;generalize hck:bN pg n f bk ev=ck at *;obtain ⟨cc,hcc⟩:=aj ((if ck≠0 then ck else if node<0∨64≤node then (7:Int) else 0));rw [hcc] at hR;by_cases h0:ck=0
 case neg =>
  have h0':(ck != 0)=true:=by simpa using h0
  have an6:(ck==0)=false:=by simpa using h0
  rw [if_pos h0] at hcc;subst hcc;rw [if_pos h0] at hR;subst hR;clear h0 hck;go_enter func85,ntmps85;go_wp2_with fail;refine (HK.out _).mono ?_;rintro e w1 ⟨rfl,hb1⟩;have k1:=k0.call hb1;have aN:=kR.call hb1;have B1:=hb0.trans (hb1.mono hb0.size);have c1:=k1.cell;have gY:=aN.cell;have gZ:=aN.frozen;clear k0 kR hb0 hb1 HK;go_wp2_with fail;change bodyPost _ _ _ _ _ (aL w1 (w.heap.size+1) bn (.slice none 0 0));have aR:=aG aN bn (.slice none 0 0);have F9:=aH w1 (w.heap.size+1) bn (.slice none 0 0);generalize aL w1 (w.heap.size+1) bn (.slice none 0 0)=w9 at *;dsimp only [ai] at aR;have bV:=aR.cell;refine bodyPost_ret (v:=.tuple #[.agg (ai bn (.slice none 0 0)),.int .i64 ck]) (by simp [results,results85,go_sem,bV,ai]) rfl ?_;exact ⟨_,rfl,⟨none,0,rfl,Nat.le_refl _,by unfold maxLen;omega,KeptAt.none _ _⟩,(dZ.below hV B1).fresh F9 hlt (fun k hk=>by subst hk;omega)⟩
 subst h0;rw [if_neg (by simp)] at hcc;by_cases a1:node<0
 ·have d1:decide (node<0)=true:=by simpa using a1
  rw [if_pos (.inl a1)] at hcc;subst hcc;rw [if_pos (by decide)] at hR;subst hR;clear a1 hck;go_enter func85,ntmps85;go_wp2_with fail;refine (HK.out _).mono ?_;rintro e w1 ⟨rfl,hb1⟩;have k1:=k0.call hb1;have aN:=kR.call hb1;have B1:=hb0.trans (hb1.mono hb0.size);have c1:=k1.cell;have gY:=aN.cell;have gZ:=aN.frozen;clear k0 kR hb0 hb1 HK;go_wp2_with fail;change bodyPost _ _ _ _ _ (aL w1 (w.heap.size+1) bn (.slice none 0 0));have aR:=aG aN bn (.slice none 0 0);have F9:=aH w1 (w.heap.size+1) bn (.slice none 0 0);generalize aL w1 (w.heap.size+1) bn (.slice none 0 0)=w9 at *;dsimp only [ai] at aR;have bV:=aR.cell;refine bodyPost_ret (v:=.tuple #[.agg (ai bn (.slice none 0 0)),.int .i64 7]) (by simp [results,results85,go_sem,bV,ai]) rfl ?_;exact ⟨_,rfl,⟨none,0,rfl,Nat.le_refl _,by unfold maxLen;omega,KeptAt.none _ _⟩,(dZ.below hV B1).fresh F9 hlt (fun k hk=>by subst hk;omega)⟩
 have d1:decide (node<0)=false:=by simpa using a1
 by_cases a2:64≤node
 ·have d2:decide (64≤node)=true:=by simpa using a2
  rw [if_pos (.inr a2)] at hcc;subst hcc;rw [if_pos (by decide)] at hR;subst hR;clear a1 a2 hck;go_enter func85,ntmps85;go_wp2_with fail;refine (HK.out _).mono ?_;rintro e w1 ⟨rfl,hb1⟩;have k1:=k0.call hb1;have aN:=kR.call hb1;have B1:=hb0.trans (hb1.mono hb0.size);have c1:=k1.cell;have gY:=aN.cell;have gZ:=aN.frozen;clear k0 kR hb0 hb1 HK;go_wp2_with fail;change bodyPost _ _ _ _ _ (aL w1 (w.heap.size+1) bn (.slice none 0 0));have aR:=aG aN bn (.slice none 0 0);have F9:=aH w1 (w.heap.size+1) bn (.slice none 0 0);generalize aL w1 (w.heap.size+1) bn (.slice none 0 0)=w9 at *;dsimp only [ai] at aR;have bV:=aR.cell;refine bodyPost_ret (v:=.tuple #[.agg (ai bn (.slice none 0 0)),.int .i64 7]) (by simp [results,results85,go_sem,bV,ai]) rfl ?_;exact ⟨_,rfl,⟨none,0,rfl,Nat.le_refl _,by unfold maxLen;omega,KeptAt.none _ _⟩,(dZ.below hV B1).fresh F9 hlt (fun k hk=>by subst hk;omega)⟩
 have d2:decide (64≤node)=false:=by simpa using a2
 rw [if_neg (by omega)] at hcc;subst hcc;rw [if_neg (by simp)] at hR;clear a1 a2;have HV:=ae (fun W h=>JS B bs pg n V W h);obtain ⟨J,hJ⟩:=aj (bJ V pg n 0 0 1);rw [hJ] at hR HV;obtain ⟨je,jV⟩:=J;simp only at hR HV;clear hJ;by_cases h1:je=0
 case neg =>
  have h1':(je != 0)=true:=by simpa using h1
  have an7:(je==0)=false:=by simpa using h1
  rw [if_pos h1] at hR;subst hR;clear h1;go_enter func85,ntmps85;go_wp2_with fail;refine (HK.out _).mono ?_;rintro e w1 ⟨rfl,hb1⟩;have k1:=k0.call hb1;have aN:=kR.call hb1;have B1:=hb0.trans (hb1.mono hb0.size);have c1:=k1.cell;have gY:=aN.cell;have gZ:=aN.frozen;clear k0 kR hb0 hb1 HK;go_wp2_with fail;refine (HV.out _ (hV.call B1)).mono ?_;rintro e w2 ⟨rfl,rJ⟩;have T2:=(dZ.below hV B1).trans rJ;have k2:=rJ.blk (hV.call B1) k1 (by decide);have bT:=rJ.blk (hV.call B1) aN (by decide);have c2:=k2.cell;have qE:=bT.cell;have qF:=bT.frozen;clear k1 aN c1 gY gZ rJ HV;go_wp2_with fail;change bodyPost _ _ _ _ _ (aL w2 (w.heap.size+1) bn (.slice none 0 0));have aR:=aG bT bn (.slice none 0 0);have F9:=aH w2 (w.heap.size+1) bn (.slice none 0 0);generalize aL w2 (w.heap.size+1) bn (.slice none 0 0)=w9 at *;dsimp only [ai] at aR;have bV:=aR.cell;refine bodyPost_ret (v:=.tuple #[.agg (ai bn (.slice none 0 0)),.int .i64 je]) (by simp [results,results85,go_sem,bV,ai]) rfl ?_;exact ⟨_,rfl,⟨none,0,rfl,Nat.le_refl _,by unfold maxLen;omega,KeptAt.none _ _⟩,T2.fresh F9 hlt (fun k hk=>by subst hk;omega)⟩
 subst h1;rw [if_neg (by simp)] at hR;have HP:=ae (fun W h=>JW B bs pg n f bk ev jV W h (Ca _ _ _ _ _));obtain ⟨Q,hQ⟩:=aj (jw jV 0 (eH pg n f bk ev));rw [hck,hQ] at HP;rw [hQ] at hR;obtain ⟨sl,pe,pV⟩:=Q;unfold PU at HP;simp only at hR HP;clear hQ hck;by_cases h2:pe=0
 case pos =>
  subst h2;rw [if_pos rfl] at hR;subst hR;go_enter func85,ntmps85;go_wp2_with fail;refine (HK.out _).mono ?_;rintro e w1 ⟨rfl,hb1⟩;have k1:=k0.call hb1;have aN:=kR.call hb1;have B1:=hb0.trans (hb1.mono hb0.size);have c1:=k1.cell;have gY:=aN.cell;have gZ:=aN.frozen;clear k0 kR hb0 hb1 HK;go_wp2_with fail;refine (HV.out _ (hV.call B1)).mono ?_;rintro e w2 ⟨rfl,rJ⟩;have T2:=(dZ.below hV B1).trans rJ;have k2:=rJ.blk (hV.call B1) k1 (by decide);have bT:=rJ.blk (hV.call B1) aN (by decide);have c2:=k2.cell;have qE:=bT.cell;have qF:=bT.frozen;clear k1 aN c1 gY gZ rJ HV;go_wp2_with fail;refine (HP.out _ T2.1).mono ?_;rintro e w3 ⟨A3,c3,rfl,_,_,_,IQ,IU⟩;have S3:dZ B bs pV w2 w3:=⟨IQ,IU⟩;have T3:=T2.trans S3;have k3:=S3.blk T2.1 k2;have eZ:=S3.blk T2.1 bT;have c3':=k3.cell;have ET:=eZ.cell;have EU:=eZ.frozen;clear k2 bT c2 qE qF IQ IU S3 HP T2 B1;go_wp2_with fail;change bodyPost _ _ _ _ _ (aL w3 (w.heap.size+1) ⟨pg,n,f,bk,ev,node,0,[],false⟩ (.slice none 0 0));have aR:=aG eZ ⟨pg,n,f,bk,ev,node,0,[],false⟩ (.slice none 0 0);have F9:=aH w3 (w.heap.size+1) ⟨pg,n,f,bk,ev,node,0,[],false⟩ (.slice none 0 0);generalize aL w3 (w.heap.size+1) ⟨pg,n,f,bk,ev,node,0,[],false⟩ (.slice none 0 0)=w9 at *;dsimp only [ai] at aR;have bV:=aR.cell;refine bodyPost_ret (v:=.tuple #[.agg (ai ⟨pg,n,f,bk,ev,node,0,[],false⟩ (.slice none 0 0)),.int .i64 0]) (by simp [results,results85,go_sem,bV,ai]) rfl ?_;exact ⟨_,rfl,⟨none,0,rfl,Nat.le_refl _,by unfold maxLen;omega,KeptAt.none _ _⟩,T3.fresh F9 hlt (fun k hk=>by subst hk;omega)⟩
 have h2':(pe==0)=false:=by simpa using h2
 rw [if_neg h2] at hR;obtain ⟨sn,hsn⟩:=aj (sl.length);rw [hsn] at hR HP;by_cases h3:sn=0
 case neg =>
  have h3':((sn:Int)==0)=false:=by simpa using h3
  rw [if_neg h3] at hR;subst hR;clear h2 h3;go_enter func85,ntmps85;go_wp2_with fail;refine (HK.out _).mono ?_;rintro e w1 ⟨rfl,hb1⟩;have k1:=k0.call hb1;have aN:=kR.call hb1;have B1:=hb0.trans (hb1.mono hb0.size);have c1:=k1.cell;have gY:=aN.cell;have gZ:=aN.frozen;clear k0 kR hb0 hb1 HK;go_wp2_with fail;refine (HV.out _ (hV.call B1)).mono ?_;rintro e w2 ⟨rfl,rJ⟩;have T2:=(dZ.below hV B1).trans rJ;have k2:=rJ.blk (hV.call B1) k1 (by decide);have bT:=rJ.blk (hV.call B1) aN (by decide);have c2:=k2.cell;have qE:=bT.cell;have qF:=bT.frozen;clear k1 aN c1 gY gZ rJ HV;go_wp2_with fail;refine (HP.out _ T2.1).mono ?_;rintro e w3 ⟨A3,c3,rfl,_,_,_,IQ,IU⟩;have S3:dZ B bs pV w2 w3:=⟨IQ,IU⟩;have T3:=T2.trans S3;have k3:=S3.blk T2.1 k2;have eZ:=S3.blk T2.1 bT;have c3':=k3.cell;have ET:=eZ.cell;have EU:=eZ.frozen;clear k2 bT c2 qE qF IQ IU S3 HP T2 B1;go_wp2_with fail;change bodyPost _ _ _ _ _ (aL w3 (w.heap.size+1) ⟨pg,n,f,bk,ev,node,0,[],true⟩ (.slice none 0 0));have aR:=aG eZ ⟨pg,n,f,bk,ev,node,0,[],true⟩ (.slice none 0 0);have F9:=aH w3 (w.heap.size+1) ⟨pg,n,f,bk,ev,node,0,[],true⟩ (.slice none 0 0);generalize aL w3 (w.heap.size+1) ⟨pg,n,f,bk,ev,node,0,[],true⟩ (.slice none 0 0)=w9 at *;dsimp only [ai] at aR;have bV:=aR.cell;refine bodyPost_ret (v:=.tuple #[.agg (ai ⟨pg,n,f,bk,ev,node,0,[],true⟩ (.slice none 0 0)),.int .i64 pe]) (by simp [results,results85,go_sem,bV,ai]) rfl ?_;exact ⟨_,rfl,⟨none,0,rfl,Nat.le_refl _,by unfold maxLen;omega,KeptAt.none _ _⟩,T3.fresh F9 hlt (fun k hk=>by subst hk;omega)⟩
 subst h3;rw [if_pos rfl] at hR;have HE:=ae (fun W h=>Ah B bs pg n pV W h);obtain ⟨E,hE⟩:=aj (bJ pV pg n 1 1 0);rw [hE] at hR HE;obtain ⟨ee,eV⟩:=E;simp only at hR HE;clear hE;by_cases h4:ee=0
 case pos =>
  subst h4;rw [if_pos rfl] at hR;subst hR;clear h2;go_enter func85,ntmps85;go_wp2_with fail;refine (HK.out _).mono ?_;rintro e w1 ⟨rfl,hb1⟩;have k1:=k0.call hb1;have aN:=kR.call hb1;have B1:=hb0.trans (hb1.mono hb0.size);have c1:=k1.cell;have gY:=aN.cell;have gZ:=aN.frozen;clear k0 kR hb0 hb1 HK;go_wp2_with fail;refine (HV.out _ (hV.call B1)).mono ?_;rintro e w2 ⟨rfl,rJ⟩;have T2:=(dZ.below hV B1).trans rJ;have k2:=rJ.blk (hV.call B1) k1 (by decide);have bT:=rJ.blk (hV.call B1) aN (by decide);have c2:=k2.cell;have qE:=bT.cell;have qF:=bT.frozen;clear k1 aN c1 gY gZ rJ HV;go_wp2_with fail;refine (HP.out _ T2.1).mono ?_;rintro e w3 ⟨A3,c3,rfl,_,_,_,IQ,IU⟩;have S3:dZ B bs pV w2 w3:=⟨IQ,IU⟩;have T3:=T2.trans S3;have k3:=S3.blk T2.1 k2;have eZ:=S3.blk T2.1 bT;have c3':=k3.cell;have ET:=eZ.cell;have EU:=eZ.frozen;clear k2 bT c2 qE qF IQ IU S3 HP T2 B1;go_wp2_with fail;refine (HE.out _ T3.1).mono ?_;rintro e w4 ⟨rfl,ql⟩;have T4:=T3.trans ql;have dI:=ql.blk T3.1 eZ;have JA:=dI.cell;have JB:=dI.frozen;go_wp2_with fail;change bodyPost _ _ _ _ _ (aL w4 (w.heap.size+1) bn (.slice none 0 0));have aR:=aG dI bn (.slice none 0 0);have F9:=aH w4 (w.heap.size+1) bn (.slice none 0 0);generalize aL w4 (w.heap.size+1) bn (.slice none 0 0)=w9 at *;dsimp only [ai] at aR;have bV:=aR.cell;refine bodyPost_ret (v:=.tuple #[.agg (ai bn (.slice none 0 0)),.int .i64 pe]) (by simp [results,results85,go_sem,bV,ai]) rfl ?_;exact ⟨_,rfl,⟨none,0,rfl,Nat.le_refl _,by unfold maxLen;omega,KeptAt.none _ _⟩,T4.fresh F9 hlt (fun k hk=>by subst hk;omega)⟩
 have h4':(ee==0)=false:=by simpa using h4
 rw [if_neg h4] at hR;subst hR;clear h2 h4;go_enter func85,ntmps85;go_wp2_with fail;refine (HK.out _).mono ?_;rintro e w1 ⟨rfl,hb1⟩;have k1:=k0.call hb1;have aN:=kR.call hb1;have B1:=hb0.trans (hb1.mono hb0.size);have c1:=k1.cell;have gY:=aN.cell;have gZ:=aN.frozen;clear k0 kR hb0 hb1 HK;go_wp2_with fail;refine (HV.out _ (hV.call B1)).mono ?_;rintro e w2 ⟨rfl,rJ⟩;have T2:=(dZ.below hV B1).trans rJ;have k2:=rJ.blk (hV.call B1) k1 (by decide);have bT:=rJ.blk (hV.call B1) aN (by decide);have c2:=k2.cell;have qE:=bT.cell;have qF:=bT.frozen;clear k1 aN c1 gY gZ rJ HV;go_wp2_with fail;refine (HP.out _ T2.1).mono ?_;rintro e w3 ⟨A3,c3,rfl,_,_,_,IQ,IU⟩;have S3:dZ B bs pV w2 w3:=⟨IQ,IU⟩;have T3:=T2.trans S3;have k3:=S3.blk T2.1 k2;have eZ:=S3.blk T2.1 bT;have c3':=k3.cell;have ET:=eZ.cell;have EU:=eZ.frozen;clear k2 bT c2 qE qF IQ IU S3 HP T2 B1;go_wp2_with fail;refine (HE.out _ T3.1).mono ?_;rintro e w4 ⟨rfl,ql⟩;have T4:=T3.trans ql;have dI:=ql.blk T3.1 eZ;have k4:=ql.blk T3.1 k3;have c4:=k4.cell;have JA:=dI.cell;have JB:=dI.frozen;go_wp2_with fail;change bodyPost _ _ _ _ _ (aL w4 (w.heap.size+1) ⟨pg,n,f,bk,ev,node,0,[],true⟩ (.slice none 0 0));have aR:=aG dI ⟨pg,n,f,bk,ev,node,0,[],true⟩ (.slice none 0 0);have F9:=aH w4 (w.heap.size+1) ⟨pg,n,f,bk,ev,node,0,[],true⟩ (.slice none 0 0);generalize aL w4 (w.heap.size+1) ⟨pg,n,f,bk,ev,node,0,[],true⟩ (.slice none 0 0)=w9 at *;dsimp only [ai] at aR;have bV:=aR.cell;refine bodyPost_ret (v:=.tuple #[.agg (ai ⟨pg,n,f,bk,ev,node,0,[],true⟩ (.slice none 0 0)),.int .i64 pe]) (by simp [results,results85,go_sem,bV,ai]) rfl ?_;exact ⟨_,rfl,⟨none,0,rfl,Nat.le_refl _,by unfold maxLen;omega,KeptAt.none _ _⟩,T4.fresh F9 hlt (fun k hk=>by subst hk;omega)⟩
theorem IV (r:Cr) (v:Value) (cs:Array Value) (f:Nat→Bool) (w:World) (hM:bC cs f) (hz:bN r.pg r.n r.f r.bk r.ev=0) :
  Calls prog 151 #[.agg (ai r v),.agg cs] w fun e w'=>∃(A:Option Addr) (cap:Nat),e= .returned (.slice A (iX (oz (aA r.pg r.n r.f r.bk r.ev) f 1024)).length cap)∧KeptAt w' A (iX (oz (aA r.pg r.n r.f r.bk r.ev) f 1024))∧(iX (oz (aA r.pg r.n r.f r.bk r.ev) f 1024)).length≤cap∧cap≤maxLen∧Below w.heap.size w w':=by
 obtain ⟨pg,n,fr,bk,ev,node,live,K,cl⟩:=r;simp only at hz ⊢;have hp:=bU.1 hz;have hL:=rO hp;have HN:=ae (fun W (i:Nat)=>yV pg n fr bk ev i W (lu (aA pg n fr bk ev) i) (by rw [if_pos hz]));have hrun:=ae (fun (i:Nat) (hi:(i:Int)<aI (aA pg n fr bk ev))=>VU hp (k:=i) (by omega) hi);have aj3:=ae (fun (i:Nat)=>qf (aA pg n fr bk ev) i hL);generalize aA pg n fr bk ev=L at *;have Tw:=ae hL;obtain ⟨s,hs⟩:=aj (w.heap.size);have hb0:=((aV w (.cells (ai ⟨pg,n,fr,bk,ev,node,live,K,cl⟩ v) 43)).alloc (by simp) (.cells cs 231)).alloc (by simp;omega) (.cells zeroCells231 231);have k0:=((ag.new w 43 (ai ⟨pg,n,fr,bk,ev,node,live,K,cl⟩ v)).alloc (.cells cs 231)).alloc (.cells zeroCells231 231);have kM:=(ag.new (w.alloc (.cells (ai ⟨pg,n,fr,bk,ev,node,live,K,cl⟩ v) 43)) 231 cs).alloc (.cells zeroCells231 231);have kP:=ag.new ((w.alloc (.cells (ai ⟨pg,n,fr,bk,ev,node,live,K,cl⟩ v) 43)).alloc (.cells cs 231)) 231 zeroCells231;rw [World.size_alloc,hs] at kM;rw [World.size_alloc,World.size_alloc,hs] at kP;rw [hs] at hb0 k0 ⊢;have hZ:=fV;clear hL hp hz;go_enter func151,ntmps151;go_wp2_with fail;try simp only [hs]
 generalize zeroCells231=Z at *;generalize ((w.alloc _).alloc _).alloc _=w0 at *;dsimp only [ai] at k0
 go_loopw [6] (fun u wr=>∃(i:Nat) (ps:Array Value),u= .int .i64 i∧i≤1024∧ag wr s 43 #[.int .i64 pg,.int .i64 n,.int .i64 fr,.int .i64 bk,.int .i64 ev,.int .i64 node,.int .i64 live,v,.bool cl]∧ag wr (s+1) 231 cs∧ag wr (s+2) 231 ps∧bC ps (oz L f i)∧Below s w wr) (fun u _=>1024 - (intOf u).toNat)
 case atStart=>exact ⟨0,Z,rfl,by omega,k0,kM,kP,hZ.congr (fun k _=>by
  unfold oz;cases hm:mem (k:Int) L with
  | false=>rfl
  | true =>
   have hr:=nN L 0 k Tw.out hm;rw [Bool.true_and,decide_eq_false (by omega)];rfl),hb0⟩
 case round =>
  clear k0 kM kP hb0 hZ;obtain ⟨i,ps,rfl,hi,k0,kM,kP,hP,hB⟩:=hrel;by_cases hlt:i<1024
  ·have d1:decide ((i:Int)<1024)=true:=by rw [decide_eq_true_eq];omega
   have q0:=(kM.cell i).trans (hM.at_ i hlt);have c0:=k0.cell;cases hf:f i with
   | false =>
    rw [hf] at q0;have hP2:=hP.congr (g:=oz L f (i+1)) (fun p _=>(Qi Tw.out (.inl hf) p).symm);clear hP;go_wp2_with fail;go_roundw
    case rel=>exact ⟨i+1,ps,by go_num,by omega,k0,kM,kP,hP2,hB⟩
    case measure=>simp [intOf];omega
   | true =>
    rw [hf] at q0;have DL:=ae (HN.out wr i);have hn:=aj3.out i;by_cases hin:(i:Int)<aI L
    ·have hr:=hrun.out i hin
     have hpl:=jq L (fun x hx=>by have:=Tw.out x hx;omega);rw [vI,if_neg (by omega)] at hn;obtain ⟨q1,hq1⟩:=aj ((bR L).getD (i:Int).toNat 0);rw [hq1] at hn;rw [hn] at DL hr;have h1:=hr.lo;have h2:=hr.hi;simp only at h1 h2;obtain ⟨q,rfl⟩:∃q:Nat,q1=q:=⟨q1.toNat,by omega⟩;have h3:=hr.page q (by simp only;omega) (by simp only;omega);simp only at h3;have hq:q<1024:=by omega
     have hM2:=ae (hP.set (g:=oz L f (i+1)) q hq true (by rw [K5 Tw.out hf h3.1 (by omega),if_pos rfl]) (fun j hj=>by rw [K5 Tw.out hf h3.1 (by omega),if_neg hj]));have hold:=hP.at_ q hq;generalize oz L f i q=b0 at hold;clear hr h1 h2 h3 hn hq1 hpl hin hP;go_wp2_with fail;refine DL.out.mono ?_;rintro e w2 ⟨rfl,hb2⟩;have k2:=k0.call hb2;have DI:=kM.call hb2;have kP2:=kP.call hb2;have B2:=hB.trans (hb2.mono (by have:=hB.size;have:=k0.lt;omega));have q2:=(kP2.cell q).trans hold;have f2:=kP2.frozen;have F:af (fun k=>k=s+2) w2 (w2.setCell ⟨s+2,q,none⟩ (.bool true)):=af.setCell (T:=fun k=>k=s+2) (p:=⟨s+2,q,none⟩) (af.refl _ _) (fun _=>rfl) _;have hsB:=B2.size;have hsL:=k2.lt;clear DL c0 q0;go_wp2_with fail;go_roundw
     case rel=>exact ⟨i+1,_,by go_num,by omega,F.blk k2 (by omega),F.blk DI (by omega),kP2.aO q (.bool true),hM2.out,B2.trans (F.below (by omega) (fun k hk e=>by omega))⟩
     case measure=>simp [intOf];omega
    ·have hpl:=jq L (fun x hx=>by have:=Tw.out x hx;omega)
     rw [vI,if_pos (.inr (by omega))] at hn;rw [hn] at DL;have hP2:=hP.congr (g:=oz L f (i+1)) (fun p _=>(Qi Tw.out (.inr (by omega)) p).symm);clear hn hpl hin hP;go_wp2_with fail;refine DL.out.mono ?_;rintro e w2 ⟨rfl,hb2⟩;have k2:=k0.call hb2;have DI:=kM.call hb2;have kP2:=kP.call hb2;have B2:=hB.trans (hb2.mono (by have:=hB.size;have:=k0.lt;omega));clear DL c0 q0;go_wp2_with fail;go_roundw
     case rel=>exact ⟨i+1,ps,by go_num,by omega,k2,DI,kP2,hP2,B2⟩
     case measure=>simp [intOf];omega
  ·obtain rfl:i=1024:=by omega
   have d1:decide (((1024:Nat):Int)<1024)=false:=by decide
   have hsz:=hP.size
   go_wp2_with (refine wpList_load_mid rfl 231 (.tmp 5) rfl (s+2) 0 rfl ps.toList _ (ed kP) underlying231 rfl (by rw [Array.length_toList,hsz];kernel_rfl) ?_;rw [Array.toArray_toList])
   refine (kG ps _ wr hP).mono ?_;rintro e w5 ⟨A5,c5,rfl,hk5,hl5,hc5,hb5⟩;have B5:=hB.trans (hb5.mono (by have:=hB.size;have:=k0.lt;omega));go_wp2_with fail;go_ret;exact ⟨A5,c5,rfl,hk5,hl5,hc5,B5⟩
theorem CW (r:Cr) (v:Value) (cs:Array Value) (f:Nat→Bool) (x:iF) (on:Bool) (w:World) (hM:bC cs f) (hz:bN r.pg r.n r.f r.bk r.ev=0) (hx:Dx 0 (aA r.pg r.n r.f r.bk r.ev) x) (hs1:aI (aA r.pg r.n r.f r.bk r.ev)≤1024) :
  Calls prog 154 #[.agg (ai r v),.agg cs,.agg #[.int .i64 x.1,.int .i64 x.2.1],.bool on] w fun e w'=>∃cs',e= .returned (.agg cs')∧bC cs' (dA f x.2.2 (x.2.2+x.2.1) on)∧Below w.heap.size w w':=by
 obtain ⟨pg,n,fr,bk,ev,node,live,K,cl⟩:=r;simp only at hz hx hs1 ⊢;have HN:=ae (fun W (p:Int)=>JV pg n fr bk ev p W (jg p 0 (aA pg n fr bk ev)) (by rw [if_pos hz]));generalize aA pg n fr bk ev=L at *;obtain ⟨x0,xn,xk⟩:=x;have CS:=ae hx;have z1:=hx.pos;have z2:=hx.lo;have z3:=hx.hi;have z4:=hx.nlo;have z5:=hx.nhi;simp only at z1 z2 z3 z4 z5 ⊢;obtain ⟨s,hs⟩:=aj (w.heap.size);obtain ⟨w0,hw0,hsz0,hb0,k0,kM,kX,kR⟩:=Md 43 231 140 231 (ai ⟨pg,n,fr,bk,ev,node,live,K,cl⟩ v) cs #[.int .i64 x0,.int .i64 xn] zeroCells231 w;rw [hs] at hb0 k0 kM kX kR hsz0 ⊢;have hZs:=fV.size;clear hx hz;obtain ⟨a,rfl⟩:∃a:Nat,x0=a:=⟨x0.toNat,by omega⟩;obtain ⟨k,rfl⟩:∃k:Nat,xk=k:=⟨xk.toNat,by omega⟩;obtain ⟨c,rfl⟩:∃c:Nat,xn=c:=⟨xn.toNat,by omega⟩;have c0X:=kX.cell;have hM0:bC cs (dA f k ((k+0:Nat):Int) on):=hM.congr (fun j _=>by unfold dA;rw [if_neg (by omega)]);go_enter func154,ntmps154;go_upto_region 1 with fail
 rw [←hw0];clear hw0;generalize zeroCells231=Z at *;dsimp only [ai] at k0;try simp only [Nat.add_assoc,Nat.reduceAdd]
 go_wp2_with fail;clear c0X
 go_loopw [9] (fun u wr=>∃(j:Nat) (ps:Array Value),u= .int .i64 ((a+j:Nat):Int)∧j≤c∧ag wr s 43 #[.int .i64 pg,.int .i64 n,.int .i64 fr,.int .i64 bk,.int .i64 ev,.int .i64 node,.int .i64 live,v,.bool cl]∧ag wr (s+1) 231 ps∧ag wr (s+2) 140 #[.int .i64 a,.int .i64 c]∧ag wr (s+3) 231 Z∧bC ps (dA f k ((k+j:Nat):Int) on)∧Below s w wr) (fun u _=>a+c - (intOf u).toNat)
 case atStart=>exact ⟨0,cs,rfl,by omega,k0,kM,kX,kR,hM0,hb0⟩
 case round =>
  clear hM0 hM k0 kM kX kR hb0;obtain ⟨j,ps,rfl,hj,k0,kM,kX,kR,hP,hB⟩:=hrel;have cX:=kX.cell;by_cases hlt:j<c
  ·have d1:decide (((a+j:Nat):Int)<(a:Int)+(c:Int))=true:=by rw [decide_eq_true_eq];omega
   have d1':decide (((a+j:Nat):Int)<((a+c:Nat):Int))=true:=by rw [decide_eq_true_eq];omega
   have h3:=CS.out.page ((a+j:Nat):Int) (by simp only;omega) (by simp only;omega);simp only at h3;have hidx:jg ((a+j:Nat):Int) 0 L=(((k+j:Nat):Int),0):=Prod.ext (by rw [h3.2];simp only;omega) (K6 L 0 _ h3.1);have DL:=ae (HN.out wr ((a+j:Nat):Int));rw [hidx] at DL;have hq:k+j<1024:=by omega
   have hM2:=ae (hP.set (g:=dA f k ((k+j+1:Nat):Int) on) (k+j) hq on (by rw [jZ f k (k+j) on (by omega),if_pos rfl]) (fun i hi=>by rw [jZ f k (k+j) on (by omega),if_neg hi]));have hold:=hP.at_ (k+j) hq;generalize dA f k ((k+j:Nat):Int) on (k+j)=b0 at hold;have c0:=k0.cell;obtain ⟨pp,JY⟩:=aj (a+j);obtain ⟨q,hqq⟩:=aj (k+j);have hMq:=hM2;rw [hqq] at DL hMq hold hq;rw [JY] at DL d1 d1' ⊢;clear h3 hidx hP hM2;go_wp2_with fail;refine DL.out.mono ?_;rintro e w2 ⟨rfl,hb2⟩;have k2:=k0.call hb2;have DI:=kM.call hb2;have kX2:=kX.call hb2;have bT:=kR.call hb2;have B2:=hB.trans (hb2.mono (by have:=hB.size;have:=k0.lt;omega));have q2:=(DI.cell q).trans hold;have f2:=DI.frozen;have F:af (fun k=>k=s+1) w2 (w2.setCell ⟨s+1,q,none⟩ (.bool on)):=af.setCell (T:=fun k=>k=s+1) (p:=⟨s+1,q,none⟩) (af.refl _ _) (fun _=>rfl) _;have hsB:=B2.size;have hsL:=k2.lt;clear DL c0 cX hold;go_wp2_with fail;go_roundw
   case rel=>exact ⟨j+1,_,by rw [←JY];go_num,by omega,F.blk k2 (by omega),DI.aO q (.bool on),F.blk kX2 (by omega),F.blk bT (by omega),by rw [←Nat.add_assoc,hqq];exact hMq.out,B2.trans (F.below (by omega) (fun k hk e=>by omega))⟩
   case measure=>simp [intOf];omega
  ·obtain rfl:j=c:=by omega
   have d1:decide (((a+j:Nat):Int)<(a:Int)+(j:Int))=false:=by rw [decide_eq_false_iff_not];omega
   have hsz:=hP.size;have hone:=hP.one;have hth:=BF kR;have hzs:=hZs
   go_wp2_with (first
    | (refine wpList_load_mid rfl 231 (.tmp 5) rfl (s+1) 0 rfl ps.toList _ (ed kM) underlying231 rfl (by rw [Array.length_toList,hsz];kernel_rfl) ?_;rw [Array.toArray_toList])
    | (refine wpList_store_mid rfl 231 (.tmp 8) (.tmp 35) rfl (s+3) 0 ps rfl rfl (by rw [hsz,←hzs];exact hth) (by rw [hsz];kernel_rfl) hone ?_))
   have hrg:=World.rangeAt_setCells_same wr (s+3) 0 ps.toList (by rw [Array.length_toList,hsz,←hzs];exact hth);have ZI:=below_setCells (s+3) (by omega) ps.toList 0 wr hB;generalize wr.setCells (s+3) 0 ps.toList=w9 at *;have hld:=run_loadVar_mid (P:=prog) w9 (s+3) 0 231 ps.toList _ hrg underlying231 rfl (by rw [Array.length_toList,hsz];kernel_rfl);rw [Array.toArray_toList] at hld;exact bodyPost_ret (v:=.agg ps) (vw rfl rfl hld) rfl ⟨ps,rfl,hP.congr (fun _ _=>by rw [Int.natCast_add]),ZI⟩
theorem aj5 (a b c d:Int) (w:World):(Op.equalIn 10000 164 (.agg #[.int .i64 a,.int .i64 b,.int .i64 c,.int .i64 d]) (.agg #[.int .i64 a,.int .i64 b,.int .i64 c,.int .i64 d])).run prog w= .ok true w:=by
 have u3:=underlying3;have a3:=Tryz.isAgg3;have z3:=Tryz.sizeOf3;rw [show (10000:Nat)=9999+1 from rfl];go_simp;try simp
theorem aj6 (a b c:Int) (w:World):(Op.equalIn 10000 158 (.agg #[.int .i64 a,.int .i64 b,.int .i64 c]) (.agg #[.int .i64 a,.int .i64 b,.int .i64 c])).run prog w= .ok true w:=by
 have u3:=underlying3;have a3:=Tryz.isAgg3;have z3:=Tryz.sizeOf3;rw [show (10000:Nat)=9999+1 from rfl];go_simp;try simp
theorem JZ (A A':Option Addr) (n cap cap':Nat) (l:List Ru) (w:World) (hn:l.length=n) (hm:n≤1000) (hr:Rd w w.heap.size A (fl iN l)) (hr':Rd w w.heap.size A' (fl iN l)) :
  Calls prog 213 #[.agg #[.slice A n cap],.agg #[.slice A' n cap']] w fun e w'=>e= .returned (.bool true)∧Below w.heap.size w w':=by
 have hb0:=(aV w (.cells #[.slice A n cap] 28)).alloc (by simp) (.cells #[.slice A' n cap'] 28);have k0:=(ag.new w 28 #[.slice A n cap]).alloc (.cells #[.slice A' n cap'] 28);have k1:=ag.new (w.alloc (.cells #[.slice A n cap] 28)) 28 #[.slice A' n cap'];have r0:=hr.fw hb0;have r1:=hr'.fw hb0;obtain ⟨s,hs⟩:=aj (w.heap.size);rw [World.size_alloc,hs] at k1;rw [hs] at k0;have hn':=ae hn;have heq:=ae (fun a b c d W=>aj5 a b c d W);clear hn hr hr';go_enter func213,ntmps213;go_upto_region 1 with fail
 generalize (w.alloc _).alloc _=w0 at *;try simp only [hs]
 have c0:=k0.cell;have c1:=k1.cell;have d0:((n:Int) != (n:Int))=false:=by simp
 go_upto_region 3 with fail
 clear c0 c1;have SN:=ae k0;have k1':=ae k1;clear k0 k1;go_wp2_with fail
 go_loopw [5] (fun u wr=>∃i:Nat,i≤n∧u= .int .i64 i∧Below w0.heap.size w0 wr) (fun u _=>n - (intOf u).toNat)
 case atStart=>exact ⟨0,by omega,rfl,Below.refl _ _⟩
 case round =>
  obtain ⟨i,hi,rfl,hB⟩:=hrel;have kr:=SN.out.call hB;have kq:=k1'.out.call hB;have cr:=kr.cell;by_cases hlt:i<n
  ·have hlt':decide ((i:Int)<(n:Int))=true:=by simpa using hlt
   have hin:(i:Int)<(n:Int):=by omega
   obtain ⟨b,o,rfl,hb,hc⟩:=(r0.fw hB).elem jJ (by omega) oW (k:=i) (by have:=hn'.out;omega);obtain ⟨b',o',rfl,hb',hc'⟩:=(r1.fw hB).elem jJ (by omega) oW (k:=i) (by have:=hn'.out;omega);generalize l.getD i oW=x at *;obtain ⟨xk,f,e,t⟩:=x;have x0:=hc 0 _ rfl;have x1:=hc 1 _ rfl;have x2:=hc 2 _ rfl;have x3:=hc 3 _ rfl;have y0:=hc' 0 _ rfl;have y1:=hc' 1 _ rfl;have y2:=hc' 2 _ rfl;have y3:=hc' 3 _ rfl;simp only [Nat.add_zero] at x0 y0;have e0:=fun z:Ext wr=>(z.blk kr).cell
   have e1:=fun z:Ext wr=>(z.blk kq).cell
   have a0:=fun z:Ext wr=>z.cell x0
   have a1:=fun z:Ext wr=>z.cell x1
   have a2:=fun z:Ext wr=>z.cell x2
   have a3:=fun z:Ext wr=>z.cell x3
   have b0:=fun z:Ext wr=>z.cell y0
   have b1:=fun z:Ext wr=>z.cell y1
   have b2:=fun z:Ext wr=>z.cell y2
   have b3:=fun z:Ext wr=>z.cell y3
   have hq:=fun W=>heq.out xk f e t W
   clear hc hc' x0 x1 x2 x3 y0 y1 y2 y3;go_upto_region 6 with fail
   clear cr;refine aF (by kernel_rfl) (by kernel_rfl) ?_
   repeat (go_big_quiet_step (fail))
   refine wpQuiet_nil ?_;rintro w2 ⟨⟨_,hw2⟩,rfl⟩;go_wp2_with fail;go_roundw
   case rel=>exact ⟨i+1,by omega,by go_num,hB.trans (hw2.mono hB.size)⟩
   case measure=>simp [intOf];omega
  ·obtain rfl:i=n:=by omega
   have hlt':decide ((i:Int)<(i:Int))=false:=by simp
   go_wp2_with fail;go_ret;exact ⟨rfl,hb0.trans (hB.mono hb0.size)⟩
theorem IW (A A':Option Addr) (n cap cap':Nat) (l:List Ru) (cs hs:Nat→Int) (w:World) (hn:l.length=n) (hm:n≤1000) (hr:Rd w w.heap.size A (fl iN l)) (hr':Rd w w.heap.size A' (fl iN l)) :
  Calls prog 196 #[gK (.slice A n cap) cs hs,gK (.slice A' n cap') cs hs] w fun e w'=>e= .returned (.bool true)∧Below w.heap.size w w':=by
 have hb0:=(aV w (.cells (aM (.slice A n cap) cs hs).toArray 69)).alloc (by simp) (.cells (aM (.slice A' n cap') cs hs).toArray 69);have k0:=(ag.new w 69 (aM (.slice A n cap) cs hs).toArray).alloc (.cells (aM (.slice A' n cap') cs hs).toArray 69);have k1:=ag.new (w.alloc (.cells (aM (.slice A n cap) cs hs).toArray 69)) 69 (aM (.slice A' n cap') cs hs).toArray;have r0:=hr.fw hb0;have r1:=hr'.fw hb0;obtain ⟨s,hsz⟩:=aj (w.heap.size);rw [World.size_alloc,hsz] at k1;rw [hsz] at k0;have HP:=ae (fun W h h'=>JZ A A' n cap cap' l W hn hm h h');have hqc:∀W,(Op.equalIn 10000 67 (.agg #[.int .i64 (cs 0),.int .i64 (cs 1),.int .i64 (cs 2),.int .i64 (cs 3),.int .i64 (cs 4),.int .i64 (cs 5),.int .i64 (cs 6)]) (.agg #[.int .i64 (cs 0),.int .i64 (cs 1),.int .i64 (cs 2),.int .i64 (cs 3),.int .i64 (cs 4),.int .i64 (cs 5),.int .i64 (cs 6)])).run prog W= .ok true W:=fun W=>Py cs W
 have Nj:∀W,(Op.equalIn 10000 67 (.agg #[.int .i64 (hs 0),.int .i64 (hs 1),.int .i64 (hs 2),.int .i64 (hs 3),.int .i64 (hs 4),.int .i64 (hs 5),.int .i64 (hs 6)]) (.agg #[.int .i64 (hs 0),.int .i64 (hs 1),.int .i64 (hs 2),.int .i64 (hs 3),.int .i64 (hs 4),.int .i64 (hs 5),.int .i64 (hs 6)])).run prog W= .ok true W:=fun W=>Py hs W
 unfold aM at hb0 k0 k1 r0 r1;unfold gK aM;clear hn hr hr';go_enter func196,ntmps196;go_upto_region 1 with fail
 generalize (w.alloc _).alloc _=w0 at *;try simp only [hsz]
 have c0:=k0.cell;have c1:=k1.cell;go_wp2_with fail;refine (HP.out _ r0 r1).mono ?_;rintro e w1 ⟨rfl,hb1⟩;have Dp:=(k0.call hb1).cell;have k11:=(k1.call hb1).cell;clear c0 c1 k0 k1 r0 r1 HP;go_wp2_with fail;go_ret;exact ⟨rfl,hb0.trans (hb1.mono hb0.size)⟩
theorem oC {P:Program} {ops:Array Oper} {C:World→Prop} {Q:Act→Prop} {a:Act} {o:Oper} {rest:List Oper} (x:Operand) (ty:TypeId) (p:Addr) (v:Value) (hg:o.guard=none) (h:o.op= .load ty x) (hx:a.eval x= .pointer (some p)) (hl:∀w,C w→(loadVar ty p).run P w= .ok v w)
  (hk:wpQuiet P ops C Q rest (a.put o.dst v)):wpQuiet P ops C Q (o::rest) a :=
 wpQuiet_step fun K hK=>by
  rw [if_pos (by simp [Region.wanted,hg])];refine ⟨v,fun w hw=>?_,hK _ hk⟩;unfold Oper.quietAt;have e:(execOp a.eval o).run P w= .ok (.value v) w:=by
   unfold execOp;simp only [h];simp [hx,Instr.loadAt,Instr.sureAddr,Result.andThen,hl w hw]
  rw [e];exact ⟨rfl,rfl⟩
theorem Ql:(prog.info? 167).map (·.size)=some 65:=by kernel_rfl
theorem K8 (d:Nat) (f:Nat→Int) (w:World):∀is:List Nat,(∀i∈is,i<64)→(Op.eqItems (d+1) 5 1 (fq .u8 64 f) (fq .u8 64 f) is).run prog w= .ok true w
 | [],_=>by simp [Op.eqItems]
 | i::is,h=>by
  have ih:=K8 d f w is (fun j hj=>h j (by simp [hj]));have h1:=qy (k:=.u8) (f:=f) (h i (by simp));have a3:=Tryz.isAgg5;have he:=run_equalIn_int (P:=prog) w d 5 .u8 _ (f i) (f i) underlying5;generalize fq .u8 64 f=X at *;have p1:(part 5 X (i*1)).run prog w= .ok (.int .u8 (f i)) w:=by simp [part,a3,h1]
  rw [show (f i==f i)=true by simp] at he;simp only [Op.eqItems,Sem.run_bind,p1,he,Result.andThen_ok,Bool.not_true,Bool.false_eq_true,if_false];exact ih
theorem agl (d:Nat) (f:Nat→Int) (w:World):(Op.equalIn (d+2) 63 (.agg (fq .u8 64 f)) (.agg (fq .u8 64 f))).run prog w= .ok true w:=by
 obtain ⟨i0,hi⟩:=info_of_underlying (P:=prog) underlying5;rw [run_equalIn_array w (d+1) _ _ underlying63 hi];have hc:prog.cellsOf 5=1:=by kernel_rfl
 rw [hc];exact K8 d f w _ (fun i hi=>List.mem_range.1 hi)
theorem TD (p:Int) (f:Nat→Int):(jP p f).extract 1 65=fq .u8 64 f:=by kernel_rfl
theorem WX (p:Int) (f:Nat→Int):(jP p f).size=65:=by kernel_rfl
theorem WY (p:Int) (f:Nat→Int):(jP p f)[0]? = some (.int .i64 p):=by kernel_rfl
theorem aj7 (p:Int) (f:Nat→Int) (w:World):(Op.equalIn 10000 167 (.agg (jP p f)) (.agg (jP p f))).run prog w= .ok true w:=by
 have u3:=underlying3;have a3:=Tryz.isAgg3;have z3:=Tryz.sizeOf3;have a9:=Tryz.isAgg63;have z9:=Tryz.sizeOf63;have h0:(jP p f)[0]? = some (.int .i64 p):=WY p f;have hx:(jP p f).extract 1 65=fq .u8 64 f:=TD p f;have hs:=WX p f;have he:(Op.equalIn 9999 63 (.agg (fq .u8 64 f)) (.agg (fq .u8 64 f))).run prog w= .ok true w:=agl 9997 f w;have he0:(Op.equalIn 9999 3 (.int .i64 p) (.int .i64 p)).run prog w= .ok (p==p) w:=run_equalIn_int (P:=prog) w 9998 3 .i64 _ p p underlying3;rw [show (p==p)=true by simp] at he0;generalize jP p f=D at *;generalize fq .u8 64 f=X at *;rw [show (10000:Nat)=9999+1 from rfl];go_simp;obtain ⟨hlt,e0⟩:=Array.getElem?_eq_some_iff.1 h0;simp only [e0,he0,he,Result.andThen_ok,Bool.true_eq_false,if_false]
theorem TE (S T:Value) (V:Vm) (w:World) (hS:Kw w S V) (hT:Kw w T V) (hm:V.rf.rules.length≤1000) :
  Calls prog 146 #[S,T] w fun e w'=>e= .returned (.bool true)∧Below w.heap.size w w':=by
 obtain ⟨A1,A2,A3,A4,n1,c1,n2,c2,n3,c3,n4,c4,rfl,h1,r1,h2,r2,h3,r3,h4,r4⟩:=hS.ex;obtain ⟨B1,B2,B3,B4,m1,d1,m2,d2,m3,d3,m4,d4,rfl,g1,q1,g2,q2,g3,q3,g4,q4⟩:=hT.ex;obtain rfl:n1=m1:=h1.symm.trans g1;obtain rfl:n2=m2:=h2.symm.trans g2;obtain rfl:n3=m3:=h3.symm.trans g3;obtain rfl:n4=m4:=h4.symm.trans g4;clear g1 g2 g3 g4 hS hT;have hb0:=(aV w (.cells (gq (.slice A1 n1 c1) (.slice A2 n2 c2) (.slice A3 n3 c3) (.slice A4 n4 c4) V.rf.calls V.rf.hits).toArray 87)).alloc (by simp) (.cells (gq (.slice B1 n1 d1) (.slice B2 n2 d2) (.slice B3 n3 d3) (.slice B4 n4 d4) V.rf.calls V.rf.hits).toArray 87);have k0:=(ag.new w 87 (gq (.slice A1 n1 c1) (.slice A2 n2 c2) (.slice A3 n3 c3) (.slice A4 n4 c4) V.rf.calls V.rf.hits).toArray).alloc (.cells (gq (.slice B1 n1 d1) (.slice B2 n2 d2) (.slice B3 n3 d3) (.slice B4 n4 d4) V.rf.calls V.rf.hits).toArray 87);have k1:=ag.new (w.alloc (.cells (gq (.slice A1 n1 c1) (.slice A2 n2 c2) (.slice A3 n3 c3) (.slice A4 n4 c4) V.rf.calls V.rf.hits).toArray 87)) 87 (gq (.slice B1 n1 d1) (.slice B2 n2 d2) (.slice B3 n3 d3) (.slice B4 n4 d4) V.rf.calls V.rf.hits).toArray;obtain ⟨s,hs⟩:=aj (w.heap.size);rw [World.size_alloc,hs] at k1;rw [hs] at k0;have R1:=ae (And.intro (r1.fw hb0) (q1.fw hb0));have R2:=ae (And.intro (RI.more (RI.below r2 hb0) hb0.size) (RI.more (RI.below q2 hb0) hb0.size));have R3:=ae (And.intro (r3.fw hb0) (q3.fw hb0));have R4:=ae (And.intro (r4.fw hb0) (q4.fw hb0));have SS:=ae (fun W h h'=>IW A4 B4 n4 c4 d4 V.rf.rules V.rf.calls V.rf.hits W h4 (by omega) h h');have H1:=ae h1;have H2:=ae h2;have H3:=ae h3;have hL1:=uM V 1024;have hL2:=zu V 1024;have hL3:=zw V 1024;have e1:((n1:Int) != (n1:Int))=false:=by simp
 have e2:((n2:Int) != (n2:Int))=false:=by simp
 have e3:((n3:Int) != (n3:Int))=false:=by simp
 rw [h1] at hL1;rw [h2] at hL2;rw [h3] at hL3;clear r1 r2 r3 r4 q1 q2 q3 q4 h1 h2 h3 h4;unfold gq aM at hb0 k0 k1 R1 R2 R3 R4 ⊢;unfold gK aM at SS;go_enter func146,ntmps146;go_upto_region 1 with fail
 generalize (w.alloc _).alloc _=w0 at *;try simp only [hs]
 have c0:=k0.cell;have c1:=k1.cell;go_wp2_with fail;refine (SS.out _ R4.out.1 R4.out.2).mono ?_;rintro e w1 ⟨rfl,hb1⟩;have Dp:=ae (k0.call hb1);have k11:=ae (k1.call hb1);have Q1:=ae (And.intro (R1.out.1.fw hb1) (R1.out.2.fw hb1));have Q2:=ae (And.intro (RI.more (RI.below R2.out.1 hb1) hb1.size) (RI.more (RI.below R2.out.2 hb1) hb1.size));have Q3:=ae (And.intro (R3.out.1.fw hb1) (R3.out.2.fw hb1));have B0:=hb0.trans (hb1.mono hb0.size);clear c0 c1 k0 k1 R1 R2 R3 R4 SS hb1;have aj8:=ae (fun a b c W=>aj6 a b c W);have aj9:=ae (fun p W=>aj7 ((p:Nat):Int) (V.pg p).iJ W);go_wp2_with fail
 go_loopw [5] (fun u wr=>∃i:Nat,i≤n1∧u= .int .i64 i∧Below w1.heap.size w1 wr) (fun u _=>n1 - (intOf u).toNat)
 case atStart=>exact ⟨0,by omega,rfl,Below.refl _ _⟩
 case round =>
  obtain ⟨i,hi,rfl,hB⟩:=hrel;have kr:=Dp.out.call hB;have kq:=k11.out.call hB;have cr:=kr.cell;by_cases hlt:i<n1
  ·have hlt':decide ((i:Int)<(n1:Int))=true:=by simpa using hlt
   have hin:(i:Int)<(n1:Int):=by omega
   obtain ⟨b,o,rfl,hb,hc⟩:=(Q1.out.1.fw hB).elem wh (by omega) rn0 (k:=i) (by have:=H1.out;omega);obtain ⟨b',o',rfl,hb',hc'⟩:=(Q1.out.2.fw hB).elem wh (by omega) rn0 (k:=i) (by have:=H1.out;omega);generalize (aP V 1024).getD i rn0=x at *;obtain ⟨xa,xn,xk⟩:=x;have x0:=hc 0 _ rfl;have x1:=hc 1 _ rfl;have x2:=hc 2 _ rfl;have y0:=hc' 0 _ rfl;have y1:=hc' 1 _ rfl;have y2:=hc' 2 _ rfl;simp only [Nat.add_zero] at x0 y0;have e0:=fun z:Ext wr=>(z.blk kr).cell
   have e1:=fun z:Ext wr=>(z.blk kq).cell
   have a0:=fun z:Ext wr=>z.cell x0
   have a1:=fun z:Ext wr=>z.cell x1
   have a2:=fun z:Ext wr=>z.cell x2
   have b0:=fun z:Ext wr=>z.cell y0
   have b1:=fun z:Ext wr=>z.cell y1
   have b2:=fun z:Ext wr=>z.cell y2
   have hq:=fun W=>aj8.out xa xn xk W
   clear hc hc' x0 x1 x2 y0 y1 y2;go_upto_region 6 with fail
   clear cr;refine aF (by kernel_rfl) (by kernel_rfl) ?_
   repeat (go_big_quiet_step (fail))
   refine wpQuiet_nil ?_;rintro w2 ⟨⟨_,hw2⟩,rfl⟩;go_wp2_with fail;go_roundw
   case rel=>exact ⟨i+1,by omega,by go_num,hB.trans (hw2.mono hB.size)⟩
   case measure=>simp [intOf];omega
  ·obtain rfl:i=n1:=by omega
   have hlt':decide ((i:Int)<(i:Int))=false:=by simp
   have hB1:=ae hB;clear hB kr kq;go_wp2_with fail;clear cr
   go_loopw [6] (fun u wr=>∃i:Nat,i≤n2∧u= .int .i64 i∧Below w1.heap.size w1 wr) (fun u _=>n2 - (intOf u).toNat)
   case atStart=>exact ⟨0,by omega,rfl,hB1.out⟩
   case round =>
    obtain ⟨j,hj,rfl,hB⟩:=hrel;have kr:=Dp.out.call hB;have kq:=k11.out.call hB;have cr:=kr.cell;by_cases hlt2:j<n2
    ·have Rv:decide ((j:Int)<(n2:Int))=true:=by simpa using hlt2
     have hin:(j:Int)<(n2:Int):=by omega
     obtain ⟨b,o,rfl,hb,x0⟩:=(RI.more (RI.below Q2.out.1 hB) hB.size).at_ (k:=j) (by have:=H2.out;omega);obtain ⟨b',o',rfl,hb',y0⟩:=(RI.more (RI.below Q2.out.2 hB) hB.size).at_ (k:=j) (by have:=H2.out;omega);generalize (dY V 1024).getD j 0=x at *;have e0:=fun z:Ext wr=>(z.blk kr).cell
     have e1:=fun z:Ext wr=>(z.blk kq).cell
     have a0:=fun z:Ext wr=>z.cell x0
     have b0:=fun z:Ext wr=>z.cell y0
     have hq:(x != x)=false:=by simp
     clear x0 y0;go_upto_region 11 with fail
     clear cr;refine aF (by kernel_rfl) (by kernel_rfl) ?_
     repeat (go_big_quiet_step (fail))
     refine wpQuiet_nil ?_;rintro w2 ⟨⟨_,hw2⟩,rfl⟩;go_wp2_with fail;go_roundw
     case rel=>exact ⟨j+1,by omega,by go_num,hB.trans (hw2.mono hB.size)⟩
     case measure=>simp [intOf];omega
    ·obtain rfl:j=n2:=by omega
     have Rv:decide ((j:Int)<(j:Int))=false:=by simp
     have hB2:=ae hB;clear hB kr kq;go_wp2_with fail;clear cr
     go_loopw [7] (fun u wr=>∃i:Nat,i≤n3∧u= .int .i64 i∧Below w1.heap.size w1 wr) (fun u _=>n3 - (intOf u).toNat)
     case atStart=>exact ⟨0,by omega,rfl,hB2.out⟩
     case round =>
      obtain ⟨k,hk,rfl,hB⟩:=hrel;have kr:=Dp.out.call hB;have kq:=k11.out.call hB;have cr:=kr.cell;by_cases hlt3:k<n3
      ·have agm:decide ((k:Int)<(n3:Int))=true:=by simpa using hlt3
       have hin:(k:Int)<(n3:Int):=by omega
       obtain ⟨b,o,rfl,hb,hc⟩:=(Q3.out.1.fw hB).elem (Px V) (by omega) 0 (k:=k) (by have:=H3.out;omega);obtain ⟨b',o',rfl,hb',hc'⟩:=(Q3.out.2.fw hB).elem (Px V) (by omega) 0 (k:=k) (by have:=H3.out;omega);generalize (dL V 1024).getD k 0=p at *;have hq:=aj9.out p;have hld:∀z:Ext wr,(loadVar 167 ⟨b,o+k*65,none⟩).run prog z.w= .ok (.agg (jP (p:Int) (V.pg p).iJ)) z.w:=fun z=>run_loadVar_mid (P:=prog) z.w b (o+k*65) 167 (tT V p) _ (fun j v hj=>z.cell (hc j v hj)) underlying167 rfl Ql
       have aka:∀z:Ext wr,(loadVar 167 ⟨b',o'+k*65,none⟩).run prog z.w= .ok (.agg (jP (p:Int) (V.pg p).iJ)) z.w:=fun z=>run_loadVar_mid (P:=prog) z.w b' (o'+k*65) 167 (tT V p) _ (fun j v hj=>z.cell (hc' j v hj)) underlying167 rfl Ql
       have e0:=fun z:Ext wr=>(z.blk kr).cell
       have e1:=fun z:Ext wr=>(z.blk kq).cell
       generalize jP (p:Int) (V.pg p).iJ=D at *;clear hc hc';go_upto_region 16 with fail
       clear cr;refine aF (by kernel_rfl) (by kernel_rfl) ?_
       repeat (go_big_quiet_step (fail))
       refine oC (.tmp 87) 167 ⟨b,o+k*65,none⟩ (.agg D) rfl rfl rfl (by rintro _ ⟨z,rfl⟩;exact hld z) ?_;simp only [Act.put,List.setIfInBounds_toArray,List.set_cons_zero,List.set_cons_succ]
       repeat (go_big_quiet_step (fail))
       refine oC (.tmp 92) 167 ⟨b',o'+k*65,none⟩ (.agg D) rfl rfl rfl (by rintro _ ⟨z,rfl⟩;exact aka z) ?_;simp only [Act.put,List.setIfInBounds_toArray,List.set_cons_zero,List.set_cons_succ]
       repeat (go_big_quiet_step (fail))
       refine wpQuiet_nil ?_;rintro w2 ⟨⟨_,hw2⟩,rfl⟩;go_wp2_with fail;go_roundw
       case rel=>exact ⟨k+1,by omega,by go_num,hB.trans (hw2.mono hB.size)⟩
       case measure=>simp [intOf];omega
      ·obtain rfl:k=n3:=by omega
       have agm:decide ((k:Int)<(k:Int))=false:=by simp
       go_wp2_with fail;go_ret;exact ⟨rfl,B0.trans (hB.mono B0.size)⟩
end Go.Proofs.YtjmmgoijnhnnaaaGreat
