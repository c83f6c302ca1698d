/- Texts CWalkS, CLawB, RWalkG, RWalkH, RSpecB, RWalkI, RWalkJ, RSpecC, RWalkK, RWalkL, RSpecD, RSpecE, RSpecF. -/
import Derived.Test.YtlgcpjhimomiaaaGreatO13
set_option maxRecDepth 100000
set_option maxHeartbeats 12800000
namespace Go.Pol
open Go Go.RowKit Go.Proofs.Tryz
def Ew (r:Cr) (x:Sp):Bool:=decide (x.1<r.live)||decide (pJ r<x.1+x.2)
theorem afr {r:Cr} (h:Can r.kept):(0<r.kept.length/\((r.kept.getD 0 (0,0)).1<r.live\/pJ r<(jd r.kept).1+(jd r.kept).2))↔∃x∈r.kept,Ew r x=true:=by
 constructor
 ·rintro ⟨h0,h1|h1⟩
  ·refine ⟨_,?_,by unfold Ew;rw [decide_eq_true h1];rfl⟩
   rw [List.getD_eq_getElem?_getD,List.getElem?_eq_getElem h0];exact List.getElem_mem _
  ·refine ⟨jd r.kept,?_,by unfold Ew;rw [decide_eq_true h1,Bool.or_true]⟩
   unfold jd;rw [List.getD_eq_getElem?_getD,List.getElem?_eq_getElem zo];exact List.getElem_mem _
 ·rintro ⟨x,hx,ho⟩
  have h0:0<r.kept.length:=List.length_pos_of_mem hx;refine ⟨h0,?_⟩;unfold Ew at ho;rw [Bool.or_eq_true,decide_eq_true_eq,decide_eq_true_eq] at ho;rcases ho with ho|ho
  ·left
   match hk:r.kept,h0 with
   | y::s,_ =>
    rw [hk] at h hx;have:=JQ h x hx;rw [List.getD_cons_zero];omega
  ·right
   have:=sJ r.kept _ (λz hz=>(av.1 (h.1 z hz)).2.2.1) h.2 x hx;omega
def dz (f:Nat->Bool) (a b:Int) (v:Bool):Nat->Bool:=λk=>if a<=(k:Int)/\(k:Int)<b then v else f k
theorem ko (f:Nat->Bool) (a:Int) (i:Nat) (v:Bool) (hi:a<=(i:Int)) (k:Nat):dz f a ((i+1:Nat):Int) v k=if k=i then v else dz f a i v k:=by
 unfold dz;by_cases h:k=i
 ·subst h;rw [if_pos rfl,if_pos zo]
 ·rw [if_neg h]
  by_cases h2:a<=(k:Int)/\(k:Int)<(i:Int)
  ·rw [if_pos h2,if_pos zo]
  ·rw [if_neg h2,if_neg zo]
theorem aft {K:List Sp} (hK:Can K) {a b:Int} (hB:Can (bJ a b)):setOf (K++bJ a b)=ji (dz (λk=>mem (k:Int) K) a b true):=by
 refine (nO _).oO _ (λp hp=>?_);rw [Bool.eq_iff_iff,xK (λx hx=>(List.mem_append.1 hx).elim (hK.1 x) (hB.1 x)),mem_append,wX];unfold dz;by_cases h:a<=(p:Int)/\(p:Int)<b
 ·rw [if_pos h,decide_eq_true h.1,decide_eq_true h.2];simp
 ·rw [if_neg h]
  have:(decide (a<=(p:Int))&&decide ((p:Int)<b))=false:=by
   rw [Bool.eq_false_iff,Ne,Bool.and_eq_true,decide_eq_true_eq,decide_eq_true_eq];exact h
  rw [this,Bool.or_false]
theorem lN (X Z:Array Value) (W:World) (g:Nat) (hX:X.size=1024) (hZ:Z.size=1024) (hk:af W g 189 Z):af (W.setCells g 0 X.toList) g 189 X/\ag (λk=>k=g) W (W.setCells g 0 X.toList)/\W.there g 0 X.size:=by
 have kP:=af.puts (g:=g) (t:=189) (w:=W) (cs:=#[]) X.toList 0 _ _ hk;rw [eH (by rw [Array.length_toList,hX,hZ])] at kP;exact ⟨kP,ag.puts (T:=λk=>k=g) rfl X.toList 0 W _ (ag.refl _ W),dL hk 0 _ zo⟩
def uM (B bs:Nat) (w:World) (k:Nat):Prop:=k=bs\/zV B w k
structure bO (B bs bb:Nat) (V:Vm) (L:List Nd) (w w':World):Prop where
 sys:bn w' B bs V
 eO:ed w' B bb L
 far:ag (uM B bs w) w w'
theorem bn.typed {w:World} {B b:Nat} {V:Vm} (h:bn w B b V):∃cs,af w b 123 cs:=by
 obtain ⟨cs,A,n,cap,hk,_⟩:=h.ex;exact ⟨cs,hk⟩
theorem ed.typed {w:World} {N b:Nat} {L:List Nd} (h:ed w N b L):∃cs,af w b 180 cs:=by
 obtain ⟨A,cap,k,_⟩:=h.ex;exact ⟨_,k⟩
theorem uM.not {w:World} {B bs:Nat} {V:Vm} (h:bn w B bs V) {g:Nat} {t:TypeId} {cs:Array Value} (hg:af w g t cs) (h1:t≠123) (h2:t≠140):¬uM B bs w g:=by
 exact aei
theorem bO.blk {B bs bb:Nat} {V V0:Vm} {L:List Nd} {w w':World} (h:bO B bs bb V L w w') (h0:bn w B bs V0) {g:Nat} {t:TypeId} {cs:Array Value} (hg:af w g t cs) (h1:t≠123:=by decide) (h2:t≠140:=by decide):af w' g t cs :=
 h.far.blk hg (uM.not h0 hg h1 h2)
theorem bO.kept {B bs bb:Nat} {V V0:Vm} {L:List Nd} {w w':World} (h:bO B bs bb V L w w') (h0:bn w B bs V0) {A:Option Addr} {us:List Sp} (hk:KeptAt w A us):KeptAt w' A us :=
 hk.far h.far (λ_ _ hg=>uM.not h0 hg zd zd)
theorem bO.below {B bs bb:Nat} {V:Vm} {L:List Nd} {w w':World} (hV:bn w B bs V) (hB:ed w B bb L) (h:Below w.heap.size w w'):bO B bs bb V L w w':=⟨hV.call h,hB.call h,ag.of_below h⟩
theorem bO.iX {B bs bb:Nat} {V V':Vm} {L:List Nd} {w w':World} (hV:bn w B bs V) (hB:ed w B bb L) (h:eF B bs V' w w'):bO B bs bb V' L w w':=by
 refine ⟨h.1,?_,h.2.mono (λk _ hk=>.inl hk)⟩;obtain ⟨cs,hc⟩:=hV.typed;refine hB.far h.2 (λe=>?_) (λk ⟨_,ds,hd⟩ e=>?_)
 ·obtain ⟨ds,hd⟩:=hB.typed
  have e:bb=bs:=e;subst e;exact hd.ne hc zd
 ·have e:k=bs:=e
  subst e;exact hd.ne hc zd
theorem bO.mU {B bs bb:Nat} {V:Vm} {L:List Nd} {w w':World} (hV:bn w B bs V) (h:oH B bb L w w'):bO B bs bb V L w w':=by
 obtain ⟨cs,hc⟩:=hV.typed;exact ⟨hV.far h.2 (λk ⟨hk,ds,hd⟩=>⟨hk,λe=>by subst e;exact hc.ne hd zd⟩),h.1,h.2.mono (λ_ _ hk=>.inr hk)⟩
theorem uM.back {w w1:World} {B bs k:Nat} (hF:ag (uM B bs w) w w1) (hk:k<w.heap.size) (h:uM B bs w1 k):uM B bs w k:=by
 rcases h with h|⟨hb,cs,hcs⟩
 ·exact .inl h
 ·by_cases h0:uM B bs w k
  ·exact h0
  ·exact .inr ⟨hb,cs,(hF.block k hk h0).symm.trans hcs⟩
theorem bO.trans {B bs bb:Nat} {V V1:Vm} {L L1:List Nd} {w w1 w2:World} (h:bO B bs bb V1 L1 w w1) (k:bO B bs bb V L w1 w2):bO B bs bb V L w w2 :=
 ⟨k.sys,k.eO,h.far.trans' k.far (λ_ hi ht=>uM.back h.far hi ht)⟩
theorem bO.aU {B bs bb:Nat} {V:Vm} {L:List Nd} {w w1 w2:World} (h:bO B bs bb V L w w1) (k:Below w1.heap.size w1 w2):bO B bs bb V L w w2:=h.trans (.below h.sys h.eO k)
theorem bO.fresh {B bs bb:Nat} {V:Vm} {L:List Nd} {w w1 w2:World} {T:Nat->Prop} (h:bO B bs bb V L w w1) (hF:ag T w1 w2) (hw:bs<w.heap.size) (hT:∀k,T k->w.heap.size<=k) (hty:∀k,T k->∃t cs,af w1 k t cs/\t≠140/\t≠180):bO B bs bb V L w w2:=by
 have hbase:=h.sys.base;refine ⟨h.sys.far hF (λk hk=>by have:=hT k hk;exact ⟨zo,zo⟩),?_,h.far.trans' hF (λi hi ht=>absurd (hT i ht) zo)⟩;refine h.eO.far hF (λht=>?_) (λk ⟨_,es,he⟩ ht=>?_)
 ·obtain ⟨ds,hd⟩:=h.eO.typed
  obtain ⟨t,es,he,_,h3⟩:=hty _ ht;exact he.ne hd h3
 ·obtain ⟨t,ds,hd,h2,_⟩:=hty _ ht
  exact hd.ne he h2
theorem eF.trans {B b:Nat} {V V1:Vm} {w w1 w2:World} (h:eF B b V1 w w1) (k:eF B b V w1 w2):eF B b V w w2:=⟨k.1,h.2.trans k.2⟩
theorem eF.below {B b:Nat} {V:Vm} {w w1:World} (h:bn w B b V) (k:Below w.heap.size w w1):eF B b V w w1:=⟨h.call k,ag.of_below k⟩
theorem eF.blk {B b:Nat} {V V0:Vm} {w w1:World} (h:eF B b V w w1) (h0:bn w B b V0) {g:Nat} {t:TypeId} {cs:Array Value} (hg:af w g t cs) (h1:t≠123:=by decide):af w1 g t cs :=
 h.2.blk hg (λe=>by
  have e:g=b:=e;subst e;obtain ⟨es,he⟩:=h0.typed;exact hg.ne he h1)
theorem eF.fresh {B b:Nat} {V:Vm} {w w1 w2:World} {T:Nat->Prop} (h:eF B b V w w1) (hF:ag T w1 w2) (hw:b<w.heap.size) (hT:∀k,T k->w.heap.size<=k):eF B b V w w2:=by
 have hbase:=h.1.base;exact ⟨h.1.far hF (λk hk=>by have:=hT k hk;exact ⟨zo,zo⟩),h.2.trans' hF (λi hi ht=>absurd (hT i ht) zo)⟩
theorem Uh (pg n f bk ev node:Int):bq ⟨pg,n,f,bk,ev,node,0,[],false⟩=if bQ pg n f bk ev≠0 then bQ pg n f bk ev else if node<0\/64<=node then 7 else 0:=by
 unfold bq;simp only;by_cases h:bQ pg n f bk ev≠0
 ·rw [if_pos h,if_pos h]
 ·rw [if_neg h,if_neg h]
  have hp:=bR.1 (by simpa using h:bQ pg n f bk ev=0);have hu:¬pJ ⟨pg,n,f,bk,ev,node,0,[],false⟩<0:=by
   unfold pJ;simp only;rw [if_pos (by simpa using h)];have:=rq (L:=ay pg n f bk ev) (mi hp);omega
  by_cases h2:node<0\/64<=node
  ·rw [if_pos h2,if_pos zo]
  ·rw [if_neg h2,if_neg zo]
   have:eG []=0:=by decide
   rw [this];simp
theorem GX:∀(s:List Sp) {e e':Int},e<=e'->aV e' s=true->aV e s=true
 | [],_,_,_,_=>rfl
 | x::r,e,e',he,h=>by
  have h1:=aJ.1 h;exact aJ.2 ⟨zo,h1.2⟩
theorem Cf:∀(A B:List Sp) {e e':Int},e<=e'->(∀x∈A,x.1+x.2<=e')->aV e A=true->aV e' B=true->aV e (A++B)=true
 | [],B,e,e',he,_,_,hB=>GX B he hB
 | x::r,B,e,e',he,hA,hf,hB=>by
  have h1:=aJ.1 hf;rw [List.cons_append];exact aJ.2 ⟨h1.1,Cf r B (hA x zs) (λy hy=>hA y (by simp [hy])) h1.2 hB⟩
theorem Ex (d:Int):∀(A:List Sp) {e:Int},aV e A=true->aV (e+d) (A.map λx=>(x.1+d,x.2))=true
 | [],_,_=>rfl
 | x::r,e,h=>by
  have h1:=aJ.1 h;rw [List.map_cons];refine aJ.2 ⟨by simp only;omega,?_⟩;have:=Ex d r h1.2;rw [show x.1+x.2+d=x.1+d+x.2 by omega] at this;exact this
theorem XQ:∀(A:List Sp) {e e':Int},(∀x∈A,e'<x.1)->aV e A=true->aV e' A=true
 | [],_,_,_,_=>rfl
 | x::r,e,e',hA,h=>by
  have h1:=aJ.1 h;exact aJ.2 ⟨hA x zs,h1.2⟩
def jf (l:List iO):List Sp:=l.map λx=>(x.1,x.2.1)
theorem GY {S:List Sp} (hS:Can S):∀(L:List Sp) (m e:Int),0<=m->m+aG L<=1024->(∀u∈L,bF u=true)->aV e L=true->aV e (jf (bW S m L))=true
 | [],_,_,_,_,_,_=>rfl
 | u::r,m,e,hm,hs,hv,hf=>by
  have hu:=av.1 (hv u zs);have h1:=aJ.1 hf;have hsr:0<=aG r:=rq (λx hx=>(av.1 (hv x (by simp [hx]))).2.2.1);have hsc:aG (u::r)=u.2+aG r:=by simp [aG]
  rw [hsc] at hs;have hone:Can [(m,u.2)]:=Can.one (av.2 (by simp only;omega));have hc:=hS.common hone;have hmem:=hS.iI hone;have hin:∀x∈az S [(m,u.2)],m<=x.1/\x.1+x.2<=m+u.2:=λx hx=>by
   have hx':=av.1 (hc.1 x hx);have a1:mem x.1 (az S [(m,u.2)])=true:=List.any_eq_true.2 ⟨x,hx,by simp;omega⟩;have a2:mem (x.1+x.2 - 1) (az S [(m,u.2)])=true:=List.any_eq_true.2 ⟨x,hx,by simp;omega⟩;rw [hmem,Bool.and_eq_true] at a1 a2;have b1:=a1.2;have b2:=a2.2;rw [iY] at b1 b2;simp only at b1 b2;omega
  have e0:jf (bW S m (u::r))=((az S [(m,u.2)]).map λx=>(x.1+(u.1 - m),x.2))++jf (bW S (m+u.2) r):=by
   unfold jf;rw [bW,List.map_append,List.map_map];congr 1;refine List.map_congr_left (λx _=>?_);simp only [Function.comp];congr 1;omega
  rw [e0];refine Cf _ _ (e':=u.1+u.2) zo (λy hy=>?_) ?_ (GY hS r _ _ zo zo (λx hx=>hv x (by simp [hx])) h1.2)
  ·obtain ⟨x,hx,rfl⟩:=List.mem_map.1 hy
   have:=hin x hx;simp only;omega
  ·have h2:=Ex (u.1 - m) _ (XQ _ (e':=m - 1) (λx hx=>by have:=hin x hx;omega) hc.2)
   exact GX _ zo h2
theorem Uk (l:List iO) (p:Int):mem p (jf l)=true↔∃x∈l,x.1<=p/\p<x.1+x.2.1:=by
 unfold mem jf;rw [List.any_map,List.any_eq_true];simp only [Function.comp,Bool.and_eq_true,decide_eq_true_eq]
theorem XR {S:List Sp} (hS:Can S) {L:List Sp} (hs:aG L<=1024) (hv:∀u∈L,bF u=true) (hf:aV (-1) L=true) (p:Int):mem p (jf (bW S 0 L))=(mem p L&&mem (fZ p 0 L).1 S):=by
 rw [Bool.eq_iff_iff,Uk,Bool.and_eq_true];have hpos:∀u∈L,1<=u.2:=λu hu=>(av.1 (hv u hu)).2.2.1
 constructor
 ·rintro ⟨x,hx,h1,h2⟩
  obtain ⟨hr,hm⟩:=qm hS L 0 (-1) zo zo hv hf x hx;obtain ⟨a,b⟩:=hr.page p h1 h2;exact ⟨a,hm _ zo zo⟩
 ·rintro ⟨h1,h2⟩
  have hr:=mG L 0 p hpos h1;obtain ⟨x,hx,h3,h4⟩:=xY hS L 0 zo zo hv _ h2 hr.1 hr.2;obtain ⟨hq,_⟩:=qm hS L 0 (-1) zo zo hv hf x hx;have:=hq.num p h1 h3 h4;exact ⟨x,hx,this.1,this.2⟩
theorem XT {S:List Sp} (hS:Can S) {L:List Sp} (hs:aG L<=1024) (hv:∀u∈L,bF u=true) (hf:aV (-1) L=true):jf (bW S 0 L)=ji (λp=>mem (p:Int) L&&mem (fZ p 0 L).1 S):=by
 refine Can.oO ⟨λx hx=>?_,GY hS L 0 (-1) zo zo hv hf⟩ _ (λp _=>(XR hS hs hv hf p).symm);unfold jf at hx;obtain ⟨y,hy,rfl⟩:=List.mem_map.1 hx;obtain ⟨hr,_⟩:=qm hS L 0 (-1) zo zo hv hf y hy;have h1:=hr.pos;have h2:=hr.lo;have h3:=hr.hi;rw [av];simp only;omega
def pG (L:List Sp) (f:Nat->Bool) (i:Nat):Nat->Bool:=λp=>mem (p:Int) L&&(decide ((fZ p 0 L).1<(i:Int))&&f (fZ p 0 L).1.toNat)
theorem Ul {L:List Sp} {f:Nat->Bool} (hL:∀u∈L,1<=u.2) {i:Nat} (h:f i=false\/aG L<=i) (p:Nat):pG L f (i+1) p=pG L f i p:=by
 unfold pG;cases hm:mem (p:Int) L with
 | false=>rfl
 | true =>
  have hr:=mG L 0 p hL hm;rw [Bool.true_and,Bool.true_and];by_cases e:(fZ p 0 L).1=i
  ·rw [e]
   rcases h with h|h
   ·rw [Int.toNat_natCast,h,Bool.and_false,Bool.and_false]
   ·omega
  ·congr 1
   exact decide_eq_decide.2 zo
theorem Oj {L:List Sp} {f:Nat->Bool} (hL:∀u∈L,1<=u.2) {i q:Nat} (hf:f i=true) (hq:mem (q:Int) L=true) (hi:(fZ q 0 L).1=i) (p:Nat):pG L f (i+1) p=if p=q then true else pG L f i p:=by
 unfold pG;by_cases e:p=q
 ·subst e
  rw [if_pos rfl,hq,hi,Int.toNat_natCast,hf,decide_eq_true zo];rfl
 ·rw [if_neg e]
  cases hm:mem (p:Int) L with
  | false=>rfl
  | true =>
   rw [Bool.true_and,Bool.true_and];congr 1;refine decide_eq_decide.2 ?_;have:(fZ p 0 L).1≠i:=λh=>e (by
    have:=Fw L 0 p q hL hm hq (h.trans hi.symm);omega)
   omega
theorem FK:∀(L:List Sp) (m p:Int),mem p L=true->(fZ p m L).2=0
 | [],_,_,h=>by simp [mem] at h
 | x::r,m,p,h=>by
  rw [fZ];split
  ·rfl
  ·rename_i hn
   refine FK r _ p ?_;rw [bH] at h;exact h.resolve_left hn
theorem Um {f g:Nat->Bool} (h:∀p,p<1024->f p=g p):ji f=ji g:=by
 refine (EE f).oO g (λp hp=>?_);rw [Bool.eq_iff_iff,EF,Int.toNat_natCast,<-h p hp];exact ⟨λe=>⟨zo,e⟩,λe=>e.2⟩
theorem Ol {S:List Sp} (hS:Can S) {L:List Sp} (hs:aG L<=1024) (hv:∀u∈L,bF u=true) (hf:aV (-1) L=true) {f:Nat->Bool} (h:∀k:Nat,k<1024->f k=mem (k:Int) S):ji (pG L f 1024)=jf (bW S 0 L):=by
 rw [XT hS hs hv hf];refine Um (λp _=>?_);unfold pG;cases hm:mem (p:Int) L with
 | false=>rfl
 | true =>
  have hr:=mG L 0 p (λu hu=>(av.1 (hv u hu)).2.2.1) hm;rw [Bool.true_and,Bool.true_and,decide_eq_true zo,Bool.true_and,h _ zo];congr 1;omega
theorem afC {K:List Sp} (hK:Can K) {live tt:Int} (h2:tt<=1024) (hl:∀x∈K,live<=x.1):az K (aZ (bJ 0 tt) (0,1024))=ji (dz (λj=>mem (j:Int) K) live tt false):=by
 have hB:Can (bJ 0 tt):=mF zo zo;refine (qo hK hB).oO _ (λp hp=>?_);rw [uF hK hB,wX];unfold dz;by_cases h:live<=(p:Int)/\(p:Int)<tt
 ·rw [if_pos h,decide_eq_true zo,decide_eq_true h.2];simp
 ·rw [if_neg h]
  by_cases h3:(p:Int)<live
  ·have:mem (p:Int) K=false:=by
    rw [Bool.eq_false_iff];intro hm;obtain ⟨x,hx,hh⟩:=List.any_eq_true.1 hm;have:=hl x hx;simp at hh;omega
   simp [this]
  ·rw [decide_eq_false (p:=(p:Int)<tt) zo];simp
theorem FM {K:List Sp} (hK:Can K) {live tt:Int} (hB:Can (bJ live tt)) (k:Int):mem k (az (bJ live tt) (aZ K (0,1024)))=(decide (live<=k)&&decide (k<tt)&&!mem k K):=by
 rw [uF hB hK,wX]
def rW (K:List Sp) (live:Int) (n:Nat):Int:=iL (λq=>!mem q K) n live
theorem XV {K:List Sp} (hK:Can K) {a d:Nat} (h:a+d<=1024) (hB:Can (bJ (a:Int) ((a+d:Nat):Int))):rW K a d=aG (az (bJ (a:Int) ((a+d:Nat):Int)) (aZ K (0,1024))):=by
 have hm:=λk=>FM hK hB k
 rw [<-Tv (qo hB hK)];obtain ⟨e,he⟩:∃e,1024=a+(d+e):=⟨1024 - a - d,zo⟩;rw [show iL (λq=>mem q (az (bJ (a:Int) ((a+d:Nat):Int)) (aZ K (0,1024)))) 1024 0=iL (λq=>mem q (az (bJ (a:Int) ((a+d:Nat):Int)) (aZ K (0,1024)))) (a+(d+e)) 0 by rw [<-he]];rw [j6,j6,nP a 0 (λq h1 h2=>by rw [hm,decide_eq_false zo];rfl),nP e _ (λq h1 h2=>by rw [hm,decide_eq_false (p:=q<((a+d:Nat):Int)) zo];simp),Int.zero_add,Int.add_zero,Int.zero_add];unfold rW;refine vw d _ (λq h1 h2=>?_);rw [hm,decide_eq_true zo,decide_eq_true zo];rfl
theorem Av (K:List Sp) (live:Int) (i:Nat):rW K live (i+1)=rW K live i+if mem (live+i) K=true then 0 else 1:=by
 unfold rW;rw [I9];cases mem (live+i) K <;> rfl
end Go.Pol
namespace Go.Proofs.YtlgcpjhimomiaaaGreat
open Go Go.Proofs Go.RowKit Go.Pol Go.Shelf Tryz
attribute [local go_sem] Oper.semAt_some aC au aB ai
def XI (bs bb:Nat) (V:Vm) (L:List Nd) (r:Cr) (er:Int) (w:World) (e:Ending) (w':World):Prop:=∃v,e= .returned (.tuple #[v,zI er])/\Dc r w' v/\aR bs bb V L w w'
theorem arL (bs bb:Nat) (W:World) (h:aA W bs iM) (hb:bz W bb (fK 5)) :
  Calls prog 16 #[zP bs,ek 0 8 1 1 0,zI 0] W (XI bs bb yO.2.2 (fK 5) yO.1 0 W):=by
 have h1:=GH bs iM 0 8 1 1 0 0 W h GQ;have h2:=shA.1;unfold yO at h2 ⊢;generalize lg iM 0 8 1 1 0 0=S at *;refine h1.mono ?_;rintro e w' ⟨v,rfl,hv,ht⟩;rw [h2];exact ⟨v,rfl,hv,.iX h hb ht⟩
theorem XJ {P:Prop} (h:P:=by
 refine h1.mono ?_;rintro e w' ⟨v,rfl,hv,ht⟩;rw [h2];exact ⟨v,rfl,hv,ht⟩):P:=h
theorem arM (bs bb:Nat) (A:Option Addr) (cap:Nat) (W:World) (h:aA W bs yO.2.2) (hb:bz W bb (fK 5)) (hcap:yO.1.kept.length<=cap) (hcm:cap<=maxLen) (hk:KeptAt W A yO.1.kept) :
  Calls prog 18 #[zP bs,zP bb,.agg (aj yO.1 (.slice A yO.1.kept.length cap)),zI 3] W (XI bs bb pM.2.2.1 pM.2.2.2 pM.1 0 W):=by
 have h2:=shA.2.1;have hK:=akk;unfold pM at h2 ⊢;generalize yO=S at *;have h1:=vK bs bb S.2.2 (fK 5) S.1 3 A cap W h hK.KX hb hK.Ih (λ_=>hK.hn) hcap hcm hk;generalize dh S.2.2 (fK 5) S.1 3=R at *;exact XJ
theorem arN (bs bb:Nat) (A:Option Addr) (cap:Nat) (W:World) (h:aA W bs pM.2.2.1) (hb:bz W bb pM.2.2.2) (hcap:pM.1.kept.length<=cap) (hcm:cap<=maxLen) (hk:KeptAt W A pM.1.kept) :
  Calls prog 18 #[zP bs,zP bb,.agg (aj pM.1 (.slice A pM.1.kept.length cap)),zI 6] W (XI bs bb Dp.2.2.1 Dp.2.2.2 Dp.1 5 W):=by
 have h2:=shA.2.2.2.1;have hK:=akl;unfold Dp at h2 ⊢;generalize pM=S at *;have h1:=vK bs bb S.2.2.1 S.2.2.2 S.1 6 A cap W h hK.KX hb hK.Ih (λ_=>hK.hn) hcap hcm hk;generalize dh S.2.2.1 S.2.2.2 S.1 6=R at *;exact XJ
theorem arO (A:Option Addr) (cap:Nat) (W:World) (hcap:pM.1.kept.length<=cap) (hcm:cap<=maxLen) (hk:KeptAt W A pM.1.kept) :
  Calls prog 19 #[.agg (aj pM.1 (.slice A pM.1.kept.length cap)),zI 1] W λe w'=>∃v,e= .returned (.tuple #[v,zI 0])/\Dc FI.1 w' v/\Below W.heap.size W w':=by
 have h2:=shA.2.2.2.2;unfold FI at h2 ⊢;generalize pM=S at *;have h1:=GA S.1 1 A cap W hcap hcm hk;generalize iN S.1 1=R at *;rw [h2] at h1;exact h1
theorem arP (bs bb:Nat) (A:Option Addr) (cap:Nat) (W:World) (h:aA W bs Dp.2.2.1) (hb:bz W bb Dp.2.2.2) (hcap:FI.1.kept.length<=cap) (hcm:cap<=maxLen) (hk:KeptAt W A FI.1.kept) :
  Calls prog 18 #[zP bs,zP bb,.agg (aj FI.1 (.slice A FI.1.kept.length cap)),zI 2] W (XI bs bb wu.2.2.1 wu.2.2.2 wu.1 0 W):=by
 have h2:=shB.1;have hK:=akm;unfold wu at h2 ⊢;generalize Dp=S at *;generalize FI=T at *;have h1:=vK bs bb S.2.2.1 S.2.2.2 T.1 2 A cap W h hK.KX hb hK.Ih (λ_=>hK.hn) hcap hcm hk;generalize dh S.2.2.1 S.2.2.2 T.1 2=R at *;exact XJ
theorem akp {P:Prop} (h:P:=by
 have h1:=J8 bs bb S.2.2.1 S.2.2.2 S.1 2 A cap W h hK.KX hb hK.Ih (λ_=>hK.hn) hcap hcm hk zd zd;generalize bZ S.2.2.1 S.2.2.2 S.1 2=R at *;refine h1.mono ?_;rintro e w' ⟨v,rfl,hv,ht⟩;rw [h2];exact ⟨v,rfl,hv,ht⟩):P:=h
theorem arQ (bs bb:Nat) (A:Option Addr) (cap:Nat) (W:World) (h:aA W bs wu.2.2.1) (hb:bz W bb wu.2.2.2) (hcap:wu.1.kept.length<=cap) (hcm:cap<=maxLen) (hk:KeptAt W A wu.1.kept) :
  Calls prog 20 #[zP bs,zP bb,.agg (aj wu.1 (.slice A wu.1.kept.length cap)),zI 2] W (XI bs bb nU.2.2.1 nU.2.2.2 nU.1 0 W):=by
 have h2:=shB.2.1;have hK:=akn;unfold nU at h2 ⊢;generalize wu=S at *;exact akp
theorem arR (bs bb:Nat) (A:Option Addr) (cap:Nat) (W:World) (h:aA W bs nU.2.2.1) (hb:bz W bb nU.2.2.2) (hcap:nU.1.kept.length<=cap) (hcm:cap<=maxLen) (hk:KeptAt W A nU.1.kept) :
  Calls prog 20 #[zP bs,zP bb,.agg (aj nU.1 (.slice A nU.1.kept.length cap)),zI 2] W (XI bs bb xu.2.2.1 xu.2.2.2 xu.1 4 W):=by
 have h2:=shB.2.2.1;have hK:=ako;unfold xu at h2 ⊢;generalize nU=S at *;exact akp
theorem arS (bs bb:Nat) (A:Option Addr) (cap:Nat) (W:World) (h:aA W bs xu.2.2.1) (hb:bz W bb xu.2.2.2) (hcap:nU.1.kept.length<=cap) (hcm:cap<=maxLen) (hk:KeptAt W A nU.1.kept) :
  Calls prog 23 #[zP bs,zP bb,.agg (aj nU.1 (.slice A nU.1.kept.length cap))] W (XI bs bb sP.2.2.1 sP.2.2.2 bD 0 W):=by
 have h2:=shD.1;have h3:=afc;have hK:=afe;unfold sP at h2 h3 ⊢;generalize xu=S at *;generalize nU=T at *;have h1:=Em bs bb S.2.2.1 S.2.2.2 T.1 A cap W h hK.KX hb hK.Ih (λ_=>hK.hn) hcap hcm hk;generalize dI S.2.2.1 S.2.2.2 T.1=R at *;refine h1.mono ?_;rintro e w' ⟨v,rfl,hv,ht⟩;rw [h2,<-h3];exact ⟨v,rfl,hv,ht⟩
theorem Dq (w:World):zK 5 #[] w (.bool true):=by
 have H0:=ae arL;have H1:=ae arM;have H2:=ae arN;have H3:=ae arO;have H4:=ae arP;have H5:=ae arQ;have H6:=ae arR;have H7:=ae arS;have a3:=ae shA.2.2.1;have b4:=ae shB.2.2.2;have cc:=ae shC;have dd:=ae shD.2;have hK6:=afe;have hK7:=arK;have HU6:=ae (λbb W hB=>Jk bb 0 xu.2.2.2 W hB hK6.Ih (by rw [hK6.len];decide));have HC6:=ae (λbs W hV=>yc bs xu.2.2.1 W hV hK6.KX);have HU7:=ae (λbb W hB=>Jk bb 0 sP.2.2.2 W hB hK7.2.1 (by rw [hK7.2.2];decide));have HC7:=ae (λbs W hV=>yc bs sP.2.2.1 W hV hK7.1);have u6:=b4.out.1;have l5:=ae b4.out.2;rw [u6] at HU6;rw [dd.out.1] at HU7;dsimp only [PX] at HC6 HC7;rw [cc.out.1,cc.out.2] at HC6;rw [dd.out.2] at HC7;clear u6 b4 cc dd hK6 hK7;generalize yO=S0 at *;generalize pM=S1 at *;generalize Dp=S2 at *;generalize FI=S3 at *;generalize wu=S4 at *;generalize nU=S5 at *;generalize xu=S6 at *;generalize sP=S7 at *;go_enter func5,ntmps5;go_wp2_with fail;refine (acZ _).mono ?_;rintro e w1 ⟨bs,rfl,hV1,hbs,hb1⟩;go_wp2_with fail;refine (Nw 5 w1).mono ?_;rintro e w2 ⟨he,hb2⟩;rw [if_neg zd] at he;obtain ⟨bb,rfl,hbb,hB2⟩:=he;have hV2:=hV1.call hb2;go_wp2_with fail;refine (Ua w2).zr λw3 hb3=>?_
 obtain ⟨hV3,hB3⟩:=bY hb3 hV2 hB2;have B3:=(hb1.zt hb2).trans (hb3.mono (hb1.zt hb2).size);clear hV1 hV2 hB2;go_wp2_with fail;refine (H0.out bs bb w3 hV3 hB3).mono ?_;rintro e w4 ⟨v4,rfl,⟨A5,c5,rfl,hl5,hm5,hk4⟩,T4⟩;dsimp only [aj];go_upto_region 4 with fail
 have pK:=af.new w4 28 (aj S0.1 (.slice A5 S0.1.kept.length c5));have gN:=aQ w4 (.cells (aj S0.1 (.slice A5 S0.1.kept.length c5)) 28);have T5:=T4.aU gN;have hk5:=hk4.call gN;have hg3:=T4.size;change Code.wp _ _ _ _ (w4.alloc (.cells (aj S0.1 (.slice A5 S0.1.kept.length c5)) 28));obtain ⟨g,hg⟩:=ah (w4.heap.size);rw [hg] at pK hg3;try simp only [hg]
 generalize w4.alloc (.cells (aj S0.1 (.slice A5 S0.1.kept.length c5)) 28)=w5 at *;have hz1:=hb1.size;have hz2:=hb2.size;clear T4 hk4 gN H0 hb1 hb2 hb3 hV3 hB3;try dsimp only [aj] at pK
 have cx5:=pK.cell;go_wp2_with fail;refine ((H1).out bs bb A5 c5 w5 T5.sys T5.eO hl5 hm5 hk5).mono ?_;rintro e wx6 ⟨v6,rfl,⟨A6,c6,rfl,HY,MQ,akq⟩,s6⟩;dsimp only [aj];have jE:=s6.blk T5.sys pK zd zd;have Ty6:=T5.trans s6;have Qh:=jE.cell;have Qi:=jE.frozen;clear cx5;go_upto_region 5 with fail
 change Code.wp _ _ _ _ (aP wx6 g S1.1 (.slice A6 (S1.1).kept.length c6));have uD:=aK jE S1.1 (.slice A6 (S1.1).kept.length c6);have FN6:=aL wx6 g S1.1 (.slice A6 (S1.1).kept.length c6);have T6:=Ty6.fresh FN6 (λk hk=>by rw [hk];exact hg3) (λk hk=>by rw [hk];exact ⟨_,_,jE,zd,zd,zd,zd⟩);have wZ:=akq.far FN6 (λg' cs hG e=>by have e:g'=g:=e;rw [e] at hG;exact jE.ne hG zd);generalize aP wx6 g S1.1 (.slice A6 (S1.1).kept.length c6)=w6 at *;clear pK hk5 s6 jE Ty6 Qh Qi FN6 akq;have d3:(S1.1.live != 3)=false:=by rw [a3.out];rfl
 dsimp only [aj] at uD;have cx6:=uD.cell;go_upto_region 7 with fail
 clear cx6 d3;try dsimp only [aj] at uD
 have cx6:=uD.cell;go_wp2_with fail;refine ((H2).out bs bb A6 c6 w6 T6.sys T6.eO HY MQ wZ).mono ?_;rintro e wx7 ⟨v7,rfl,⟨A7,c7,rfl,O6,hm7,arV⟩,s7⟩;dsimp only [aj];have yP:=s7.blk T6.sys uD zd zd;have Ty7:=T6.trans s7;have cy7:=yP.cell;have fy7:=yP.frozen;clear cx6;go_upto_region 8 with fail
 have Bq:=yP;have FH:=s7.kept T6.sys wZ;have cx7:=Bq.cell;clear uD wZ s7 yP cy7 fy7 arV;go_wp2_with fail;refine (H3.out A6 c6 wx7 HY MQ FH).mono ?_;rintro e wx8 ⟨v8,rfl,⟨A8,c8,rfl,hl8,hm8,akr⟩,s8⟩;dsimp only [aj];have FJ:=Bq.call s8;have Ty8:=Ty7.aU s8;have cy8:=FJ.cell;have fy8:=FJ.frozen;clear cx7;go_upto_region 9 with fail
 change Code.wp _ _ _ _ (aP wx8 g S3.1 (.slice A8 (S3.1).kept.length c8));have kx8:=aK FJ S3.1 (.slice A8 (S3.1).kept.length c8);have FN8:=aL wx8 g S3.1 (.slice A8 (S3.1).kept.length c8);have T8:=Ty8.fresh FN8 (λk hk=>by rw [hk];exact hg3) (λk hk=>by rw [hk];exact ⟨_,_,FJ,zd,zd,zd,zd⟩);have hk8:=akr.far FN8 (λg' cs hG e=>by have e:g'=g:=e;rw [e] at hG;exact FJ.ne hG zd);generalize aP wx8 g S3.1 (.slice A8 (S3.1).kept.length c8)=w8 at *;clear Bq FH s8 FJ Ty8 cy8 fy8 FN8 akr;try dsimp only [aj] at kx8
 have cx8:=kx8.cell;go_wp2_with fail;refine ((H4).out bs bb A8 c8 w8 T8.sys T8.eO hl8 hm8 hk8).mono ?_;rintro e wx9 ⟨v9,rfl,⟨A9,c9,rfl,Ht,hm9,aks⟩,s9⟩;dsimp only [aj];have Eu:=s9.blk T8.sys kx8 zd zd;have Ty9:=T8.trans s9;have cy9:=Eu.cell;have fy9:=Eu.frozen;clear cx8;go_upto_region 10 with fail
 change Code.wp _ _ _ _ (aP wx9 g S4.1 (.slice A9 (S4.1).kept.length c9));have kx9:=aK Eu S4.1 (.slice A9 (S4.1).kept.length c9);have FN9:=aL wx9 g S4.1 (.slice A9 (S4.1).kept.length c9);have T9:=Ty9.fresh FN9 (λk hk=>by rw [hk];exact hg3) (λk hk=>by rw [hk];exact ⟨_,_,Eu,zd,zd,zd,zd⟩);have oV:=aks.far FN9 (λg' cs hG e=>by have e:g'=g:=e;rw [e] at hG;exact Eu.ne hG zd);generalize aP wx9 g S4.1 (.slice A9 (S4.1).kept.length c9)=w9 at *;clear kx8 hk8 s9 Eu Ty9 cy9 fy9 FN9 aks;try dsimp only [aj] at kx9
 have cx9:=kx9.cell;go_wp2_with fail;refine ((H5).out bs bb A9 c9 w9 T9.sys T9.eO Ht hm9 oV).mono ?_;rintro e aff ⟨v10,rfl,⟨A10,c10,rfl,akt,aku,afg⟩,s10⟩;dsimp only [aj];have vM:=s10.blk T9.sys kx9 zd zd;have akv:=T9.trans s10;have Uc:=vM.cell;have ar1:=vM.frozen;clear cx9;go_upto_region 11 with fail
 change Code.wp _ _ _ _ (aP aff g S5.1 (.slice A10 (S5.1).kept.length c10));have Zo:=aK vM S5.1 (.slice A10 (S5.1).kept.length c10);have afh:=aL aff g S5.1 (.slice A10 (S5.1).kept.length c10);have wo:=akv.fresh afh (λk hk=>by rw [hk];exact hg3) (λk hk=>by rw [hk];exact ⟨_,_,vM,zd,zd,zd,zd⟩);have hk10:=afg.far afh (λg' cs hG e=>by have e:g'=g:=e;rw [e] at hG;exact vM.ne hG zd);generalize aP aff g S5.1 (.slice A10 (S5.1).kept.length c10)=iV at *;clear kx9 oV s10 vM akv Uc ar1 afh afg;try dsimp only [aj] at Zo
 have ar2:=Zo.cell;go_wp2_with fail;refine ((H6).out bs bb A10 c10 iV wo.sys wo.eO akt aku hk10).mono ?_;rintro e afi ⟨v11,rfl,⟨A11,c11,rfl,axv,axw,anw⟩,s11⟩;dsimp only [aj];have GU:=s11.blk wo.sys Zo zd zd;have akw:=wo.trans s11;have afj:=GU.cell;have ar3:=GU.frozen;clear ar2;go_upto_region 12 with fail
 have Qj:=aQ afi (.cells (aj S6.1 (.slice A11 S6.1.kept.length c11)) 28);have qx:=akw.aU Qj;have akx:=GU.call Qj;have sj:=(s11.kept wo.sys hk10).call Qj;change Code.wp _ _ _ _ (afi.alloc (.cells (aj S6.1 (.slice A11 S6.1.kept.length c11)) 28));generalize afi.alloc (.cells (aj S6.1 (.slice A11 S6.1.kept.length c11)) 28)=XK at *;clear Zo hk10 s11 GU akw afj ar3 anw Qj H1 H2 H3 H4 H5 H6 T5 T6 Ty7 T8 T9 wo HY MQ hl8 hm8 Ht hm9 hl5 hm5 a3;go_wp2_with fail;refine (HU6.out bb XK qx.eO).zr λQk KY=>?_
 have Ql:=qx.aU KY;obtain ⟨aky,yC⟩:=bY KY akx sj;clear qx akx sj KY HU6;go_wp2_with fail;refine (HC6.out bs Qk Ql.sys).zr λPD afk=>?_
 have Dr:=Ql.aU afk;obtain ⟨akz,Am⟩:=bY afk aky yC;clear Ql aky yC afk HC6;go_upto_region 14 with fail
 generalize fq S6.2.2.1 1024 0=q0 at *;generalize fq S6.2.2.1 1024 1=q1 at *;generalize fq S6.2.2.1 1024 4=q4 at *;have kn:=af.new PD 77 #[zI q0,zI q1,zI 2,zI 2,zI q4];have XL:=aQ PD (.cells #[zI q0,zI q1,zI 2,zI 2,zI q4] 77);have KZ:=Dr.aU XL;obtain ⟨Zp,Ao⟩:=bY XL akz Am;have akA:=Dr.size;obtain ⟨gn,hgn⟩:=ah (PD.heap.size);rw [hgn] at kn akA;try simp only [hgn]
 generalize PD.alloc _=w15 at *;clear Dr akz Am XL;have d4:(S5.1.live != 2)=false:=by rw [l5.out.1];rfl
 have d5:(((S5.1.kept.length:Nat):Int) != 0)=false:=by rw [l5.out.2];rfl
 obtain ⟨afl,cn⟩:=bB Zp kn;go_upto_region 16 with fail
 clear afl cn d4 d5;have afl:=Zp.cell;go_wp2_with fail;refine (H7.out bs bb A10 c10 w15 KZ.sys KZ.eO akt aku Ao).mono ?_;rintro e afm ⟨v16,rfl,⟨A16,c16,rfl,ar4,axx,XM⟩,s16⟩;dsimp only [aj,bD] at XM ar4 ⊢;have Ev:=s16.blk KZ.sys Zp zd zd;have Zq:=s16.blk KZ.sys kn zd zd;have akB:=KZ.trans s16;have akC:=Ev.cell;have ar5:=Ev.frozen;clear afl;go_upto_region 17 with fail
 change Code.wp _ _ _ _ (aP afm g bD (.slice A16 0 c16));have akD:=aK Ev bD (.slice A16 0 c16);have Zr:=aL afm g bD (.slice A16 0 c16);have T16:=akB.fresh Zr (λk hk=>by rw [hk];exact hg3) (λk hk=>by rw [hk];exact ⟨_,_,Ev,zd,zd,zd,zd⟩);have akE:=Zr.blk Zq (λe=>by have e:gn=g:=e;rw [e] at Zq;exact Zq.ne Ev zd);have Zt:=XM.far Zr (λg' cs hG e=>by have e:g'=g:=e;rw [e] at hG;exact Ev.ne hG zd);generalize aP afm g bD (.slice A16 0 c16)=w16 at *;clear Zp Ao s16 Ev akB akC ar5 Zr XM Zq kn KZ H7;go_wp2_with fail;refine (HU7.out bb w16 T16.eO).zr λw17 afp=>?_
 have T17:=T16.aU afp;obtain ⟨akF,akG,akH⟩:=mY afp akD akE Zt;clear T16 akD akE Zt afp HU7;go_wp2_with fail;refine (HC7.out bs w17 T17.sys).zr λw18 afq=>?_
 have T18:=T17.aU afq;obtain ⟨Zu,K3,akI⟩:=mY afq akF akG akH;clear T17 akF akG akH afq HC7;generalize fq S7.2.2.1 1024 1=q21 at *;generalize fq S7.2.2.1 1024 2=q22 at *;generalize fq S7.2.2.1 1024 3=q23 at *;generalize fq S7.2.2.1 1024 4=q24 at *;have ar7:=K3.cell;have ar8:=K3.frozen;go_upto_region 19 with fail
 have akJ:=((((K3.aM 0 (zI 1024)).aM 1 (zI q21)).aM 2 (zI q22)).aM 3 (zI q23)).aM 4 (zI q24);have F20:ag (λk=>k=gn) w18 (((((w18.setCell ⟨gn,0,none⟩ (zI 1024)).setCell ⟨gn,1,none⟩ (zI q21)).setCell ⟨gn,2,none⟩ (zI q22)).setCell ⟨gn,3,none⟩ (zI q23)).setCell ⟨gn,4,none⟩ (zI q24)) :=
  ((((((ag.refl (λk=>k=gn) w18).setCell (p:=⟨gn,0,none⟩) (λ_=>rfl) _).setCell (p:=⟨gn,1,none⟩) (λ_=>rfl) _).setCell (p:=⟨gn,2,none⟩) (λ_=>rfl) _).setCell (p:=⟨gn,3,none⟩) (λ_=>rfl) _).setCell (p:=⟨gn,4,none⟩) (λ_=>rfl) _)
 have T20:=T18.fresh F20 (λk hk=>by rw [hk];exact akA) (λk hk=>by rw [hk];exact ⟨_,_,K3,zd,zd,zd,zd⟩);have akK:=F20.blk Zu (λe=>by have e:g=gn:=e;rw [e] at Zu;exact Zu.ne K3 zd);have ar9:=akI.far F20 (λg' cs hG e=>by have e:g'=gn:=e;rw [e] at hG;exact hG.ne K3 zd);generalize ((((w18.setCell ⟨gn,0,none⟩ (zI 1024)).setCell ⟨gn,1,none⟩ (zI q21)).setCell ⟨gn,2,none⟩ (zI q22)).setCell ⟨gn,3,none⟩ (zI q23)).setCell ⟨gn,4,none⟩ (zI q24)=w20 at *;simp only [List.setIfInBounds_toArray,List.set_cons_zero,List.set_cons_succ] at akJ;clear K3 ar7 ar8 F20 Zu akI T18;dsimp only [aj,bD] at akK;obtain ⟨axy,axz⟩:=bB akJ akK;have HS:=GR bD A16 none c16 0 w20 (by show (0:Nat)<=maxLen;unfold maxLen;omega) ar9.ru RU.nil;dsimp only [aj,bD,List.length_nil] at HS;go_wp2_with fail;refine HS.zr λw21 asa=>?_
 go_wp2_with fail;go_ret;have T21:=T20.aU asa;exact ⟨rfl,B3.trans (T21.far.below (by have:=B3.size;omega) (λk hk h=>by
  rcases h with rfl|⟨h,_⟩ <;> omega))⟩
open Go.ChangeShapes Go.WideShapes Go.Deep
theorem XN (A1 A2:Option Addr) (n1 c1 n2 c2:Nat) (pg n f bk ev lim:Int) (w:World) :
  Calls prog 4 #[.agg #[zI pg,zI n,zI f,zI bk,zI ev,zI lim,.slice A1 n1 c1,.slice A2 n2 c2]] w λe w'=>e= .returned (.bool ((decide (100<n)||decide (30<(n2:Int)))||decide (60<(n1:Int))))/\Below w.heap.size w w':=by
 have hb0:=aQ w (.cells #[zI pg,zI n,zI f,zI bk,zI ev,zI lim,.slice A1 n1 c1,.slice A2 n2 c2] 34);have k0:=af.new w 34 #[zI pg,zI n,zI f,zI bk,zI ev,zI lim,.slice A1 n1 c1,.slice A2 n2 c2];have c0:=k0.cell;by_cases h1:100<n
 ·have d1:=bU h1
  rw [d1];clear h1;go_enter func4,ntmps4;go_wp2_with fail;go_ret;exact ⟨rfl,hb0⟩
 have d1:=bV h1;rw [d1];clear h1;by_cases h2:30<(n2:Int)
 ·have d2:=bU h2
  rw [d2];clear h2;go_enter func4,ntmps4;go_wp2_with fail;go_ret;exact ⟨rfl,hb0⟩
 have d2:=bV h2;rw [d2];clear h2;have d3:=ae (Eq.refl (decide (60<(n1:Int))));generalize hd:decide (60<(n1:Int))=d at *;clear d3;go_enter func4,ntmps4;go_wp2_with fail;go_ret;exact ⟨zs,hb0⟩
theorem Ud {P:Prop} (h:P:=by
 go_enter func7,ntmps7
 go_wp2_with (first
  | (go_at_call 27;refine (HC.out _).mono ?_;rintro e w1 ⟨rfl,hb1⟩;have k1:=k0.call hb1;have c1:=k1.cell;have B1:=hb0.zt hb1;have r1:=hr0.on hb1)
  | (go_at_call 28;refine (lF A _ cap K w1 hm.out zo r1).mono ?_;rintro e w2 ⟨rfl,hb2⟩;have k2:=k1.call hb2;have c2:=k2.cell;have B2:=B1.zt hb2;have r2:=r1.on hb2))
 go_ret;rw [hR2.out];exact ⟨rfl,B1⟩):P:=h
theorem afs {P:Prop} (h:P:=by
 go_enter func7,ntmps7
 go_wp2_with (first
  | (go_at_call 27;refine (HC.out _).mono ?_;rintro e w1 ⟨rfl,hb1⟩;have k1:=k0.call hb1;have c1:=k1.cell;have B1:=hb0.zt hb1;have r1:=hr0.on hb1)
  | (go_at_call 28;refine (lF A _ cap K w1 hm.out zo r1).mono ?_;rintro e w2 ⟨rfl,hb2⟩;have k2:=k1.call hb2;have c2:=k2.cell;have B2:=B1.zt hb2;have r2:=r1.on hb2))
 go_ret;rw [hR2.out];exact ⟨rfl,B2⟩):P:=h
theorem akL {P:Prop} (h:P:=by
 go_upto_region 11 with fail
 clear c3;refine aD zk zk ?_
 repeat (go_big_quiet_step (fail))
 refine wpQuiet_nil ?_;rintro w4 ⟨⟨_,hw4⟩,rfl⟩;go_wp2_with fail;go_ret;rw [CX.out];exact ⟨rfl,B3.zt hw4⟩):P:=h
theorem iC (r:Cr) (A:Option Addr) (cap:Nat) (w:World) (hcap:r.kept.length<=cap) (hcm:cap<=maxLen) (hr:RU w w.heap.size A r.kept) :
  zK 7 #[.agg (aj r (.slice A r.kept.length cap))] w (zI (bq r)):=by
 have HC:=ae (λW=>vY r.pg r.n r.f r.bk r.ev W);rw [xV] at HC;obtain ⟨R,hR⟩:=ah (bq r);rw [hR];unfold bq at hR;obtain ⟨pg,n,f,bk,ev,node,live,K,cl⟩:=r;simp only at hcap hcm hr HC hR ⊢;obtain ⟨U,hU⟩:=ah (pJ ⟨pg,n,f,bk,ev,node,live,K,cl⟩);rw [hU] at HC hR;generalize bQ pg n f bk ev=ck at *;generalize (lT pg n f bk ev).2=V2 at *;obtain ⟨m,hm0⟩:=ah (K.length);rw [hm0] at hcap hR ⊢;have hm:=ae hm0;have O4:m<=9223372036854775807:=by unfold maxLen at hcm;omega
 have hb0:=aQ w (.cells (aj ⟨pg,n,f,bk,ev,node,live,K,cl⟩ (.slice A m cap)) 28);have k0:=af.new w 28 (aj ⟨pg,n,f,bk,ev,node,live,K,cl⟩ (.slice A m cap));have hr0:=hr.on hb0;dsimp only [aj] at k0 hb0 hr0 ⊢;have c0:=k0.cell;have hU:=ae hU;clear hm0 hr;by_cases h0:ck=0
 case neg =>
  have h0':=gJ h0;have hR2:Hid (R=ck):=ae (by rw [<-hR,if_pos h0]);clear hR h0;exact Ud
 subst h0;rw [if_neg zs] at hR;by_cases a1:live<0
 ·have d1:=bU a1
  have hR2:Hid (R=7):=ae (by rw [<-hR,if_pos (.inl a1)]);clear hR a1;exact Ud
 have d1:=bV a1;by_cases a2:U<live
 ·have d2:=bU a2
  have hR2:Hid (R=7):=ae (by rw [<-hR,if_pos (.inr (.inl a2))]);clear hR a1 a2;exact Ud
 have d2:=bV a2;by_cases a3:node<0
 ·have d3:=bU a3
  have hR2:Hid (R=7):=ae (by rw [<-hR,if_pos (.inr (.inr (.inl a3)))]);clear hR a1 a2 a3;exact Ud
 have d3:=bV a3;by_cases a4:64<=node
 ·have d4:=bU a4
  have hR2:Hid (R=7):=ae (by rw [<-hR,if_pos (.inr (.inr (.inr a4)))]);clear hR a1 a2 a3 a4;exact Ud
 have d4:=bV a4;rw [if_neg zo] at hR;clear a1 a2 a3 a4;have hK:Hid (eG K=eG K):=ae rfl;by_cases a5:eG K=0
 case neg =>
  have d5:=gJ a5;have hR2:Hid (R=6):=ae (by rw [<-hR,if_pos (.inl a5)]);clear hR a5;exact afs
 have d5:=Ha a5;by_cases a6:cl=true/\(live≠0\/m≠0)
 ·obtain ⟨rfl,a7⟩:=a6
  have hR2:Hid (R=6):=ae (by rw [<-hR,if_pos (.inr ⟨rfl,a7⟩)]);by_cases a8:live=0
  ·have a9:¬m=0:=by rcases a7 with h|h;exact absurd a8 h;exact h
   have d8:=Ha a8;have d9:decide ((0:Int)<(m:Int))=true:=by rw [decide_eq_true_eq];omega
   have d9':0<m:=zo;clear hR a5 a7 a8 a9;exact afs
  ·have d8:=gJ a8
   clear hR a5 a7 a8;exact afs
 have hcl:cl=false\/(cl=true/\live=0/\m=0):=by
  exact ajC
 rw [if_neg (by rintro (h|h);exact h a5;exact a6 h)] at hR;clear a6;have oq:Go.Pol.Can K:=bI.1 a5;have akM:=λx (hx:x∈K)=>av.1 (oq.1 x hx)
 have yL:=hU.out;have jZ:Hid (R=if ∃x∈K,Ew ⟨pg,n,f,bk,ev,node,live,K,cl⟩ x=true then 6 else 0):=ae (by
  have h:=afr (r:=⟨pg,n,f,bk,ev,node,live,K,cl⟩) oq;simp only [hm.out,yL] at h;rw [<-hR];by_cases hh:∃x∈K,Ew ⟨pg,n,f,bk,ev,node,live,K,cl⟩ x=true
  ·rw [if_pos hh,if_pos (h.2 hh)]
  ·rw [if_neg hh,if_neg (λe=>hh (h.1 e))])
 have hout:Hid (∀x,Ew ⟨pg,n,f,bk,ev,node,live,K,cl⟩ x=(decide (x.1<live)||decide (U<x.1+x.2))):=ae (λx=>by unfold Ew;simp only;rw [yL]);have hvH:=ae akM;have asb:=ae (λW (h:RU W W.heap.size A K) (k:Nat) (hk:k<m)=>h.at_' (k:=k) (by have:=hm.out;omega));clear hR a5 oq akM yL;have hl0:(cl=false)\/(cl=true/\(live != 0)=false/\decide ((0:Int)<(m:Int))=false):=by
  rcases hcl with h|⟨h1,h2,h3⟩
  ·exact .inl h
  ·exact .inr ⟨h1,by simpa using h2,by rw [h3];simp⟩
 clear hcl;rcases hl0 with rfl|⟨rfl,f1,f2⟩
 ·go_enter func7,ntmps7
  go_wp2_with (first
   | (go_at_call 27;refine (HC.out _).mono ?_;rintro e w1 ⟨rfl,hb1⟩;have k1:=k0.call hb1;have c1:=k1.cell;have B1:=hb0.zt hb1;have r1:=hr0.on hb1)
   | (go_at_call 28;refine (lF A _ cap K w1 hm.out zo r1).mono ?_;rintro e w2 ⟨rfl,hb2⟩;have k2:=k1.call hb2;have c2:=k2.cell;have B2:=B1.zt hb2;have r2:=r1.on hb2))
  go_loopw [6] (λu wr=>∃i:Nat,i<=m/\u = zI i/\(∀k,k<i->Ew ⟨pg,n,f,bk,ev,node,live,K,false⟩ (K.getD k (0,0))=false)/\Below w2.heap.size w2 wr) (λu _=>m - (intOf u).toNat)
  case atStart=>exact ⟨0,zo,rfl,λk hk=>by omega,Below.refl _ _⟩
  case round =>
   obtain ⟨i,hi,rfl,hno,hB⟩:=hrel;have NU:=ae hno;clear hno;have k3:=k2.call hB;have c3:=k3.cell;have B3:=B2.zt hB;by_cases hlt:i<m
   ·have d1:decide ((i:Int)<(m:Int))=true:=by simpa using hlt
    have Qm:K.getD i (0,0)∈K:=by rw [List.getD_eq_getElem?_getD,List.getElem?_eq_getElem (by have:=hm.out;omega)];exact List.getElem_mem _
    have hv:=hvH.out _ Qm;have hoi:=hout.out (K.getD i (0,0));obtain ⟨b,o,hA,hb,x0,x1⟩:=asb.out wr (r2.on hB) i hlt;have hKH:=ae Qm;generalize hx:K.getD i (0,0)=x at *;have Es:=ae hx;obtain ⟨xa,xb⟩:=x;simp only at hv hoi x0 x1;subst hA;have hwx:IntKind.i64.wrap (xa+xb)=xa+xb:=by rw [IntKind.wrap_i64];omega
    have e0:=λz:Ext wr=>z.cell x0
    have e1:=λz:Ext wr=>z.cell x1
    have e2:=λz:Ext wr=>(z.blk k3).cell
    clear hx Qm x0 x1;by_cases ho:xa<live
    ·have o1:=bU ho
     have CX:Hid (R=6):=ae (by rw [jZ.out,if_pos ⟨_,hKH.out,by rw [hoi,o1];rfl⟩]);clear hoi ho;exact akL
    ·have o1:=bV ho
     by_cases ho2:U<xa+xb
     ·have o2:=bU ho2
      have CX:Hid (R=6):=ae (by rw [jZ.out,if_pos ⟨_,hKH.out,by rw [hoi,o1,o2];rfl⟩]);clear hoi ho ho2;exact akL
     ·have o2:=bV ho2
      rw [o1,o2] at hoi;have hoH:=ae hoi;clear hoi ho ho2;go_upto_region 11 with fail
      clear c3;refine aD zk zk ?_
      repeat (go_big_quiet_step (fail))
      refine wpQuiet_nil ?_;rintro w4 ⟨⟨_,hw4⟩,rfl⟩;go_wp2_with fail;go_roundw
      case rel=>exact ⟨i+1,zo,by go_num,λk hk=>by
       rcases Nat.lt_or_eq_of_le (Nat.le_of_lt_succ hk) with h|h
       ·exact NU.out k h
       ·subst h;rw [Es.out,hoH.out];rfl,hB.zt hw4⟩
      case measure=>exact zm
   ·obtain rfl:i=m:=zo
    have d1:decide ((i:Int)<(i:Int))=false:=by simp
    have CX:Hid (R=0):=ae (by
     rw [jZ.out,if_neg];rintro ⟨x,hx,ho⟩;obtain ⟨k,hk,rfl⟩:=List.getElem_of_mem hx;have:=NU.out k (by have:=hm.out;omega);rw [List.getD_eq_getElem?_getD,List.getElem?_eq_getElem hk] at this;rw [Option.getD_some,ho] at this;cases this)
    clear jZ NU;go_wp2_with fail;go_ret;rw [CX.out];exact ⟨rfl,B3⟩
 ·have f3:m=0:=by
   have:¬(0:Int)<(m:Int):=by simpa using f2
   omega
  subst f3;have CX:Hid (R=0):=ae (by
   rw [jZ.out,if_neg];rintro ⟨x,hx,_⟩;rw [List.eq_nil_of_length_eq_zero hm.out] at hx;cases hx)
  clear jZ f2;go_enter func7,ntmps7
  go_wp2_with (first
   | (go_at_call 27;refine (HC.out _).mono ?_;rintro e w1 ⟨rfl,hb1⟩;have k1:=k0.call hb1;have c1:=k1.cell;have B1:=hb0.zt hb1;have r1:=hr0.on hb1)
   | (go_at_call 28;refine (lF A _ cap K w1 hm.out zo r1).mono ?_;rintro e w2 ⟨rfl,hb2⟩;have k2:=k1.call hb2;have c2:=k2.cell;have B2:=B1.zt hb2;have r2:=r1.on hb2))
  go_loopw [6] (λu wr=>u = zI 0/\Below w2.heap.size w2 wr) (λu _=>0)
  case atStart=>exact ⟨rfl,Below.refl _ _⟩
  case round =>
   obtain ⟨rfl,hB⟩:=hrel;have c3:=(k2.call hB).cell;have B3:=B2.zt hB;go_wp2_with fail;go_ret;rw [CX.out];exact ⟨rfl,B3⟩
theorem lq (cs:Array Value) (f:Nat->Bool) (w:World) (hm:bC cs f) :
  Calls prog 115 #[.agg cs] w λe w'=>∃(A:Option Addr) (cap:Nat),e= .returned (.slice A (ji f).length cap)/\KeptAt w' A (ji f)/\(ji f).length<=cap/\cap<=maxLen/\Below w.heap.size w w':=by
 obtain ⟨i0,hi,hz0,hz1,hz2⟩:=dW;have hb0:=aQ w (.cells cs 189);have kM:=af.new w 189 cs;have hcs:=ae hm.at_;have hcz:=hm.size;have hok:=ae (λp=>wE f p);have hA:Hid (ji f=fV f 1024):=ae rfl;obtain ⟨SA,Bj⟩:∃S,ji f=S:=⟨_,rfl⟩;rw [Bj];have acg:=ae Bj;clear Bj hm;go_enter func115,ntmps115;go_wp2_with fail
 go_loopw [3,4] (λv i wr=>∃k:Nat,k<=1024/\i = zI k/\wr.ownsRow (w.heap.size+1) 85 2 v (fV f k).length (ax (fV f k))/\af wr w.heap.size 189 cs/\Below w.heap.size w wr) (λ_ i _=>1024 - (intOf i).toNat)
 case atStart=>exact ⟨0,zo,rfl,World.ownsRow_nil _ _ _ _,kM,hb0⟩
 case round =>
  obtain ⟨k,hk,rfl,hrow,kW,hB⟩:=hrel;have sF:=hB.size;have hwl:=kW.lt;by_cases hlt:k<1024
  ·exact zT2
  ·obtain rfl:k=1024:=zo
   obtain ⟨A,cap,rfl,dR,h1,h2⟩:=KeptAt.own hrow rfl;have hE:Hid (SA=fV f 1024):=ae (by rw [<-acg.out];rfl);go_wp2_with fail;go_ret;rw [hE.out];exact ⟨A,cap,rfl,dR,h1,h2,hB⟩
theorem qy (r:Cr) (A:Option Addr) (cap:Nat) (w:World) (hk:RU w w.heap.size A r.kept) (hc:Go.Pol.Can r.kept) :
  Calls prog 108 #[.agg (aj r (.slice A r.kept.length cap))] w λe w'=>∃cs,e= .returned (.agg cs)/\bC cs (λk=>mem (k:Int) r.kept)/\Below w.heap.size w w':=by
 obtain ⟨s,hs⟩:=ah (w.heap.size);have hb0:=(aQ w (.cells (aj r (.slice A r.kept.length cap)) 28)).alloc zs (.cells zeroCells189 189);have k0:=(af.new w 28 (aj r (.slice A r.kept.length cap))).alloc (.cells zeroCells189 189);have kR:=af.new (w.alloc (.cells (aj r (.slice A r.kept.length cap)) 28)) 189 zeroCells189;rw [World.size_alloc,hs] at kR;have hlen:r.kept.length<=1025:=by
  have h:=CB r.kept (-1) 1024 (λx hx=>by have:=av.1 (hc.1 x hx);omega) hc.2 zo;omega
 have HM:=ae (λW h=>VA A r.kept.length cap r.kept W rfl zo h (λx hx=>hc.1 x hx));have hk0:=hk.on hb0;have hZ:=ik;obtain ⟨m,hm0⟩:=ah (r.kept.length);rw [hm0] at hb0 k0 kR hk0 HM ⊢;rw [hs] at hb0 k0;dsimp only [aj] at hb0 k0 kR hk0 ⊢;clear hk hc hm0 hlen;go_enter func108,ntmps108;go_upto_region 1 with fail
 try simp only [hs]
 generalize zeroCells189=Z at *;generalize (w.alloc _).alloc _=w0 at *;have c0:=k0.cell;have hzs:=hZ.size;go_wp2_with fail;refine (HM.out _ hk0).mono ?_;rintro e w1 ⟨cs,rfl,hMe,hb1⟩;have hsz:=hMe.size;have hone:=hMe.one;have aT:=kR.call hb1;have hth:=CJ aT;have B1:=hb0.trans (hb1.mono (by have:=hb0.size;omega))
 go_wp2_with (refine wpList_store_mid rfl 189 (.tmp 2) (.tmp 5) rfl (s+1) 0 cs rfl rfl (by rw [hsz,<-hzs];exact hth) (by rw [hsz];kernel_rfl) hone ?_)
 have hrg:=World.rangeAt_setCells_same w1 (s+1) 0 cs.toList (by rw [Array.length_toList,hsz,<-hzs];exact hth);have Rq:=below_setCells (s+1) zo cs.toList 0 w1 B1;generalize w1.setCells (s+1) 0 cs.toList=w9 at *;have hld:=run_loadVar_mid (P:=prog) w9 (s+1) 0 189 cs.toList _ hrg underlying189 rfl (by rw [Array.length_toList,hsz];kernel_rfl);exact aiw
theorem akN {P:Prop} (h:P:=by
 go_enter func37,ntmps37;go_wp2_with fail;refine (HK.out _ hr0.out).zr λw1 hb1=>?_
 obtain ⟨k1,aT⟩:=bY hb1 k0 kR;have B1:=hb0.zt hb1;have hr1:=hr0.out.on hb1;obtain ⟨c1,jw⟩:=bB k1 aT;have jy:=aT.frozen;clear HK k0 kR hb0 hr0 hb1;go_wp2_with fail;change bodyPost _ _ _ _ _ (aP w1 (w.heap.size+1) ⟨pg,n,f_,bk,ev,node,live,K,false⟩ (.slice A m cap));have aX:=aK aT ⟨pg,n,f_,bk,ev,node,live,K,false⟩ (.slice A m cap);have F9:=aL w1 (w.heap.size+1) ⟨pg,n,f_,bk,ev,node,live,K,false⟩ (.slice A m cap);have B9:=dG B1 (g:=(w.heap.size+1)) zo ⟨pg,n,f_,bk,ev,node,live,K,false⟩ (.slice A m cap);generalize aP w1 (w.heap.size+1) ⟨pg,n,f_,bk,ev,node,live,K,false⟩ (.slice A m cap)=w9 at *;dsimp only [aj] at aX;have di:=aX.cell;refine bodyPost_ret (v:=.tuple #[.agg (aj ⟨pg,n,f_,bk,ev,node,live,K,false⟩ (.slice A m cap)),zI 7]) (by simp [results,results37,go_sem,di,aj]) rfl ?_;exact ⟨_,rfl,⟨A,cap,by rw [hm.out],by rw [hm.out];exact hcap,hcm,kZ.out.call B9⟩,B9⟩):P:=h
theorem Qn (r:Cr) (tt:Int) (A:Option Addr) (cap:Nat) (w:World) (hcap:r.kept.length<=cap) (hcm:cap<=maxLen) (hk:KeptAt w A r.kept) :
  Calls prog 37 #[.agg (aj r (.slice A r.kept.length cap)),zI tt] w λe w'=>∃v,e= .returned (.tuple #[v,zI (iN r tt).2])/\Dc (iN r tt).1 w' v/\Below w.heap.size w w':=by
 have hr:=hk.ru;have HK:=ae (λW h=>iC r A cap W hcap hcm h);have hR:∃R,iN r tt=R:=⟨_,rfl⟩;obtain ⟨R,hR⟩:=hR;rw [hR];unfold iN at hR;have hz:=@fw r;have hZ:bq r=0->0<=r.live/\r.live<=1024/\eG r.kept=0:=λh=>⟨(hz.1 h).C9,Int.le_trans (hz.1 h).Ff (AZ (hz.1 h).plan),bI.2 (hz.1 h).can⟩
 clear hz;generalize bq r=ck at *;obtain ⟨pg,n,f_,bk,ev,node,live,K,cl⟩:=r;simp only at hcap hcm hr hk hR hZ HK ⊢;obtain ⟨m,hm0⟩:=ah (K.length);rw [hm0] at hcap HK ⊢;have hm:=ae hm0;have hb0:=below_alloc2 (aQ w (.cells (aj ⟨pg,n,f_,bk,ev,node,live,K,cl⟩ (.slice A m cap)) 28)) (.cells (aj bD zN) 28);have k0:=(af.new w 28 (aj ⟨pg,n,f_,bk,ev,node,live,K,cl⟩ (.slice A m cap))).dV (.cells (aj bD zN) 28);have kR:=af.oG w (.cells (aj ⟨pg,n,f_,bk,ev,node,live,K,cl⟩ (.slice A m cap)) 28) 28 (aj bD zN);have hr0:=ae (hr.on hb0);dsimp only [aj,bD] at k0 hb0 kR hr0 HK ⊢;have kZ:=ae hk;clear hm0 hr hk;by_cases h0:ck=0
 case neg =>
  have h0':=gJ h0;rw [if_pos h0] at hR;subst hR;clear h0;go_enter func37,ntmps37;go_wp2_with fail;refine (HK.out _ hr0.out).zr λw1 hb1=>?_
  obtain ⟨k1,aT⟩:=bY hb1 k0 kR;have B1:=hb0.zt hb1;have hr1:=hr0.out.on hb1;obtain ⟨c1,jw⟩:=bB k1 aT;have jy:=aT.frozen;clear HK k0 kR hb0 hr0 hb1;go_wp2_with fail;change bodyPost _ _ _ _ _ (aP w1 (w.heap.size+1) ⟨pg,n,f_,bk,ev,node,live,K,cl⟩ (.slice A m cap));have aX:=aK aT ⟨pg,n,f_,bk,ev,node,live,K,cl⟩ (.slice A m cap);have F9:=aL w1 (w.heap.size+1) ⟨pg,n,f_,bk,ev,node,live,K,cl⟩ (.slice A m cap);have B9:=dG B1 (g:=(w.heap.size+1)) zo ⟨pg,n,f_,bk,ev,node,live,K,cl⟩ (.slice A m cap);generalize aP w1 (w.heap.size+1) ⟨pg,n,f_,bk,ev,node,live,K,cl⟩ (.slice A m cap)=w9 at *;dsimp only [aj] at aX;have di:=aX.cell;refine bodyPost_ret (v:=.tuple #[.agg (aj ⟨pg,n,f_,bk,ev,node,live,K,cl⟩ (.slice A m cap)),zI ck]) (by simp [results,results37,go_sem,di,aj]) rfl ?_;exact PM
 subst h0;rw [if_neg zs] at hR;by_cases h1:cl=true
 case pos =>
  subst h1;rw [if_pos rfl] at hR;subst hR;go_enter func37,ntmps37;go_wp2_with fail;refine (HK.out _ hr0.out).zr λw1 hb1=>?_
  obtain ⟨k1,aT⟩:=bY hb1 k0 kR;have B1:=hb0.zt hb1;have hr1:=hr0.out.on hb1;obtain ⟨c1,jw⟩:=bB k1 aT;have jy:=aT.frozen;clear HK k0 kR hb0 hr0 hb1;go_wp2_with fail;change bodyPost _ _ _ _ _ (aP w1 (w.heap.size+1) ⟨pg,n,f_,bk,ev,node,live,K,true⟩ (.slice A m cap));have aX:=aK aT ⟨pg,n,f_,bk,ev,node,live,K,true⟩ (.slice A m cap);have F9:=aL w1 (w.heap.size+1) ⟨pg,n,f_,bk,ev,node,live,K,true⟩ (.slice A m cap);have B9:=dG B1 (g:=(w.heap.size+1)) zo ⟨pg,n,f_,bk,ev,node,live,K,true⟩ (.slice A m cap);generalize aP w1 (w.heap.size+1) ⟨pg,n,f_,bk,ev,node,live,K,true⟩ (.slice A m cap)=w9 at *;dsimp only [aj] at aX;have di:=aX.cell;refine bodyPost_ret (v:=.tuple #[.agg (aj ⟨pg,n,f_,bk,ev,node,live,K,true⟩ (.slice A m cap)),zI 9]) (by simp [results,results37,go_sem,di,aj]) rfl ?_;exact PM
 have h1':=QE h1;subst h1';rw [if_neg zs] at hR;by_cases h2:tt<0
 case pos =>
  have h2':=bU h2;rw [if_pos (.inl h2)] at hR;subst hR;clear h2;exact akN
 have h2':=bV h2;by_cases h3:live<tt
 case pos =>
  have h3':=bU h3;rw [if_pos (.inr h3)] at hR;subst hR;clear h2 h3;exact akN
 have h3':=bV h3;rw [if_neg zo] at hR;obtain ⟨z1,z2,z3⟩:=hZ rfl;have jC:=bI.1 z3;have Br:Go.Pol.Can (bJ tt live):=mF zo zo;have nV:=ae (λW h=>qy ⟨pg,n,f_,bk,ev,node,live,K,false⟩ A cap W h jC);simp only at nV;rw [hm.out] at nV;dsimp only [aj] at nV;have Bj:Hid (setOf (K++bJ tt live)=ji (dz (λk=>mem (k:Int) K) tt live true)):=ae (aft jC (mF zo zo));generalize setOf (K++bJ tt live)=SA at *;clear h1 h2 h3 hZ z3 jC;subst hR;go_enter func37,ntmps37;go_wp2_with fail;refine (HK.out _ hr0.out).zr λw1 hb1=>?_
 obtain ⟨k1,aT⟩:=bY hb1 k0 kR;have B1:=hb0.zt hb1;have hr1:=hr0.out.on hb1;obtain ⟨c1,jw⟩:=bB k1 aT;have jy:=aT.frozen;clear HK k0 kR hb0 hr0 hb1;go_wp2_with fail;refine (nV.out _ hr1).mono ?_;rintro e w2 ⟨cs,rfl,nE,hb2⟩;have hb3:=aQ w2 (.cells zeroCells189 189);have kH:=af.new w2 189 zeroCells189;have k2:=(k1.call hb2).call hb3;have cK:=(aT.call hb2).call hb3;have B3:=(B1.zt hb2).trans (hb3.mono (by have:=B1.size;have:=hb2.size;omega));have hZs:=ik.size;have hsz:=nE.size;have hone:=nE.one;obtain ⟨d,hd⟩:=ah (w2.heap.size);have hwd:w.heap.size+2<=d:=by have h1:=aT.lt;have h2:=hb2.size;omega
 rw [hd] at kH;clear hb3 k1 aT B1 c1 jw jy hr1 nV;go_upto_region 10 with (refine wpList_store_mid rfl 189 (.tmp 7) (.tmp 28) rfl d 0 cs rfl rfl (lN cs _ _ d hsz hZs kH).2.2 (by rw [hsz];kernel_rfl) hone ?_)
 obtain ⟨yh,F2,_⟩:=lN cs _ _ d hsz hZs kH;have k3:=F2.blk k2 zo;have fC:=F2.blk cK zo;have B4:=B3.trans (F2.below (by have:=B3.size;omega) (λk hk e=>by omega));generalize (w2.alloc _).setCells d 0 cs.toList=w4 at *;clear kH k2 cK B3 F2 hsz hone hZs;have h20:¬tt<0:=by simpa using h2'
 have h30:¬live<tt:=by simpa using h3'
 obtain ⟨t,rfl⟩:∃t:Nat,tt=t:=⟨tt.toNat,zo⟩;have htl:(t:Int)<=live:=zo;clear h20 h30;have hM0:bC cs (dz (λk=>mem (k:Int) K) t t true):=nE.congr (λk hk=>by unfold dz;rw [if_neg zo]);generalize (λk:Nat=>mem (k:Int) K)=f at *
 go_loopw [8] (λu wr=>∃(i:Nat) (cs:Array Value),u = zI i/\t<=i/\(i:Int)<=live/\af wr w.heap.size 28 #[zI pg,zI n,zI f_,zI bk,zI ev,zI node,zI live,.slice A m cap,.bool false]/\af wr (w.heap.size+1) 28 #[zI 0,zI 0,zI 0,zI 0,zI 0,zI 0,zI 0,zN,.bool false]/\af wr d 189 cs/\bC cs (dz f t i true)/\Below w.heap.size w wr) (λu _=>(live - intOf u).toNat)
 case atStart=>exact ⟨t,cs,rfl,zo,htl,k3,fC,yh,hM0,B4⟩
 case round =>
  clear hM0 nE k3 fC yh B4;obtain ⟨i,cs,rfl,hti,hil,k3,fC,kH,hM,B⟩:=hrel;have c3:=k3.cell;by_cases hlt:(i:Int)<live
  ·have d1:=bU hlt
   have hi:i<1024:=zo;have hold:=(kH.cell i).trans (hM.at_ i hi);have fH:=kH.frozen;have hM2:=ae (hM.set (g:=dz f t ((i+1:Nat):Int) true) i hi true (by rw [ko f t i true zo,if_pos rfl]) (λj hj=>by rw [ko f t i true zo,if_neg hj]));generalize dz f t i true i=b0 at hold;have F:ag (λk=>k=d) wr (wr.setCell ⟨d,i,none⟩ (.bool true)):=ag.setCell (T:=λk=>k=d) (p:=⟨d,i,none⟩) (ag.refl _ _) (λ_=>rfl) _;go_wp2_with fail;go_roundw
   case rel=>exact ⟨i+1,_,by go_num,zo,zo,F.blk k3 zo,F.blk fC zo,kH.aM i (.bool true),hM2.out,B.trans (F.below (by have:=B.size;omega) (λk hk e=>by omega))⟩
   case measure=>exact zm
  ·have d1:=bV hlt
   obtain rfl:(i:Int)=live:=zo;have hsz:=hM.size
   go_wp2_with (refine wpList_load_mid rfl 189 (.tmp 7) rfl d 0 rfl cs.toList _ (dZ kH) underlying189 rfl (by rw [Array.length_toList,hsz];kernel_rfl) ?_;rw [Array.toArray_toList])
   refine (lq cs _ wr hM).mono ?_;rintro e w5 ⟨A5,c5,rfl,hk5,hl5,hc5,hb5⟩;obtain ⟨k5,nA⟩:=bY hb5 k3 fC;have B5:=B.zt hb5;obtain ⟨c5x,cR5⟩:=bB k5 nA;obtain ⟨f5x,fR5⟩:=tu k5 nA;rw [<-Bj.out] at hk5 hl5 ⊢;clear k3 fC kH hM c3 B;have k5H:=ae k5;have ase:=ae nA;have oK:=(nA.far (p:=⟨w.heap.size,6,none⟩) (by show w.heap.size+1≠w.heap.size;omega) (zI t)).far (p:=⟨w.heap.size,7,none⟩) (by show w.heap.size+1≠w.heap.size;omega) (.slice A5 SA.length c5);have B6:=(B5.setCell (p:=⟨w.heap.size,6,none⟩) (Nat.le_refl _) (zI t)).setCell (p:=⟨w.heap.size,7,none⟩) (Nat.le_refl _) (.slice A5 SA.length c5);have F4:=((ag.refl (λk=>k=w.heap.size\/k=w.heap.size+1) w5).setCell (p:=⟨w.heap.size,6,none⟩) (λ_=>.inl rfl) (zI t)).setCell (p:=⟨w.heap.size,7,none⟩) (λ_=>.inl rfl) (.slice A5 SA.length c5);clear k5 nA B5;go_wp2_with fail;change bodyPost _ _ _ _ _ (aP ((w5.setCell ⟨w.heap.size,6,none⟩ (zI t)).setCell ⟨w.heap.size,7,none⟩ (.slice A5 SA.length c5)) (w.heap.size+1) ⟨pg,n,f_,bk,ev,node,t,SA,false⟩ (.slice A5 SA.length c5));have aX:=aK oK ⟨pg,n,f_,bk,ev,node,t,SA,false⟩ (.slice A5 SA.length c5);have F9:=aL ((w5.setCell ⟨w.heap.size,6,none⟩ (zI t)).setCell ⟨w.heap.size,7,none⟩ (.slice A5 SA.length c5)) (w.heap.size+1) ⟨pg,n,f_,bk,ev,node,t,SA,false⟩ (.slice A5 SA.length c5);have B9:=dG B6 (g:=(w.heap.size+1)) zo ⟨pg,n,f_,bk,ev,node,t,SA,false⟩ (.slice A5 SA.length c5);generalize aP ((w5.setCell ⟨w.heap.size,6,none⟩ (zI t)).setCell ⟨w.heap.size,7,none⟩ (.slice A5 SA.length c5)) (w.heap.size+1) ⟨pg,n,f_,bk,ev,node,t,SA,false⟩ (.slice A5 SA.length c5)=w9 at *;dsimp only [aj] at aX;have di:=aX.cell;refine bodyPost_ret (v:=.tuple #[.agg (aj ⟨pg,n,f_,bk,ev,node,t,SA,false⟩ (.slice A5 SA.length c5)),zI 0]) (by simp [results,results37,go_sem,di,aj]) rfl ?_;have F6:=F4.trans (F9.mono (λk _ hk=>.inr hk));exact ⟨_,rfl,⟨A5,c5,rfl,hl5,hc5,hk5.far F6 (λg cs hg=>by rintro (rfl|rfl);exact k5H.out.ne hg zd;exact ase.out.ne hg zd)⟩,B9⟩
theorem Ue {K:List Sp} (hK:Go.Pol.Can K) (k:Int):(jR K (k,1)=0/\(aZ K (k,1)).isEmpty=true)↔(0<=k/\k<1024/\mem k K=true):=by
 have ha:jR K (k,1)=0↔0<=k/\k<1024:=by
  unfold jR;rw [if_pos (bI.2 hK)];have hv:bF (k,1)=true↔0<=k/\k<1024:=by rw [av];simp only;omega
  by_cases h:bF (k,1)=true
  ·rw [if_pos h];exact ⟨λ_=>hv.1 h,λ_=>rfl⟩
  ·rw [if_neg h];exact ⟨λe=>absurd e zd,λe=>absurd (hv.2 e) h⟩
 constructor
 ·rintro ⟨h1,h2⟩
  have h3:=ha.1 h1;rw [I8 hK (av.2 (by simp only;omega))] at h2;exact ⟨h3.1,h3.2,h2⟩
 ·rintro ⟨h1,h2,h3⟩
  exact ⟨ha.2 ⟨h1,h2⟩,by rw [I8 hK (av.2 (by simp only;omega))];exact h3⟩
theorem afu {K:List Sp} (hK:Go.Pol.Can K) {k:Nat} (hk:k<1024):az K (aZ [((k:Int),1)] (0,1024))=ji (dz (λj=>mem (j:Int) K) k ((k+1:Nat):Int) false):=by
 have h1:Go.Pol.Can [((k:Int),1)]:=Can.one (av.2 (by simp only;omega));refine (qo hK h1).oO _ (λp hp=>?_);rw [uF hK h1];unfold dz;by_cases h:p=k
 ·subst h
  rw [if_pos zo];have:mem (p:Int) [((p:Int),1)]=true:=by rw [iY];simp only;omega
  rw [this];simp
 ·rw [if_neg zo]
  have:mem (p:Int) [((k:Int),1)]=false:=by rw [Bool.eq_false_iff,Ne,iY];simp only;omega
  rw [this];simp
theorem afv {P:Prop} (h:P:=by
 have T9:=Tq.fresh F6 hlt (λk hk=>by rcases hk with rfl|rfl <;> omega) (λk hk=>by rcases hk with rfl|rfl;exact ⟨_,_,kq,zd,zd⟩;exact ⟨_,_,Bw,zd,zd⟩);exact ⟨_,rfl,⟨Aq,cq,rfl,hlq,hcq,hkq.far F6 (λg cs hg=>by rintro (rfl|rfl);exact kq.ne hg zd;exact Bw.ne hg zd)⟩,T9⟩):P:=h
theorem Qo (B bs bb:Nat) (V:Vm) (L:List Nd) (r:Cr) (k:Int) (A:Option Addr) (cap:Nat) (w:World) (hV:bn w B bs V) (hB:ed w B bb L) (hO:bf L) (hnl:bq r=0->r.node.toNat<L.length) (hcap:r.kept.length<=cap) (hcm:cap<=maxLen) (hk:KeptAt w A r.kept) (h0:bq r=0) (hp:0<=k/\k<1024/\mem k r.kept=true) :
  Calls prog 38 #[zP bs,zP bb,.agg (aj r (.slice A r.kept.length cap)),zI k] w λe w'=>∃v,e= .returned (.tuple #[v,zI (bZ V L r k).2.1])/\Dc (bZ V L r k).1 w' v/\bO B bs bb (bZ V L r k).2.2.1 (bZ V L r k).2.2.2 w w':=by
 have hr:=hk.ru;have hlt:=hV.lt;have HK:=ae (λW h=>iC r A cap W hcap hcm h);have nV:=ae (λW h hc=>qy r A cap W h hc);obtain ⟨R,hR⟩:=ah (bZ V L r k);rw [hR];unfold bZ at hR;have hz:=@fw r;have hZ:bq r=0->0<=r.node/\bQ r.pg r.n r.f r.bk r.ev=0/\eG r.kept=0/\r.node.toNat<L.length:=λh=>⟨(hz.1 h).node.1,bR.2 (hz.1 h).plan,bI.2 (hz.1 h).can,hnl h⟩
 clear hz hnl;generalize bq r=ck at *;obtain ⟨pg,n,f,bk,ev,node,live,K,cl⟩:=r;simp only at hcap hcm hr hk hR hZ HK nV hp ⊢;obtain ⟨m,hm0⟩:=ah (K.length);rw [hm0] at hcap HK nV ⊢;have hm:=ae hm0;have hb0:=below_alloc2 (aQ w (.cells (aj ⟨pg,n,f,bk,ev,node,live,K,cl⟩ (.slice A m cap)) 28)) (.cells (aj bD zN) 28);have k0:=(af.new w 28 (aj ⟨pg,n,f,bk,ev,node,live,K,cl⟩ (.slice A m cap))).dV (.cells (aj bD zN) 28);have kR:=af.oG w (.cells (aj ⟨pg,n,f,bk,ev,node,live,K,cl⟩ (.slice A m cap)) 28) 28 (aj bD zN);have hr0:=ae (hr.on hb0);dsimp only [aj,bD] at k0 hb0 kR hr0 HK ⊢;have kZ:=ae hk;dsimp only [aj] at nV;clear hm0 hr hk;subst h0;rw [if_neg zs] at hR;obtain ⟨z1,z2,z3,z4⟩:=hZ rfl;have jC:=bI.1 z3;have hph:=Ue jC k;have Qp:=ae (λW h=>nV.out W h jC);rw [if_neg (Classical.not_not.2 (hph.2 hp))] at hR;clear nV hph z3 hZ;obtain ⟨p1,p2,d3⟩:=hp;obtain ⟨j,rfl⟩:∃j:Nat,k=j:=⟨k.toNat,zo⟩;have hj:j<1024:=zo;have d1:decide ((j:Int)<0)=false:=by simp
 have d2:decide (1024<=(j:Int))=false:=by simp;omega
 clear p1 p2;have HN:=ae (λW=>zX pg n f bk ev j W (lS (ay pg n f bk ev) j) (by rw [if_pos z2]));obtain ⟨pn,hpn⟩:=ah (lS (ay pg n f bk ev) j);rw [hpn] at HN hR;obtain ⟨pn,pe⟩:=pn;have HD:=ae (λW h=>um B bs pn 1 V W h);obtain ⟨J,hJ⟩:=ah (bK V pn 1 3 2 1);simp only [hJ] at hR;rw [hJ] at HD;obtain ⟨je,jV⟩:=J;clear hpn hJ;simp only at hR HD HN;rw [afu jC hj] at hR;have hBr:=ae hB;by_cases h3:je=0
 case neg =>
  have h3':=gJ h3;rw [if_pos h3] at hR;subst hR;clear h3 jC z2;go_enter func38,ntmps38;go_wp2_with fail;refine (HK.out _ hr0.out).zr λw1 hb1=>?_
  obtain ⟨k1,aT⟩:=bY hb1 k0 kR;have B1:=hb0.zt hb1;have hr1:=hr0.out.on hb1;obtain ⟨c1,jw⟩:=bB k1 aT;have jy:=aT.frozen;clear HK k0 kR hb0 hr0 hb1;go_wp2_with fail;refine (Qp.out _ hr1).mono ?_;rintro e w2 ⟨cs,rfl,nE,hb2⟩;have hb3:=aQ w2 (.cells zeroCells189 189);have kH:=af.new w2 189 zeroCells189;have k2:=(k1.call hb2).call hb3;have cK:=(aT.call hb2).call hb3;have B3:=(B1.zt hb2).trans (hb3.mono (by have:=B1.size;have:=hb2.size;omega));have hZs:=ik.size;have hsz:=nE.size;have hone:=nE.one;obtain ⟨d,hd⟩:=ah (w2.heap.size);have hwd:w.heap.size+2<=d:=by have h1:=aT.lt;have h2:=hb2.size;omega
  rw [hd] at kH;clear hb3 k1 aT B1 c1 jw jy hr1 Qp;go_upto_region 5 with (refine wpList_store_mid rfl 189 (.tmp 11) (.tmp 21) rfl d 0 cs rfl rfl (lN cs _ _ d hsz hZs kH).2.2 (by rw [hsz];kernel_rfl) hone ?_)
  obtain ⟨yh,F2,_⟩:=lN cs _ _ d hsz hZs kH;have k4:=F2.blk k2 zo;have dX:=F2.blk cK zo;have B4:=B3.trans (F2.below (by have:=B3.size;omega) (λk hk e=>by omega));generalize (w2.alloc _).setCells d 0 cs.toList=w4 at *;clear kH k2 cK B3 F2 hone hZs hb2;obtain ⟨c4,XO⟩:=bB k4 dX;have XP:=dX.frozen;have q4:=(yh.cell j).trans (nE.at_ j hj);rw [d3] at q4;go_wp2_with fail;refine (HN.out _).zr λw5 hb5=>?_
  obtain ⟨k5,nA,kH5⟩:=mY hb5 k4 dX yh;have B5:=B4.trans (hb5.mono (by have:=B4.size;omega));have c5:=k5.cell;clear k4 dX yh B4 c4 XO XP q4 hb5 HN;go_wp2_with fail;refine (HD.out _ (hV.call B5)).zr λw6 h6=>?_
  have S6:=bO.iX (hV.call B5) (hBr.out.call B5) h6;have T6:=(bO.below hV hBr.out B5).trans S6;have k6:=S6.blk (hV.call B5) k5 zd zd;have oK:=S6.blk (hV.call B5) nA zd zd;have Bz:=S6.blk (hV.call B5) kH5 zd zd;obtain ⟨c6,cR6⟩:=bB k6 oK;have fR6:=oK.frozen;clear k5 nA kH5 c5 h6;go_wp2_with fail;change bodyPost _ _ _ _ _ (aP w6 (w.heap.size+1) ⟨pg,n,f,bk,ev,node,live,K,cl⟩ (.slice A m cap));have aX:=aK oK ⟨pg,n,f,bk,ev,node,live,K,cl⟩ (.slice A m cap);have F9:=aL w6 (w.heap.size+1) ⟨pg,n,f,bk,ev,node,live,K,cl⟩ (.slice A m cap);generalize aP w6 (w.heap.size+1) ⟨pg,n,f,bk,ev,node,live,K,cl⟩ (.slice A m cap)=w9 at *;dsimp only [aj] at aX;have di:=aX.cell;refine bodyPost_ret (v:=.tuple #[.agg (aj ⟨pg,n,f,bk,ev,node,live,K,cl⟩ (.slice A m cap)),zI je]) (by simp [results,results38,go_sem,di,aj]) rfl ?_;have T9:=T6.fresh F9 hlt (λk hk=>by subst hk;omega) (λk hk=>by subst hk;exact ⟨_,_,oK,zd,zd⟩);exact Fp
 subst h3;rw [if_neg zs] at hR;obtain ⟨nn,rfl⟩:∃nn:Nat,node=nn:=⟨node.toNat,zo⟩;rw [Int.toNat_natCast] at hR z4;have HG:=ae (λW h=>Dm B bb nn 1 L W h hO z4);generalize jb L nn 1=G at *;generalize Bj:ji (dz (λi=>mem (i:Int) K) j ((j+1:Nat):Int) false)=SA at *;have afy:=ae Bj;clear Bj jC z2;subst hR;go_enter func38,ntmps38;go_wp2_with fail;refine (HK.out _ hr0.out).zr λw1 hb1=>?_
 obtain ⟨k1,aT⟩:=bY hb1 k0 kR;have B1:=hb0.zt hb1;have hr1:=hr0.out.on hb1;obtain ⟨c1,jw⟩:=bB k1 aT;have jy:=aT.frozen;clear HK k0 kR hb0 hr0 hb1;go_wp2_with fail;refine (Qp.out _ hr1).mono ?_;rintro e w2 ⟨cs,rfl,nE,hb2⟩;have hb3:=aQ w2 (.cells zeroCells189 189);have kH:=af.new w2 189 zeroCells189;have k2:=(k1.call hb2).call hb3;have cK:=(aT.call hb2).call hb3;have B3:=(B1.zt hb2).trans (hb3.mono (by have:=B1.size;have:=hb2.size;omega));have hZs:=ik.size;have hsz:=nE.size;have hone:=nE.one;obtain ⟨d,hd⟩:=ah (w2.heap.size);have hwd:w.heap.size+2<=d:=by have h1:=aT.lt;have h2:=hb2.size;omega
 rw [hd] at kH;clear hb3 k1 aT B1 c1 jw jy hr1 Qp;go_upto_region 5 with (refine wpList_store_mid rfl 189 (.tmp 11) (.tmp 21) rfl d 0 cs rfl rfl (lN cs _ _ d hsz hZs kH).2.2 (by rw [hsz];kernel_rfl) hone ?_)
 obtain ⟨yh,F2,_⟩:=lN cs _ _ d hsz hZs kH;have k4:=F2.blk k2 zo;have dX:=F2.blk cK zo;have B4:=B3.trans (F2.below (by have:=B3.size;omega) (λk hk e=>by omega));generalize (w2.alloc _).setCells d 0 cs.toList=w4 at *;clear kH k2 cK B3 F2 hone hZs hb2;obtain ⟨c4,XO⟩:=bB k4 dX;have XP:=dX.frozen;have q4:=(yh.cell j).trans (nE.at_ j hj);rw [d3] at q4;go_wp2_with fail;refine (HN.out _).zr λw5 hb5=>?_
 obtain ⟨k5,nA,kH5⟩:=mY hb5 k4 dX yh;have B5:=B4.trans (hb5.mono (by have:=B4.size;omega));have c5:=k5.cell;clear k4 dX yh B4 c4 XO XP q4 hb5 HN;go_wp2_with fail;refine (HD.out _ (hV.call B5)).zr λw6 h6=>?_
 have S6:=bO.iX (hV.call B5) (hBr.out.call B5) h6;have T6:=(bO.below hV hBr.out B5).trans S6;have k6:=S6.blk (hV.call B5) k5 zd zd;have oK:=S6.blk (hV.call B5) nA zd zd;have Bz:=S6.blk (hV.call B5) kH5 zd zd;obtain ⟨c6,cR6⟩:=bB k6 oK;have fR6:=oK.frozen;clear k5 nA kH5 c5 h6;go_wp2_with fail;refine (HG.out _ T6.eO).zr λw7 h7=>?_
 have S7:=bO.mU T6.sys h7;have T7:=T6.trans S7;have k7:=S7.blk T6.sys k6 zd zd;have Qq:=S7.blk T6.sys oK zd zd;have Uf:=S7.blk T6.sys Bz zd zd;have q7:=(Uf.cell j).trans (nE.at_ j hj);rw [d3] at q7;have fH7:=Uf.frozen;have hM2:=nE.set (g:=dz (λi=>mem (i:Int) K) j ((j+1:Nat):Int) false) j hj false (by unfold dz;rw [if_pos zo]) (λi hi=>by unfold dz;rw [if_neg zo]);have F8:ag (λk=>k=d) w7 (w7.setCell ⟨d,j,none⟩ (.bool false)):=ag.setCell (T:=λk=>k=d) (p:=⟨d,j,none⟩) (ag.refl _ _) (λ_=>rfl) _;have T8:=T7.fresh F8 hlt (λk hk=>by subst hk;omega) (λk hk=>by subst hk;exact ⟨_,_,Uf,zd,zd⟩);have k8:=F8.blk k7 zo;have Qr:=F8.blk Qq zo;have MR:=Uf.aM j (.bool false);obtain ⟨cs8,akO⟩:∃c,cs.setIfInBounds j (.bool false)=c:=⟨_,rfl⟩;rw [akO] at MR hM2;clear akO;obtain ⟨w8,hw8⟩:=ah (w7.setCell ⟨d,j,none⟩ (.bool false));rw [hw8] at T8 k8 Qr MR;have ash:=hM2.size;have pF:=lq _ _ w8 hM2;rw [afy.out] at pF;have c8:=k8.cell;have c7:=k7.cell;clear k6 oK Bz c6 cR6 fR6 h7 S7 S6 T6 T7 Qq Uf HG HD F8 k7
 go_wp2_with (refine wpList_load_mid rfl 189 (.tmp 11) rfl d 0 rfl cs8.toList _ (dZ MR) underlying189 rfl (by rw [Array.length_toList,ash];kernel_rfl) ?_;rw [Array.toArray_toList])
 refine pF.mono ?_;rintro e wq ⟨Aq,cq,rfl,hkq,hlq,hcq,hbq⟩;obtain ⟨kq,Bw⟩:=bY hbq k8 Qr;have Tq:=T8.aU hbq;obtain ⟨cqx,cRq⟩:=bB kq Bw;obtain ⟨fqx,fRq⟩:=tu kq Bw;clear k8 Qr MR T8 pF hM2;go_wp2_with fail;change bodyPost _ _ _ _ _ (aP (wq.setCell ⟨w.heap.size,7,none⟩ (.slice Aq SA.length cq)) (w.heap.size+1) ⟨pg,n,f,bk,ev,nn,live,SA,cl⟩ (.slice Aq SA.length cq));have aX:=aK (Bw.far (p:=⟨w.heap.size,7,none⟩) (by show w.heap.size+1≠w.heap.size;omega) (.slice Aq SA.length cq)) ⟨pg,n,f,bk,ev,nn,live,SA,cl⟩ (.slice Aq SA.length cq);have F9:=aL (wq.setCell ⟨w.heap.size,7,none⟩ (.slice Aq SA.length cq)) (w.heap.size+1) ⟨pg,n,f,bk,ev,nn,live,SA,cl⟩ (.slice Aq SA.length cq);generalize aP (wq.setCell ⟨w.heap.size,7,none⟩ (.slice Aq SA.length cq)) (w.heap.size+1) ⟨pg,n,f,bk,ev,nn,live,SA,cl⟩ (.slice Aq SA.length cq)=w9 at *;dsimp only [aj] at aX;have di:=aX.cell;refine bodyPost_ret (v:=.tuple #[.agg (aj ⟨pg,n,f,bk,ev,nn,live,SA,cl⟩ (.slice Aq SA.length cq)),zI 0]) (by simp [results,results38,go_sem,di,aj]) rfl ?_;have F6:=((ag.refl (λk=>k=w.heap.size\/k=w.heap.size+1) wq).setCell (p:=⟨w.heap.size,7,none⟩) (λ_=>.inl rfl) (.slice Aq SA.length cq)).trans (F9.mono (λk _ hk=>.inr hk));exact afv
theorem zT6 {P:Prop} (h:P:=by
 go_enter func38,ntmps38;go_wp2_with fail;refine (HK.out _ hr0.out).zr λw1 hb1=>?_
 obtain ⟨k1,aT⟩:=bY hb1 k0 kR;have B1:=hb0.zt hb1;have hr1:=hr0.out.on hb1;obtain ⟨c1,jw⟩:=bB k1 aT;have jy:=aT.frozen;clear HK k0 kR hb0 hr0 hb1;go_wp2_with fail;refine (Qp.out _ hr1).mono ?_;rintro e w2 ⟨cs,rfl,nE,hb2⟩;have hb3:=aQ w2 (.cells zeroCells189 189);have kH:=af.new w2 189 zeroCells189;have k2:=(k1.call hb2).call hb3;have cK:=(aT.call hb2).call hb3;have B3:=(B1.zt hb2).trans (hb3.mono (by have:=B1.size;have:=hb2.size;omega));have hZs:=ik.size;have hsz:=nE.size;have hone:=nE.one;obtain ⟨d,hd⟩:=ah (w2.heap.size);have hwd:w.heap.size+2<=d:=by have h1:=aT.lt;have h2:=hb2.size;omega
 rw [hd] at kH;clear hb3 k1 aT B1 c1 jw jy hr1 Qp;go_upto_region 5 with (refine wpList_store_mid rfl 189 (.tmp 11) (.tmp 21) rfl d 0 cs rfl rfl (lN cs _ _ d hsz hZs kH).2.2 (by rw [hsz];kernel_rfl) hone ?_)
 obtain ⟨yh,F2,_⟩:=lN cs _ _ d hsz hZs kH;have k4:=F2.blk k2 zo;have dX:=F2.blk cK zo;have B4:=B3.trans (F2.below (by have:=B3.size;omega) (λk hk e=>by omega));generalize (w2.alloc _).setCells d 0 cs.toList=w4 at *;clear kH k2 cK B3 F2 hone hZs hb2;obtain ⟨c4,XO⟩:=bB k4 dX;have XP:=dX.frozen;go_wp2_with fail;change bodyPost _ _ _ _ _ (aP w4 (w.heap.size+1) ⟨pg,n,f,bk,ev,node,live,K,cl⟩ (.slice A m cap));have aX:=aK dX ⟨pg,n,f,bk,ev,node,live,K,cl⟩ (.slice A m cap);have F9:=aL w4 (w.heap.size+1) ⟨pg,n,f,bk,ev,node,live,K,cl⟩ (.slice A m cap);have B9:=dG B4 (g:=(w.heap.size+1)) zo ⟨pg,n,f,bk,ev,node,live,K,cl⟩ (.slice A m cap);generalize aP w4 (w.heap.size+1) ⟨pg,n,f,bk,ev,node,live,K,cl⟩ (.slice A m cap)=w9 at *;dsimp only [aj] at aX;have di:=aX.cell;refine bodyPost_ret (v:=.tuple #[.agg (aj ⟨pg,n,f,bk,ev,node,live,K,cl⟩ (.slice A m cap)),zI 4]) (by simp [results,results38,go_sem,di,aj]) rfl ?_;exact ⟨_,rfl,⟨A,cap,by rw [hm.out],by rw [hm.out];exact hcap,hcm,kZ.out.call B9⟩,.below hV hB B9⟩):P:=h
theorem Ug (B bs bb:Nat) (V:Vm) (L:List Nd) (r:Cr) (k:Int) (A:Option Addr) (cap:Nat) (w:World) (hV:bn w B bs V) (hB:ed w B bb L) (hO:bf L) (hnl:bq r=0->r.node.toNat<L.length) (hcap:r.kept.length<=cap) (hcm:cap<=maxLen) (hk:KeptAt w A r.kept) :
  Calls prog 38 #[zP bs,zP bb,.agg (aj r (.slice A r.kept.length cap)),zI k] w λe w'=>∃v,e= .returned (.tuple #[v,zI (bZ V L r k).2.1])/\Dc (bZ V L r k).1 w' v/\bO B bs bb (bZ V L r k).2.2.1 (bZ V L r k).2.2.2 w w':=by
 by_cases hY:bq r=0/\(0<=k/\k<1024/\mem k r.kept=true)
 ·exact Qo B bs bb V L r k A cap w hV hB hO hnl hcap hcm hk hY.1 hY.2
 have hr:=hk.ru;have hlt:=hV.lt;have HK:=ae (λW h=>iC r A cap W hcap hcm h);have nV:=ae (λW h hc=>qy r A cap W h hc);obtain ⟨R,hR⟩:=ah (bZ V L r k);rw [hR];unfold bZ at hR;have hz:=@fw r;have hZ:bq r=0->0<=r.node/\bQ r.pg r.n r.f r.bk r.ev=0/\eG r.kept=0/\r.node.toNat<L.length:=λh=>⟨(hz.1 h).node.1,bR.2 (hz.1 h).plan,bI.2 (hz.1 h).can,hnl h⟩
 clear hz hnl;generalize bq r=ck at *;obtain ⟨pg,n,f,bk,ev,node,live,K,cl⟩:=r;simp only at hcap hcm hr hk hR hZ HK nV hY ⊢;obtain ⟨m,hm0⟩:=ah (K.length);rw [hm0] at hcap HK nV ⊢;have hm:=ae hm0;have hb0:=below_alloc2 (aQ w (.cells (aj ⟨pg,n,f,bk,ev,node,live,K,cl⟩ (.slice A m cap)) 28)) (.cells (aj bD zN) 28);have k0:=(af.new w 28 (aj ⟨pg,n,f,bk,ev,node,live,K,cl⟩ (.slice A m cap))).dV (.cells (aj bD zN) 28);have kR:=af.oG w (.cells (aj ⟨pg,n,f,bk,ev,node,live,K,cl⟩ (.slice A m cap)) 28) 28 (aj bD zN);have hr0:=ae (hr.on hb0);dsimp only [aj,bD] at k0 hb0 kR hr0 HK ⊢;have kZ:=ae hk;dsimp only [aj] at nV;clear hm0 hr hk;by_cases h0:ck=0
 case neg =>
  have h0':=gJ h0;rw [if_pos h0] at hR;subst hR;clear h0 hZ;go_enter func38,ntmps38;go_wp2_with fail;refine (HK.out _ hr0.out).zr λw1 hb1=>?_
  obtain ⟨k1,aT⟩:=bY hb1 k0 kR;have B1:=hb0.zt hb1;have hr1:=hr0.out.on hb1;obtain ⟨c1,jw⟩:=bB k1 aT;have jy:=aT.frozen;clear HK k0 kR hb0 hr0 hb1;go_wp2_with fail;change bodyPost _ _ _ _ _ (aP w1 (w.heap.size+1) ⟨pg,n,f,bk,ev,node,live,K,cl⟩ (.slice A m cap));have aX:=aK aT ⟨pg,n,f,bk,ev,node,live,K,cl⟩ (.slice A m cap);have F9:=aL w1 (w.heap.size+1) ⟨pg,n,f,bk,ev,node,live,K,cl⟩ (.slice A m cap);have B9:=dG B1 (g:=(w.heap.size+1)) zo ⟨pg,n,f,bk,ev,node,live,K,cl⟩ (.slice A m cap);generalize aP w1 (w.heap.size+1) ⟨pg,n,f,bk,ev,node,live,K,cl⟩ (.slice A m cap)=w9 at *;dsimp only [aj] at aX;have di:=aX.cell;refine bodyPost_ret (v:=.tuple #[.agg (aj ⟨pg,n,f,bk,ev,node,live,K,cl⟩ (.slice A m cap)),zI ck]) (by simp [results,results38,go_sem,di,aj]) rfl ?_;exact Fj
 subst h0;rw [if_neg zs] at hR;obtain ⟨z1,z2,z3,z4⟩:=hZ rfl;have jC:=bI.1 z3;have hph:=Ue jC k;have Qp:=ae (λW h=>nV.out W h jC);have hp:¬(0<=k/\k<1024/\mem k K=true):=λe=>hY ⟨rfl,e⟩
 clear hY;rw [if_pos (λe=>hp (hph.1 e))] at hR;subst hR;clear nV hph z3 hZ;by_cases p1:k<0
 ·have d1:=bU p1
  clear hp p1;exact zT6
 have d1:=bV p1;by_cases p2:1024<=k
 ·have d2:=bU p2
  clear hp p1 p2;exact zT6
 have d2:=bV p2;have d3:mem k K=false:=by
  rw [Bool.eq_false_iff];exact λe=>hp ⟨zo,zo,e⟩
 obtain ⟨j,rfl⟩:∃j:Nat,k=j:=⟨k.toNat,zo⟩;have hj:j<1024:=zo;clear hp p1 p2;go_enter func38,ntmps38;go_wp2_with fail;refine (HK.out _ hr0.out).zr λw1 hb1=>?_
 obtain ⟨k1,aT⟩:=bY hb1 k0 kR;have B1:=hb0.zt hb1;have hr1:=hr0.out.on hb1;obtain ⟨c1,jw⟩:=bB k1 aT;have jy:=aT.frozen;clear HK k0 kR hb0 hr0 hb1;go_wp2_with fail;refine (Qp.out _ hr1).mono ?_;rintro e w2 ⟨cs,rfl,nE,hb2⟩;have hb3:=aQ w2 (.cells zeroCells189 189);have kH:=af.new w2 189 zeroCells189;have k2:=(k1.call hb2).call hb3;have cK:=(aT.call hb2).call hb3;have B3:=(B1.zt hb2).trans (hb3.mono (by have:=B1.size;have:=hb2.size;omega));have hZs:=ik.size;have hsz:=nE.size;have hone:=nE.one;obtain ⟨d,hd⟩:=ah (w2.heap.size);have hwd:w.heap.size+2<=d:=by have h1:=aT.lt;have h2:=hb2.size;omega
 rw [hd] at kH;clear hb3 k1 aT B1 c1 jw jy hr1 Qp;go_upto_region 5 with (refine wpList_store_mid rfl 189 (.tmp 11) (.tmp 21) rfl d 0 cs rfl rfl (lN cs _ _ d hsz hZs kH).2.2 (by rw [hsz];kernel_rfl) hone ?_)
 obtain ⟨yh,F2,_⟩:=lN cs _ _ d hsz hZs kH;have k4:=F2.blk k2 zo;have dX:=F2.blk cK zo;have B4:=B3.trans (F2.below (by have:=B3.size;omega) (λk hk e=>by omega));generalize (w2.alloc _).setCells d 0 cs.toList=w4 at *;clear kH k2 cK B3 F2 hone hZs hb2;obtain ⟨c4,XO⟩:=bB k4 dX;have XP:=dX.frozen;have q4:=(yh.cell j).trans (nE.at_ j hj);rw [d3] at q4;go_wp2_with fail;change bodyPost _ _ _ _ _ (aP w4 (w.heap.size+1) ⟨pg,n,f,bk,ev,node,live,K,cl⟩ (.slice A m cap));have aX:=aK dX ⟨pg,n,f,bk,ev,node,live,K,cl⟩ (.slice A m cap);have F9:=aL w4 (w.heap.size+1) ⟨pg,n,f,bk,ev,node,live,K,cl⟩ (.slice A m cap);have B9:=dG B4 (g:=(w.heap.size+1)) zo ⟨pg,n,f,bk,ev,node,live,K,cl⟩ (.slice A m cap);generalize aP w4 (w.heap.size+1) ⟨pg,n,f,bk,ev,node,live,K,cl⟩ (.slice A m cap)=w9 at *;dsimp only [aj] at aX;have di:=aX.cell;refine bodyPost_ret (v:=.tuple #[.agg (aj ⟨pg,n,f,bk,ev,node,live,K,cl⟩ (.slice A m cap)),zI 4]) (by simp [results,results38,go_sem,di,aj]) rfl ?_;exact Fj
theorem akP {P:Prop} (h:P:=by
 go_enter func33,ntmps33;go_wp2_with fail;refine (HK.out _).zr λw1 hb1=>?_
 obtain ⟨k1,aT⟩:=bY hb1 k0 kR;have B1:=hb0.zt hb1;obtain ⟨c1,jw⟩:=bB k1 aT;have jy:=aT.frozen;clear k0 kR hb0 hb1 HK;go_wp2_with fail;change bodyPost _ _ _ _ _ (aP w1 (w.heap.size+1) bD zN);have aX:=aK aT bD zN;have F9:=aL w1 (w.heap.size+1) bD zN;generalize aP w1 (w.heap.size+1) bD zN=w9 at *;dsimp only [aj] at aX;have di:=aX.cell;refine bodyPost_ret (v:=.tuple #[.agg (aj bD zN),zI 7]) (by simp [results,results33,go_sem,di,aj]) rfl ?_;exact ⟨_,rfl,⟨none,0,rfl,Nat.le_refl _,by unfold maxLen;omega,KeptAt.none _ _⟩,(eF.below hV B1).fresh F9 hlt (λk hk=>by subst hk;omega)⟩):P:=h
theorem afz {P:Prop} (h:P:=by
 exact ⟨_,rfl,⟨none,0,rfl,Nat.le_refl _,by unfold maxLen;omega,KeptAt.none _ _⟩,T3.fresh F9 hlt (λk hk=>by subst hk;omega)⟩):P:=h
theorem afA {P:Prop} (h:P:=by
 exact ⟨_,rfl,⟨none,0,rfl,Nat.le_refl _,by unfold maxLen;omega,KeptAt.none _ _⟩,T4.fresh F9 hlt (λk hk=>by subst hk;omega)⟩):P:=h
theorem Qs (B bs:Nat) (V:Vm) (pg n f bk ev node:Int) (w:World) (hV:bn w B bs V) :
  Calls prog 33 #[zP bs,ek pg n f bk ev,zI node] w λe w'=>∃v,e= .returned (.tuple #[v,zI (lg V pg n f bk ev node).2.1])/\Dc (lg V pg n f bk ev node).1 w' v/\eF B bs (lg V pg n f bk ev node).2.2 w w':=by
 have hlt:=hV.lt;have HK:=ae (λW=>oU pg n f bk ev W);obtain ⟨R,hR⟩:=ah (lg V pg n f bk ev node);rw [hR];unfold lg at hR;simp only at hR;rw [Uh] at hR;have hb0:=below_alloc2 (aQ w (.cells (bg pg n f bk ev) 25)) (.cells (aj bD zN) 28);have k0:=(af.new w 25 (bg pg n f bk ev)).dV (.cells (aj bD zN) 28);have kR:=af.oG w (.cells (bg pg n f bk ev) 25) 28 (aj bD zN);dsimp only [aj,bD,bg] at k0 hb0 kR ⊢;unfold ek at HK ⊢;generalize hck:bQ pg n f bk ev=ck at *;obtain ⟨cc,hcc⟩:=ah ((if ck≠0 then ck else if node<0\/64<=node then (7:Int) else 0));rw [hcc] at hR;by_cases h0:ck=0
 case neg =>
  have h0':=gJ h0;have axA:=lV h0;rw [if_pos h0] at hcc;subst hcc;rw [if_pos h0] at hR;subst hR;clear h0 hck;go_enter func33,ntmps33;go_wp2_with fail;refine (HK.out _).zr λw1 hb1=>?_
  obtain ⟨k1,aT⟩:=bY hb1 k0 kR;have B1:=hb0.zt hb1;obtain ⟨c1,jw⟩:=bB k1 aT;have jy:=aT.frozen;clear k0 kR hb0 hb1 HK;go_wp2_with fail;change bodyPost _ _ _ _ _ (aP w1 (w.heap.size+1) bD zN);have aX:=aK aT bD zN;have F9:=aL w1 (w.heap.size+1) bD zN;generalize aP w1 (w.heap.size+1) bD zN=w9 at *;dsimp only [aj] at aX;have di:=aX.cell;refine bodyPost_ret (v:=.tuple #[.agg (aj bD zN),zI ck]) (by simp [results,results33,go_sem,di,aj]) rfl ?_;exact ⟨_,rfl,⟨none,0,rfl,Nat.le_refl _,by unfold maxLen;omega,KeptAt.none _ _⟩,(eF.below hV B1).fresh F9 hlt (λk hk=>by subst hk;omega)⟩
 subst h0;rw [if_neg zs] at hcc;by_cases a1:node<0
 ·have d1:=bU a1
  rw [if_pos (.inl a1)] at hcc;subst hcc;rw [if_pos zd] at hR;subst hR;clear a1 hck;exact akP
 have d1:=bV a1;by_cases a2:64<=node
 ·have d2:=bU a2
  rw [if_pos (.inr a2)] at hcc;subst hcc;rw [if_pos zd] at hR;subst hR;clear a1 a2 hck;exact akP
 have d2:=bV a2;rw [if_neg zo] at hcc;subst hcc;rw [if_neg zs] at hR;clear a1 a2;have HV:=ae (λW h=>Mq B bs pg n V W h);obtain ⟨J,hJ⟩:=ah (bK V pg n 0 0 1);rw [hJ] at hR HV;obtain ⟨je,jV⟩:=J;simp only at hR HV;clear hJ;by_cases h1:je=0
 case neg =>
  have h1':=gJ h1;have axB:=lV h1;rw [if_pos h1] at hR;subst hR;clear h1;go_enter func33,ntmps33;go_wp2_with fail;refine (HK.out _).zr λw1 hb1=>?_
  obtain ⟨k1,aT⟩:=bY hb1 k0 kR;have B1:=hb0.zt hb1;obtain ⟨c1,jw⟩:=bB k1 aT;have jy:=aT.frozen;clear k0 kR hb0 hb1 HK;go_wp2_with fail;refine (HV.out _ (hV.call B1)).zr λw2 sQ=>?_
  have T2:=(eF.below hV B1).trans sQ;have k2:=sQ.blk (hV.call B1) k1 zd;have cK:=sQ.blk (hV.call B1) aT zd;obtain ⟨c2,sM⟩:=bB k2 cK;have sN:=cK.frozen;clear k1 aT c1 jw jy sQ HV;go_wp2_with fail;change bodyPost _ _ _ _ _ (aP w2 (w.heap.size+1) bD zN);have aX:=aK cK bD zN;have F9:=aL w2 (w.heap.size+1) bD zN;generalize aP w2 (w.heap.size+1) bD zN=w9 at *;dsimp only [aj] at aX;have di:=aX.cell;refine bodyPost_ret (v:=.tuple #[.agg (aj bD zN),zI je]) (by simp [results,results33,go_sem,di,aj]) rfl ?_;exact ⟨_,rfl,⟨none,0,rfl,Nat.le_refl _,by unfold maxLen;omega,KeptAt.none _ _⟩,T2.fresh F9 hlt (λk hk=>by subst hk;omega)⟩
 subst h1;rw [if_neg zs] at hR;have HP:=ae (λW h=>MB B bs pg n f bk ev jV W h (D8 _ _ _ _ _));obtain ⟨Q,hQ⟩:=ah (jL jV 0 (eY pg n f bk ev));rw [hck,hQ] at HP;rw [hQ] at hR;obtain ⟨sl,pe,pV⟩:=Q;unfold Sz at HP;simp only at hR HP;clear hQ hck;by_cases h2:pe=0
 case pos =>
  subst h2;rw [if_pos rfl] at hR;subst hR;go_enter func33,ntmps33;go_wp2_with fail;refine (HK.out _).zr λw1 hb1=>?_
  obtain ⟨k1,aT⟩:=bY hb1 k0 kR;have B1:=hb0.zt hb1;obtain ⟨c1,jw⟩:=bB k1 aT;have jy:=aT.frozen;clear k0 kR hb0 hb1 HK;go_wp2_with fail;refine (HV.out _ (hV.call B1)).zr λw2 sQ=>?_
  have T2:=(eF.below hV B1).trans sQ;have k2:=sQ.blk (hV.call B1) k1 zd;have cK:=sQ.blk (hV.call B1) aT zd;obtain ⟨c2,sM⟩:=bB k2 cK;have sN:=cK.frozen;clear k1 aT c1 jw jy sQ HV;go_wp2_with fail;refine (HP.out _ T2.1).mono ?_;rintro e w3 ⟨A3,c3,rfl,_,_,_,K4,K5⟩;have S3:eF B bs pV w2 w3:=⟨K4,K5⟩;have T3:=T2.trans S3;have k3:=S3.blk T2.1 k2 zd;have fC:=S3.blk T2.1 cK zd;obtain ⟨c3',H9⟩:=bB k3 fC;have Ia:=fC.frozen;clear k2 cK c2 sM sN K4 K5 S3 HP T2 B1;go_wp2_with fail;change bodyPost _ _ _ _ _ (aP w3 (w.heap.size+1) ⟨pg,n,f,bk,ev,node,0,[],false⟩ zN);have aX:=aK fC ⟨pg,n,f,bk,ev,node,0,[],false⟩ zN;have F9:=aL w3 (w.heap.size+1) ⟨pg,n,f,bk,ev,node,0,[],false⟩ zN;generalize aP w3 (w.heap.size+1) ⟨pg,n,f,bk,ev,node,0,[],false⟩ zN=w9 at *;dsimp only [aj] at aX;have di:=aX.cell;refine bodyPost_ret (v:=.tuple #[.agg (aj ⟨pg,n,f,bk,ev,node,0,[],false⟩ zN),zI 0]) (by simp [results,results33,go_sem,di,aj]) rfl ?_;exact afz
 have h2':=lV h2;rw [if_neg h2] at hR;obtain ⟨sn,hsn⟩:=ah (sl.length);rw [hsn] at hR HP;by_cases h3:sn=0
 case neg =>
  have h3':((sn:Int)==0)=false:=by simpa using h3
  rw [if_neg h3] at hR;subst hR;clear h2 h3;go_enter func33,ntmps33;go_wp2_with fail;refine (HK.out _).zr λw1 hb1=>?_
  obtain ⟨k1,aT⟩:=bY hb1 k0 kR;have B1:=hb0.zt hb1;obtain ⟨c1,jw⟩:=bB k1 aT;have jy:=aT.frozen;clear k0 kR hb0 hb1 HK;go_wp2_with fail;refine (HV.out _ (hV.call B1)).zr λw2 sQ=>?_
  have T2:=(eF.below hV B1).trans sQ;have k2:=sQ.blk (hV.call B1) k1 zd;have cK:=sQ.blk (hV.call B1) aT zd;obtain ⟨c2,sM⟩:=bB k2 cK;have sN:=cK.frozen;clear k1 aT c1 jw jy sQ HV;go_wp2_with fail;refine (HP.out _ T2.1).mono ?_;rintro e w3 ⟨A3,c3,rfl,_,_,_,K4,K5⟩;have S3:eF B bs pV w2 w3:=⟨K4,K5⟩;have T3:=T2.trans S3;have k3:=S3.blk T2.1 k2 zd;have fC:=S3.blk T2.1 cK zd;obtain ⟨c3',H9⟩:=bB k3 fC;have Ia:=fC.frozen;clear k2 cK c2 sM sN K4 K5 S3 HP T2 B1;go_wp2_with fail;change bodyPost _ _ _ _ _ (aP w3 (w.heap.size+1) ⟨pg,n,f,bk,ev,node,0,[],true⟩ zN);have aX:=aK fC ⟨pg,n,f,bk,ev,node,0,[],true⟩ zN;have F9:=aL w3 (w.heap.size+1) ⟨pg,n,f,bk,ev,node,0,[],true⟩ zN;generalize aP w3 (w.heap.size+1) ⟨pg,n,f,bk,ev,node,0,[],true⟩ zN=w9 at *;dsimp only [aj] at aX;have di:=aX.cell;refine bodyPost_ret (v:=.tuple #[.agg (aj ⟨pg,n,f,bk,ev,node,0,[],true⟩ zN),zI pe]) (by simp [results,results33,go_sem,di,aj]) rfl ?_;exact afz
 subst h3;rw [if_pos rfl] at hR;have HE:=ae (λW h=>BQ B bs pg n pV W h);obtain ⟨E,hE⟩:=ah (bK pV pg n 1 1 0);rw [hE] at hR HE;obtain ⟨ee,eV⟩:=E;simp only at hR HE;clear hE;by_cases h4:ee=0
 case pos =>
  subst h4;rw [if_pos rfl] at hR;subst hR;clear h2;go_enter func33,ntmps33;go_wp2_with fail;refine (HK.out _).zr λw1 hb1=>?_
  obtain ⟨k1,aT⟩:=bY hb1 k0 kR;have B1:=hb0.zt hb1;obtain ⟨c1,jw⟩:=bB k1 aT;have jy:=aT.frozen;clear k0 kR hb0 hb1 HK;go_wp2_with fail;refine (HV.out _ (hV.call B1)).zr λw2 sQ=>?_
  have T2:=(eF.below hV B1).trans sQ;have k2:=sQ.blk (hV.call B1) k1 zd;have cK:=sQ.blk (hV.call B1) aT zd;obtain ⟨c2,sM⟩:=bB k2 cK;have sN:=cK.frozen;clear k1 aT c1 jw jy sQ HV;go_wp2_with fail;refine (HP.out _ T2.1).mono ?_;rintro e w3 ⟨A3,c3,rfl,_,_,_,K4,K5⟩;have S3:eF B bs pV w2 w3:=⟨K4,K5⟩;have T3:=T2.trans S3;have k3:=S3.blk T2.1 k2 zd;have fC:=S3.blk T2.1 cK zd;obtain ⟨c3',H9⟩:=bB k3 fC;have Ia:=fC.frozen;clear k2 cK c2 sM sN K4 K5 S3 HP T2 B1;go_wp2_with fail;refine (HE.out _ T3.1).zr λw4 qY=>?_
  have T4:=T3.trans qY;have dX:=qY.blk T3.1 fC zd;have ME:=dX.cell;have MF:=dX.frozen;go_wp2_with fail;change bodyPost _ _ _ _ _ (aP w4 (w.heap.size+1) bD zN);have aX:=aK dX bD zN;have F9:=aL w4 (w.heap.size+1) bD zN;generalize aP w4 (w.heap.size+1) bD zN=w9 at *;dsimp only [aj] at aX;have di:=aX.cell;refine bodyPost_ret (v:=.tuple #[.agg (aj bD zN),zI pe]) (by simp [results,results33,go_sem,di,aj]) rfl ?_;exact afA
 have h4':=lV h4;rw [if_neg h4] at hR;subst hR;clear h2 h4;go_enter func33,ntmps33;go_wp2_with fail;refine (HK.out _).zr λw1 hb1=>?_
 obtain ⟨k1,aT⟩:=bY hb1 k0 kR;have B1:=hb0.zt hb1;obtain ⟨c1,jw⟩:=bB k1 aT;have jy:=aT.frozen;clear k0 kR hb0 hb1 HK;go_wp2_with fail;refine (HV.out _ (hV.call B1)).zr λw2 sQ=>?_
 have T2:=(eF.below hV B1).trans sQ;have k2:=sQ.blk (hV.call B1) k1 zd;have cK:=sQ.blk (hV.call B1) aT zd;obtain ⟨c2,sM⟩:=bB k2 cK;have sN:=cK.frozen;clear k1 aT c1 jw jy sQ HV;go_wp2_with fail;refine (HP.out _ T2.1).mono ?_;rintro e w3 ⟨A3,c3,rfl,_,_,_,K4,K5⟩;have S3:eF B bs pV w2 w3:=⟨K4,K5⟩;have T3:=T2.trans S3;have k3:=S3.blk T2.1 k2 zd;have fC:=S3.blk T2.1 cK zd;obtain ⟨c3',H9⟩:=bB k3 fC;have Ia:=fC.frozen;clear k2 cK c2 sM sN K4 K5 S3 HP T2 B1;go_wp2_with fail;refine (HE.out _ T3.1).zr λw4 qY=>?_
 have T4:=T3.trans qY;have dX:=qY.blk T3.1 fC zd;have k4:=qY.blk T3.1 k3 zd;obtain ⟨c4,ME⟩:=bB k4 dX;have MF:=dX.frozen;go_wp2_with fail;change bodyPost _ _ _ _ _ (aP w4 (w.heap.size+1) ⟨pg,n,f,bk,ev,node,0,[],true⟩ zN);have aX:=aK dX ⟨pg,n,f,bk,ev,node,0,[],true⟩ zN;have F9:=aL w4 (w.heap.size+1) ⟨pg,n,f,bk,ev,node,0,[],true⟩ zN;generalize aP w4 (w.heap.size+1) ⟨pg,n,f,bk,ev,node,0,[],true⟩ zN=w9 at *;dsimp only [aj] at aX;have di:=aX.cell;refine bodyPost_ret (v:=.tuple #[.agg (aj ⟨pg,n,f,bk,ev,node,0,[],true⟩ zN),zI pe]) (by simp [results,results33,go_sem,di,aj]) rfl ?_;exact afA
theorem K6 (r:Cr) (v:Value) (cs:Array Value) (f:Nat->Bool) (w:World) (hM:bC cs f) (hz:bQ r.pg r.n r.f r.bk r.ev=0) :
  Calls prog 110 #[.agg (aj r v),.agg cs] w λe w'=>∃(A:Option Addr) (cap:Nat),e= .returned (.slice A (ji (pG (ay r.pg r.n r.f r.bk r.ev) f 1024)).length cap)/\KeptAt w' A (ji (pG (ay r.pg r.n r.f r.bk r.ev) f 1024))/\(ji (pG (ay r.pg r.n r.f r.bk r.ev) f 1024)).length<=cap/\cap<=maxLen/\Below w.heap.size w w':=by
 obtain ⟨pg,n,fr,bk,ev,node,live,K,cl⟩:=r;simp only at hz ⊢;have hp:=bR.1 hz;have hL:=mi hp;have HN:=ae (λW (i:Nat)=>zX pg n fr bk ev i W (lS (ay pg n fr bk ev) i) (by rw [if_pos hz]));have hrun:=ae (λ(i:Nat) (hi:(i:Int)<aG (ay pg n fr bk ev))=>aaC hp (k:=i) zo hi);have asn:=ae (λ(i:Nat)=>qO (ay pg n fr bk ev) i hL);generalize ay pg n fr bk ev=L at *;have XU:=ae hL;obtain ⟨s,hs⟩:=ah (w.heap.size);have hb0:=((aQ w (.cells (aj ⟨pg,n,fr,bk,ev,node,live,K,cl⟩ v) 28)).alloc zs (.cells cs 189)).alloc (by simp;omega) (.cells zeroCells189 189);have k0:=((af.new w 28 (aj ⟨pg,n,fr,bk,ev,node,live,K,cl⟩ v)).alloc (.cells cs 189)).alloc (.cells zeroCells189 189);have kM:=(af.new (w.alloc (.cells (aj ⟨pg,n,fr,bk,ev,node,live,K,cl⟩ v) 28)) 189 cs).alloc (.cells zeroCells189 189);have kP:=af.new ((w.alloc (.cells (aj ⟨pg,n,fr,bk,ev,node,live,K,cl⟩ v) 28)).alloc (.cells cs 189)) 189 zeroCells189;rw [World.size_alloc,hs] at kM;rw [World.size_alloc,World.size_alloc,hs] at kP;rw [hs] at hb0 k0 ⊢;have hZ:=ik;clear hL hp hz;go_enter func110,ntmps110;go_wp2_with fail;try simp only [hs]
 generalize zeroCells189=Z at *;generalize ((w.alloc _).alloc _).alloc _=w0 at *;dsimp only [aj] at k0
 go_loopw [6] (λu wr=>∃(i:Nat) (ps:Array Value),u = zI i/\i<=1024/\af wr s 28 #[zI pg,zI n,zI fr,zI bk,zI ev,zI node,zI live,v,.bool cl]/\af wr (s+1) 189 cs/\af wr (s+2) 189 ps/\bC ps (pG L f i)/\Below s w wr) (λu _=>1024 - (intOf u).toNat)
 case atStart=>exact ⟨0,Z,rfl,zo,k0,kM,kP,hZ.congr (λk _=>by
  unfold pG;cases hm:mem (k:Int) L with
  | false=>rfl
  | true =>
   have hr:=mG L 0 k XU.out hm;rw [Bool.true_and,decide_eq_false zo];rfl),hb0⟩
 case round =>
  clear k0 kM kP hb0 hZ;obtain ⟨i,ps,rfl,hi,k0,kM,kP,hP,hB⟩:=hrel;by_cases hlt:i<1024
  ·have d1:decide ((i:Int)<1024)=true:=by rw [decide_eq_true_eq];omega
   have q0:=(kM.cell i).trans (hM.at_ i hlt);have c0:=k0.cell;cases hf:f i with
   | false =>
    rw [hf] at q0;have hP2:=hP.congr (g:=pG L f (i+1)) (λp _=>(Ul XU.out (.inl hf) p).symm);clear hP;go_wp2_with fail;go_roundw
    case rel=>exact ⟨i+1,ps,by go_num,zo,k0,kM,kP,hP2,hB⟩
    case measure=>exact zm
   | true =>
    rw [hf] at q0;have Fg:=ae (HN.out wr i);have hn:=asn.out i;by_cases hin:(i:Int)<aG L
    ·have hr:=hrun.out i hin
     have hpl:=iB L (λx hx=>by have:=XU.out x hx;omega);rw [wJ,if_neg zo] at hn;obtain ⟨q1,hq1⟩:=ah ((bA L).getD (i:Int).toNat 0);rw [hq1] at hn;rw [hn] at Fg hr;have h1:=hr.lo;have h2:=hr.hi;simp only at h1 h2;obtain ⟨q,rfl⟩:∃q:Nat,q1=q:=⟨q1.toNat,zo⟩;have h3:=hr.page q (by simp only;omega) (by simp only;omega);simp only at h3;have hq:q<1024:=zo;have hM2:=ae (hP.set (g:=pG L f (i+1)) q hq true (by rw [Oj XU.out hf h3.1 zo,if_pos rfl]) (λj hj=>by rw [Oj XU.out hf h3.1 zo,if_neg hj]));have hold:=hP.at_ q hq;generalize pG L f i q=b0 at hold;clear hr h1 h2 h3 hn hq1 hpl hin hP;go_wp2_with fail;refine Fg.out.zr λw2 hb2=>?_
     obtain ⟨k2,EP,kP2⟩:=mY hb2 k0 kM kP;have B2:=hB.trans (hb2.mono (by have:=hB.size;have:=k0.lt;omega));have q2:=(kP2.cell q).trans hold;have f2:=kP2.frozen;have F:ag (λk=>k=s+2) w2 (w2.setCell ⟨s+2,q,none⟩ (.bool true)):=ag.setCell (T:=λk=>k=s+2) (p:=⟨s+2,q,none⟩) (ag.refl _ _) (λ_=>rfl) _;have hsB:=B2.size;have hsL:=k2.lt;clear Fg c0 q0;go_wp2_with fail;go_roundw
     case rel=>exact ⟨i+1,_,by go_num,zo,F.blk k2 zo,F.blk EP zo,kP2.aM q (.bool true),hM2.out,B2.trans (F.below zo (λk hk e=>by omega))⟩
     case measure=>exact zm
    ·have hpl:=iB L (λx hx=>by have:=XU.out x hx;omega)
     rw [wJ,if_pos (.inr zo)] at hn;rw [hn] at Fg;have hP2:=hP.congr (g:=pG L f (i+1)) (λp _=>(Ul XU.out (.inr zo) p).symm);clear hn hpl hin hP;go_wp2_with fail;refine Fg.out.zr λw2 hb2=>?_
     obtain ⟨k2,EP,kP2⟩:=mY hb2 k0 kM kP;have B2:=hB.trans (hb2.mono (by have:=hB.size;have:=k0.lt;omega));clear Fg c0 q0;go_wp2_with fail;go_roundw
     case rel=>exact ⟨i+1,ps,by go_num,zo,k2,EP,kP2,hP2,B2⟩
     case measure=>exact zm
  ·obtain rfl:i=1024:=zo
   have d1:decide (((1024:Nat):Int)<1024)=false:=by decide
   have hsz:=hP.size
   go_wp2_with (refine wpList_load_mid rfl 189 (.tmp 5) rfl (s+2) 0 rfl ps.toList _ (dZ kP) underlying189 rfl (by rw [Array.length_toList,hsz];kernel_rfl) ?_;rw [Array.toArray_toList])
   refine (lq ps _ wr hP).mono ?_;rintro e w5 ⟨A5,c5,rfl,hk5,hl5,hc5,hb5⟩;have B5:=hB.trans (hb5.mono (by have:=hB.size;have:=k0.lt;omega));go_wp2_with fail;go_ret;exact ⟨A5,c5,rfl,hk5,hl5,hc5,B5⟩
theorem Ey (r:Cr) (v:Value) (cs:Array Value) (f:Nat->Bool) (x:iO) (on:Bool) (w:World) (hM:bC cs f) (hz:bQ r.pg r.n r.f r.bk r.ev=0) (hx:Fv 0 (ay r.pg r.n r.f r.bk r.ev) x) (hs1:aG (ay r.pg r.n r.f r.bk r.ev)<=1024) :
  Calls prog 113 #[.agg (aj r v),.agg cs,.agg #[zI x.1,zI x.2.1],.bool on] w λe w'=>∃cs',e= .returned (.agg cs')/\bC cs' (dz f x.2.2 (x.2.2+x.2.1) on)/\Below w.heap.size w w':=by
 obtain ⟨pg,n,fr,bk,ev,node,live,K,cl⟩:=r;simp only at hz hx hs1 ⊢;have HN:=ae (λW (p:Int)=>BR pg n fr bk ev p W (fZ p 0 (ay pg n fr bk ev)) (by rw [if_pos hz]));generalize ay pg n fr bk ev=L at *;obtain ⟨x0,xn,xk⟩:=x;have Es:=ae hx;have z1:=hx.pos;have z2:=hx.lo;have z3:=hx.hi;have z4:=hx.nlo;have z5:=hx.nhi;simp only at z1 z2 z3 z4 z5 ⊢;obtain ⟨s,hs⟩:=ah (w.heap.size);obtain ⟨w0,hw0,hsz0,hb0,k0,kM,kX,kR⟩:=PN 28 189 85 189 (aj ⟨pg,n,fr,bk,ev,node,live,K,cl⟩ v) cs #[zI x0,zI xn] zeroCells189 w;rw [hs] at hb0 k0 kM kX kR hsz0 ⊢;have hZs:=ik.size;clear hx hz;obtain ⟨a,rfl⟩:∃a:Nat,x0=a:=⟨x0.toNat,zo⟩;obtain ⟨k,rfl⟩:∃k:Nat,xk=k:=⟨xk.toNat,zo⟩;obtain ⟨c,rfl⟩:∃c:Nat,xn=c:=⟨xn.toNat,zo⟩;have c0X:=kX.cell;have hM0:bC cs (dz f k ((k+0:Nat):Int) on):=hM.congr (λj _=>by unfold dz;rw [if_neg zo]);go_enter func113,ntmps113;go_upto_region 1 with fail
 rw [<-hw0];clear hw0;generalize zeroCells189=Z at *;dsimp only [aj] at k0;try simp only [Nat.add_assoc,Nat.reduceAdd]
 go_wp2_with fail;clear c0X
 go_loopw [9] (λu wr=>∃(j:Nat) (ps:Array Value),u = zI ((a+j:Nat):Int)/\j<=c/\af wr s 28 #[zI pg,zI n,zI fr,zI bk,zI ev,zI node,zI live,v,.bool cl]/\af wr (s+1) 189 ps/\af wr (s+2) 85 #[zI a,zI c]/\af wr (s+3) 189 Z/\bC ps (dz f k ((k+j:Nat):Int) on)/\Below s w wr) (λu _=>a+c - (intOf u).toNat)
 case atStart=>exact ⟨0,cs,rfl,zo,k0,kM,kX,kR,hM0,hb0⟩
 case round =>
  clear hM0 hM k0 kM kX kR hb0;obtain ⟨j,ps,rfl,hj,k0,kM,kX,kR,hP,hB⟩:=hrel;have cX:=kX.cell;by_cases hlt:j<c
  ·have d1:decide (((a+j:Nat):Int)<(a:Int)+(c:Int))=true:=by rw [decide_eq_true_eq];omega
   have d1':decide (((a+j:Nat):Int)<((a+c:Nat):Int))=true:=by rw [decide_eq_true_eq];omega
   have h3:=Es.out.page ((a+j:Nat):Int) (by simp only;omega) (by simp only;omega);simp only at h3;have hidx:fZ ((a+j:Nat):Int) 0 L=(((k+j:Nat):Int),0):=Prod.ext (by rw [h3.2];simp only;omega) (FK L 0 _ h3.1);have Fg:=ae (HN.out wr ((a+j:Nat):Int));rw [hidx] at Fg;have hq:k+j<1024:=zo;have hM2:=ae (hP.set (g:=dz f k ((k+j+1:Nat):Int) on) (k+j) hq on (by rw [ko f k (k+j) on zo,if_pos rfl]) (λi hi=>by rw [ko f k (k+j) on zo,if_neg hi]));have hold:=hP.at_ (k+j) hq;generalize dz f k ((k+j:Nat):Int) on (k+j)=b0 at hold;have c0:=k0.cell;obtain ⟨pp,Ii⟩:=ah (a+j);obtain ⟨q,hqq⟩:=ah (k+j);have hMq:=hM2;rw [hqq] at Fg hMq hold hq;rw [Ii] at Fg d1 d1' ⊢;clear h3 hidx hP hM2;go_wp2_with fail;refine Fg.out.zr λw2 hb2=>?_
   obtain ⟨k2,EP,kX2,cK⟩:=vO hb2 k0 kM kX kR;have B2:=hB.trans (hb2.mono (by have:=hB.size;have:=k0.lt;omega));have q2:=(EP.cell q).trans hold;have f2:=EP.frozen;have F:ag (λk=>k=s+1) w2 (w2.setCell ⟨s+1,q,none⟩ (.bool on)):=ag.setCell (T:=λk=>k=s+1) (p:=⟨s+1,q,none⟩) (ag.refl _ _) (λ_=>rfl) _;have hsB:=B2.size;have hsL:=k2.lt;clear Fg c0 cX hold;go_wp2_with fail;go_roundw
   case rel=>exact ⟨j+1,_,by rw [<-Ii];go_num,zo,F.blk k2 zo,EP.aM q (.bool on),F.blk kX2 zo,F.blk cK zo,by rw [<-Nat.add_assoc,hqq];exact hMq.out,B2.trans (F.below zo (λk hk e=>by omega))⟩
   case measure=>exact zm
  ·obtain rfl:j=c:=zo
   have d1:decide (((a+j:Nat):Int)<(a:Int)+(j:Int))=false:=by rw [decide_eq_false_iff_not];omega
   have hsz:=hP.size;have hone:=hP.one;have hth:=CJ kR;have hzs:=hZs
   go_wp2_with (first
    | (refine wpList_load_mid rfl 189 (.tmp 5) rfl (s+1) 0 rfl ps.toList _ (dZ kM) underlying189 rfl (by rw [Array.length_toList,hsz];kernel_rfl) ?_;rw [Array.toArray_toList])
    | (refine wpList_store_mid rfl 189 (.tmp 8) (.tmp 35) rfl (s+3) 0 ps rfl rfl (by rw [hsz,<-hzs];exact hth) (by rw [hsz];kernel_rfl) hone ?_))
   have hrg:=World.rangeAt_setCells_same wr (s+3) 0 ps.toList (by rw [Array.length_toList,hsz,<-hzs];exact hth);have Rq:=below_setCells (s+3) zo ps.toList 0 wr hB;generalize wr.setCells (s+3) 0 ps.toList=w9 at *;have hld:=run_loadVar_mid (P:=prog) w9 (s+3) 0 189 ps.toList _ hrg underlying189 rfl (by rw [Array.length_toList,hsz];kernel_rfl);rw [Array.toArray_toList] at hld;exact bodyPost_ret (v:=.agg ps) (BG rfl rfl hld) rfl ⟨ps,rfl,hP.congr (λ_ _=>by rw [Int.natCast_add]),Rq⟩
end Go.Proofs.YtlgcpjhimomiaaaGreat
