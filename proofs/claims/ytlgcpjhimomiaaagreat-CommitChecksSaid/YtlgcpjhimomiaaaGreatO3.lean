/- Texts GWalkE, GSpecB, GWalkF, GWalkH, GWalkI, GWalkO, GWalkU, GWalkJ, GWalkV, GWalkL, GWalkW, GSpecE, SSpecA, GWalkK, GSpecC, GSpecF, GSpecG, SSpecD, GLay. -/
import Derived.Lib.BitFns
import Derived.Lib.Strings
import Derived.Lib.Small
import Derived.Lib.Walk
import Derived.Deep.MidRow
import Derived.Shelf.SlSortCmp.WholeK
import Derived.Ground.SlsfProg
import Derived.Shelf.Spec.SlicesGrow
import Derived.Ground.Names8Prog
import Derived.Test.YtlgcpjhimomiaaaGreatProg
import Derived.Test.YtlgcpjhimomiaaaGreatO2
set_option maxRecDepth 100000
set_option maxHeartbeats 12800000
namespace Go.Pol
open Go Go.RowKit Go.Proofs.Tryz
def QZ (s:List Sp×Int) (x:Sp):List Sp×Int:=(if s.2<x.1 then s.1++[(s.2,x.1 - s.2)] else s.1,x.1+x.2)
def jr (n:Int) (l:List Sp):List Sp×Int:=l.foldl QZ ([],n)
theorem Ga (n:Int) (l:List Sp) (x:Sp):jr n (l++[x])=QZ (jr n l) x:=by simp [jr]
def Q0 (s:List Sp×Int) (e:Int):List Sp:=s.1++(if s.2<e then [(s.2,e - s.2)] else [])
theorem Nh:∀(l:List Sp) (acc:List Sp) (n e:Int),Q0 (l.foldl QZ (acc,n)) e=acc++oN n e l
 | [],acc,n,e=>rfl
 | x::r,acc,n,e=>by
  rw [List.foldl_cons,show QZ (acc,n) x=(if n<x.1 then acc++[(n,x.1 - n)] else acc,x.1+x.2) from rfl,Nh r,oN];split <;> simp
theorem Q4 (l:List Sp) (n e:Int):Q0 (jr n l) e=oN n e l:=by
 rw [jr,Nh,List.nil_append]
theorem Gb:∀(l:List Sp) (n:Int),0<=n/\n<=1024->(∀x∈l,bF x=true)->0<=(jr n l).2/\(jr n l).2<=1024:=by
 intro l n hn hv;rcases List.eq_nil_or_concat l with rfl|⟨r,x,rfl⟩
 ·exact hn
 ·rw [List.concat_eq_append,Ga]
  have:=av.1 (hv x (by simp [List.concat_eq_append]));simp only [QZ];omega
theorem Cy:∀(l:List Sp) (acc:List Sp) (n:Int),(l.foldl QZ (acc,n)).1.length<=acc.length+l.length
 | [],acc,n=>by simp
 | x::r,acc,n=>by
  simp only [List.foldl_cons];refine Nat.le_trans (Cy r _ _) ?_;show (if n<x.1 then acc++[(n,x.1 - n)] else acc).length+r.length<=_;split <;> simp <;> omega
def I1 (Q:Exit->Act->World->Prop) (e:Exit) (a:Act) (w:World):Prop:=match e with | .panic _=>False|e=>Q e a w
theorem aS {Q:Exit->Act->World->Prop} {a:Act} {w:World} (h:Q .normal a w):I1 Q .normal a w:=h
theorem bT {P:Program} {c:Code} {Q:Exit->Act->World->Prop} {a:Act} {w:World} (h:c.wp P (I1 Q) a w):c.wp P Q a w :=
 (wpIn_wide (n:=0)).1 (wpIn_mono (wpIn_wide.2 h) λe a w hq=>by
  cases e with
  | panic c=>exact hq.elim
  | _=>exact hq)
def Ni (s:Nat) (p q nx:Int) (v:Value) (w:Go.World):Prop :=
 w.cell? ⟨s,0,none⟩=some (zI p)/\w.cell? ⟨s,1,none⟩=some (zI q)/\w.cell? ⟨s+2,0,none⟩=some (zI nx)/\w.cell? ⟨s+1,0,none⟩=some v
theorem Ni.later {s:Nat} {p q nx:Int} {v:Value} {w w':Go.World} {B:Nat} (h:Ni s p q nx v w) (hb:Below B w w') (hB:s+2<B):Ni s p q nx v w' :=
 ⟨(hb.cell (p:=⟨s,0,none⟩) (by show s<B;omega)).trans h.1,(hb.cell (p:=⟨s,1,none⟩) (by show s<B;omega)).trans h.2.1,(hb.cell (p:=⟨s+2,0,none⟩) hB).trans h.2.2.1,(hb.cell (p:=⟨s+1,0,none⟩) (by show s+1<B;omega)).trans h.2.2.2⟩
theorem om {α:Type} {pre xs:List α} (h:pre <+: xs) {x:α} (hx:x∈pre):x∈xs:=h.subset hx
theorem Nl (sz en:Int) (hsz:1<=sz):∀(k:Nat) (a:Int),en - a<k ->
  (∀x∈gU sz en k a,a<=x.1/\1<=x.2/\x.1+x.2<=en)/\aV (a - 1) (gU sz en k a)=true/\(∀q:Int,mem q (gU sz en k a)=true↔(a<=q/\q<en)/\(q - a+1) % (sz+1)≠0)
 | 0,a,h=>⟨by simp [gU],rfl,λq=>by simp [gU,fT];omega⟩
 | k+1,a,h=>by
  rw [gU];by_cases hlt:a<en
  ·rw [if_pos hlt]
   obtain ⟨h1,h2,h3⟩:=Nl sz en hsz k (a+sz+1) zo;refine ⟨λx hx=>?_,?_,λq=>?_⟩
   ·rcases List.mem_cons.1 hx with rfl|hx
    ·simp only;omega
    ·have:=h1 x hx;omega
   ·rw [aJ]
    exact ⟨by simp only;omega,tF h2 (by simp only;omega)⟩
   ·rw [bH,h3 q]
    simp only;have e:(q - (a+sz+1)+1) % (sz+1)=(q - a+1) % (sz+1):=by
     rw [show q - a+1=(q - (a+sz+1)+1)+(sz+1) by omega,Int.add_emod_right]
    rw [e];by_cases hq:q<a
    ·constructor
     ·rintro (h|⟨h,_⟩) <;> omega
     ·rintro ⟨h,_⟩;omega
    by_cases hq2:q<a+sz
    ·have em:(q - a+1) % (sz+1)=q - a+1:=Int.emod_eq_of_lt zo zo
     rw [em];omega
    by_cases hq3:q=a+sz
    ·have em:(q - a+1) % (sz+1)=0:=by rw [hq3,show a+sz - a+1=sz+1 by omega,Int.emod_self]
     rw [em];omega
    ·constructor
     ·rintro (h|⟨h,h'⟩)
      ·omega
      ·exact ⟨zo,h'⟩
     ·rintro ⟨h,h'⟩;exact .inr ⟨zo,h'⟩
  ·rw [if_neg hlt]
   exact ⟨zs,rfl,λq=>by simp [fT];omega⟩
section
variable {pg n f b ev:Int}
theorem wI (hp:dO pg n f b ev):(∀x∈ay pg n f b ev,pg+f<=x.1/\1<=x.2/\x.1+x.2<=pg+n - b)/\aV (pg+f - 1) (ay pg n f b ev)=true /\
  (∀q:Int,mem q (ay pg n f b ev)=true↔(pg+f<=q/\q<pg+n - b)/\(q - (pg+f)+1) % ((if ev=0 then 1024 else ev)+1)≠0):=by
 have h:=Nl (if ev=0 then 1024 else ev) (pg+n - b) (by have:=hp.e0;split <;> omega) 1025 (pg+f) (by have:=hp.n1;have:=hp.Cv;have:=hp.f0;have:=hp.b0;omega);exact h
theorem bN (hp:dO pg n f b ev):Go.Pol.Can (ay pg n f b ev):=by
 obtain ⟨h1,h2,_⟩:=wI hp;have a1:=hp.Cv;have a2:=hp.n1;have a3:=hp.f0;have a4:=hp.b0;refine ⟨λx hx=>?_,tF h2 zo⟩;have:=h1 x hx;rw [av];omega
theorem Gd (hp:dO pg n f b ev) (q:Int):tN pg n f b ev q=0↔mem q (ay pg n f b ev)=true:=by
 obtain ⟨a1,a2,a3,a4,a5,a6,a7,a8,a9,a10,a11⟩:=hp;rw [(wI ⟨a1,a2,a3,a4,a5,a6,a7,a8,a9,a10,a11⟩).2.2 q];unfold tN;by_cases h1:q - pg<0\/n<=q - pg
 ·rw [if_pos h1];constructor
  ·intro h;cases h
  ·rintro ⟨h,_⟩;omega
 rw [if_neg h1];by_cases h2:q - pg<f
 ·rw [if_pos h2];constructor
  ·intro h;cases h
  ·rintro ⟨h,_⟩;omega
 rw [if_neg h2];by_cases h3:n - b<=q - pg
 ·rw [if_pos h3];constructor
  ·intro h;cases h
  ·rintro ⟨h,_⟩;omega
 rw [if_neg h3,show q - (pg+f)+1=q - pg - f+1 by omega];by_cases h0:ev=0
 ·subst h0
  rw [if_neg zo,if_pos rfl];have:(q - pg - f+1) % (1024+1)=q - pg - f+1:=Int.emod_eq_of_lt zo zo;rw [this];omega
 ·rw [if_neg h0]
  by_cases h4:(q - pg - f+1) % (ev+1)=0
  ·rw [if_pos ⟨zo,h4⟩];constructor
   ·intro h;cases h
   ·rintro ⟨_,h⟩;exact absurd h4 h
  ·rw [if_neg (λh=>h4 h.2)]
   exact ⟨λ_=>⟨zo,h4⟩,λ_=>rfl⟩
end
def aG (l:List Sp):Int:=(l.map (·.2)).sum
theorem tQ (l:List Sp) (x:Sp):aG (l++[x])=aG l+x.2:=by simp [aG]
theorem iK:∀(l:List Sp),(∀x∈l,bF x=true)->0<=aG l/\aG l<=1024*l.length
 | [],_=>by simp [aG]
 | x::r,h=>by
  have:=iK r (λy hy=>h y (by simp [hy]));have hx:=av.1 (h x zs);simp only [aG,List.map_cons,List.sum_cons,List.length_cons] at this ⊢;omega
def lS:List Sp->Int->Int×Int
 | [],_=>(0,7)
 | x::r,i=>if i<0 then (0,7) else if i<x.2 then (x.1+i,0) else lS r (i - x.2)
def fZ (page:Int):Int->List Sp->Int×Int
 | _,[]=>(0,4)
 | n,x::r=>if x.1<=page/\page<x.1+x.2 then (n+page - x.1,0) else fZ page (n+x.2) r
def bA (l:List Sp):List Int:=l.flatMap λx=>(List.range x.2.toNat).map λ(k:Nat)=>x.1+(k:Int)
theorem Vg {L pre rest:List Sp} {i:Int} {x:Sp} (h:lS L i=lS (x::rest) (i - aG pre)) (h1:¬i - aG pre<0) (h2:¬i - aG pre<x.2):lS L i=lS rest (i - aG (pre++[x])):=by
 rw [h,lS,if_neg h1,if_neg h2,tQ];congr 1;omega
theorem OL {α:Type} {pre xs:List α} {x:α} (h:pre++[x] <+: xs):∃rest,xs=pre++x::rest:=by
 obtain ⟨rest,h⟩:=h;exact ⟨rest,by rw [<-h];simp⟩
def YK (a m:Int):Prop:=a<0\/65536<a\/m<1\/65536 - a<m
instance alF (a m:Int):Decidable (YK a m):=by unfold YK;infer_instance
def Nn (u f b ev:Int):Prop:=u<1\/1024<u\/kL f b ev=true
instance agy (u f b ev:Int):Decidable (Nn u f b ev):=by unfold Nn;infer_instance
theorem EM:Lib.len8tab.size=256:=by decide +kernel
theorem acd:∀i:Fin 256,((Lib.len8tab[i.val]?).map UInt8.toNat).getD 0=Lib.bitLen i.val:=by decide +kernel
theorem Q6 (i:Nat) (h:i<Lib.len8tab.size):(Lib.len8tab[i]'h).toNat=Lib.bitLen i:=by
 have h2:i<256:=by rw [<-EM];exact h
 have:=acd ⟨i,h2⟩;simpa [getElem?_pos Lib.len8tab i h] using this
theorem RU.on {w w':World} {A:Option Addr} {us:List Sp} (h:RU w w.heap.size A us) (hb:Below w.heap.size w w'):RU w' w'.heap.size A us:=(h.below hb).more hb.size
structure bC (cs:Array Value) (f:Nat->Bool):Prop where
 size:cs.size=1024
 at_:∀k,k<1024->cs[k]? = some (.bool (f k))
theorem CB:∀(s:List Sp) (e:Int) (m:Int),(∀x∈s,1<=x.2/\x.1+x.2<=m)->aV e s=true->e<=m->(s.length:Int)<=m - e
 | [],e,m,_,_,h=>by simp;omega
 | x::r,e,m,hw,hf,_=>by
  have hf':=aJ.1 hf;have hx:=hw x zs;have:=CB r (x.1+x.2) m (λy hy=>hw y (by simp [hy])) hf'.2 hx.2;simp only [List.length_cons];omega
theorem DJ (r:List Sp) (x:Sp) (y:Int):(ax (r++[x])).set (r.length*2+1) (zI y)=ax (r++[(x.1,y)]):=by
 rw [eZ,eZ];have:r.length*2+1=(ax r).length+1:=by rw [dN]
 rw [this,List.set_append_right _ _ zo];simp
def fJ (x:Sp) (j:Nat):List Int:=(List.range j).map λ(k:Nat)=>x.1+(k:Int)
theorem OP (x:Sp) (j:Nat):fJ x (j+1)=fJ x j++[x.1+(j:Int)]:=by simp [fJ,List.range_succ]
theorem OQ:bA []=[]:=rfl
theorem jl (x:Sp) (r:List Sp):bA (x::r)=fJ x x.2.toNat++bA r:=by simp [bA,fJ]
theorem Hf (l r:List Sp):bA (l++r)=bA l++bA r:=by simp [bA]
theorem iB:∀(l:List Sp),(∀x∈l,0<=x.2)->((bA l).length:Int)=aG l
 | [],_=>by simp [bA,aG]
 | x::r,h=>by
  have ih:=iB r (λy hy=>h y (by simp [hy]));have hx:=h x zs;rw [jl,List.length_append,show (fJ x x.2.toNat).length=x.2.toNat by simp [fJ]];simp only [aG,List.map_cons,List.sum_cons] at ih ⊢;omega
theorem xJ (us:List Sp) (k:Nat) (hk:k<us.length):us.take (k+1)=us.take k++[us.getD k (0,0)]:=by
 rw [List.take_add_one,List.getElem?_eq_getElem hk];simp [List.getD_eq_getElem?_getD,hk]
theorem AQ {a:Int}:∀u∈[zI a],u.oneCell'=true:=by
 intro u hu;simp only [List.mem_cons,List.not_mem_nil,or_false] at hu;subst hu;rfl
theorem Io {w:World} {g:Nat} {t:TypeId} {a:Int} (h:af w g t #[zI a]):∀(j:Nat) (u:Value),[zI a][j]? = some u->w.cell? ((⟨g,0,none⟩:Addr).add j)=some u:=by
 intro j u hu;rw [dM,Nat.zero_add,h.cell];simpa using hu
theorem Q9 {w:World} {base:Nat} {e:TypeId} {v:Value} {n:Nat} {xs:List Int} (h:w.ownsRow base e 1 v n (xs.map (Value.int .i64))) (hn:xs.length=n):∃(A:Option Addr) (cap:Nat),v= .slice A n cap/\RI w w.heap.size A xs:=by
 have hv:=h;rcases h.2 with ⟨rfl,h0⟩|⟨g,cap,cur,rfl,hg,hk,_⟩
 ·subst h0
  obtain rfl:xs=[]:=List.eq_nil_of_length_eq_zero hn;exact ⟨none,0,rfl,RI.nil⟩
 ·refine ⟨_,cap,rfl,λk hk'=>?_⟩
  have hk2:k<xs.length:=by simpa using hk'
  have hc:=hv.cellAt k zo;refine ⟨g,0,rfl,af.lt hk,?_⟩;rw [Nat.zero_add,hc];exact List.getElem?_eq_getElem hk'
def Hg (us:List Sp):Int:=if 2000<us.length then 3 else if us.all bF=true then 0 else 7
def setOf (us:List Sp):List Sp:=ji λk=>mem (k:Int) us
theorem nO (us:List Sp):Can (setOf us):=EE _
theorem aco {us:List Sp} (hv:∀x∈us,bF x=true) {q:Int} (h:mem q us=true):0<=q/\q<1024:=by
 obtain ⟨x,hx,hh⟩:=List.any_eq_true.1 h;have:=av.1 (hv x hx);simp at hh;omega
theorem xK {us:List Sp} (hv:∀x∈us,bF x=true) (q:Int):mem q (setOf us)=true↔mem q us=true:=by
 unfold setOf;rw [EF];constructor
 ·rintro ⟨h1,h2⟩
  rwa [show ((q.toNat:Nat):Int)=q by omega] at h2
 ·intro h
  have:=aco hv h;exact ⟨this,by rwa [show ((q.toNat:Nat):Int)=q by omega]⟩
theorem Z4 {us:List Sp} (h:Hg us=0):us.length<=2000/\∀x∈us,bF x=true:=by
 unfold Hg at h;split at h
 ·cases h
 ·split at h
  ·rename_i h1 h2
   exact ⟨zo,List.all_eq_true.1 h2⟩
  ·cases h
theorem bC.set {cs:Array Value} {f g:Nat->Bool} (h:bC cs f) (k:Nat) (hk:k<1024) (b:Bool) (hb:g k=b) (hg:∀j,j≠k->g j=f j):bC (cs.setIfInBounds k (.bool b)) g :=
 ⟨by simp [h.size],λj hj=>by
  by_cases hjk:j=k
  ·subst hjk
   rw [Array.getElem?_setIfInBounds_self_of_lt (by rw [h.size];exact hk),hb]
  ·rw [Array.getElem?_setIfInBounds_ne (Ne.symm hjk),hg j hjk];exact h.at_ j hj⟩
theorem dZ {w:World} {g:Nat} {t:TypeId} {cs:Array Value} (h:af w g t cs):w.rangeAt g 0 cs.toList:=λj v hj=>by
 rw [Nat.zero_add,h.cell];simpa using hj
def zi (pg n f b ev:Int) (us:Bool) (j:Nat) (q:Nat):Bool:=decide (pg<=(q:Int)/\(q:Int)<pg+j)&&((tN pg n f b ev q==0)==us)
section
variable {pg n f b ev:Int}
theorem Vu (hp:dO pg n f b ev):ji (zi pg n f b ev true n.toNat)=ay pg n f b ev:=by
 refine ((bN hp).oO _ λp hp2=>?_).symm;have h:=Gd hp (p:Int);have hr:=(wI hp).2.2 (p:Int);have a1:=hp.f0;have a2:=hp.b0;have a3:=hp.n0;rw [Bool.eq_iff_iff];simp only [zi,Bool.and_eq_true,decide_eq_true_eq,beq_iff_eq];rw [<-h];constructor
 ·rintro ⟨_,h2⟩;simpa using h2
 ·intro h2
  have:=hr.1 (h.1 h2);refine ⟨zo,by simpa using h2⟩
theorem Ra (hp:dO pg n f b ev):ji (zi pg n f b ev false n.toNat)=aZ (ay pg n f b ev) (pg,n):=by
 have hv:bF (pg,n)=true:=av.2 ⟨hp.Cv,hp.pg1,hp.n0,hp.n1⟩;obtain ⟨hc,hm⟩:=(bN hp).FV hv;refine (hc.oO _ λp hp2=>?_).symm;have h:=Gd hp (p:Int);have a3:=hp.n0;rw [Bool.eq_iff_iff,hm];simp only [zi,Bool.and_eq_true,decide_eq_true_eq,beq_iff_eq];have e:(((n.toNat:Nat):Int))=n:=zo;rw [e];constructor
 ·rintro ⟨h1,h2⟩
  refine ⟨zo,?_⟩;rw [Bool.eq_false_iff];intro hh;have:=h.2 hh;rw [this] at h2;simp at h2
 ·rintro ⟨h1,h2⟩
  refine ⟨zo,?_⟩;rw [beq_eq_false_iff_ne];intro hh;have:=h.1 hh;rw [h2] at this;cases this
end
theorem DK (a c:Int):∀(j:Nat),fJ (a,c) (j+1)=a::fJ (a+1,c) j
 | j=>by
  simp only [fJ,List.range_succ_eq_map,List.map_cons,List.map_map];congr 1
  ·simp
  ·apply List.map_congr_left
   intro k _;simp only [Function.comp];omega
theorem Rb (x:Sp) (j i:Nat) (h:i<j):(fJ x j).getD i 0=x.1+(i:Int):=by
 simp [fJ,List.getD_eq_getElem?_getD,h]
theorem vv (x:Sp) (j:Nat):(fJ x j).length=j:=by simp [fJ]
theorem Rc (l r:List Int) (i:Nat) (h:i<l.length):(l++r).getD i 0=l.getD i 0:=by simp [List.getD_eq_getElem?_getD,List.getElem?_append_left h]
theorem Re (l r:List Int) (i:Nat) (h:l.length<=i):(l++r).getD i 0=r.getD (i - l.length) 0:=by simp [List.getD_eq_getElem?_getD,List.getElem?_append_right h]
def wJ (l:List Int) (i:Int):Int×Int:=if i<0\/(l.length:Int)<=i then (0,7) else (l.getD i.toNat 0,0)
theorem qO:∀(L:List Sp) (i:Int),(∀x∈L,1<=x.2)->lS L i=wJ (bA L) i
 | [],i,_=>by simp [lS,wJ,bA]
 | x::r,i,h=>by
  have hx:=h x zs;have ih:=qO r (i - x.2) (λy hy=>h y (by simp [hy]));rw [lS];by_cases h0:i<0
  ·rw [if_pos h0,wJ,if_pos (.inl h0)]
  rw [if_neg h0];have hl:(bA (x::r)).length=x.2.toNat+(bA r).length:=by rw [jl,List.length_append,vv]
  by_cases h1:i<x.2
  ·rw [if_pos h1,wJ,if_neg (by rw [hl];omega),jl,Rc _ _ _ (by rw [vv];omega),Rb _ _ _ zo]
   congr 1;omega
  ·rw [if_neg h1,ih,wJ,wJ]
   by_cases h2:i - x.2<0\/((bA r).length:Int)<=i - x.2
   ·rw [if_pos h2,if_pos (by rw [hl];omega)]
   ·rw [if_neg h2,if_neg (by rw [hl];omega),jl,Re _ _ _ (by rw [vv];omega),vv]
    congr 2;omega
def wK (page:Int):Int->List Int->Int×Int
 | _,[]=>(0,4)
 | k,y::r=>if y=page then (k,0) else wK page (k+1) r
theorem DL (page c:Int) (r:List Int):∀(j:Nat) (a k:Int),wK page k (fJ (a,c) j++r)=if a<=page/\page<a+j then (k+(page - a),0) else wK page (k+j) r
 | 0,a,k=>by rw [if_neg zo];simp [fJ]
 | j+1,a,k=>by
  rw [DK,List.cons_append,wK,DL page c r j (a+1) (k+1)];by_cases h:a=page
  ·rw [if_pos h,if_pos zo];congr 1;omega
  ·rw [if_neg h]
   by_cases h2:a+1<=page/\page<a+1+j
   ·rw [if_pos h2,if_pos zo];congr 1;omega
   ·rw [if_neg h2,if_neg zo];congr 1;omega
theorem zl (page:Int):∀(L:List Sp) (k:Int),(∀x∈L,1<=x.2)->fZ page k L=wK page k (bA L)
 | [],k,_=>rfl
 | x::r,k,h=>by
  obtain ⟨xa,xb⟩:=x;have hx:=h (xa,xb) zs;have ih:=zl page r (k+xb) (λy hy=>h y (by simp [hy]));simp only at hx;rw [fZ,jl];simp only;rw [DL];by_cases h1:xa<=page/\page<xa+xb
  ·rw [if_pos h1,if_pos zo];congr 1;omega
  ·rw [if_neg h1,if_neg zo,ih];congr 1;omega
theorem BF:∀(L:List Sp) (e:Int),(∀x∈L,1<=x.2)->aV e L=true->(bA L).Pairwise (· < ·)/\∀p∈bA L,e<p/\mem p L=true
 | [],_,_,_=>⟨by simp [bA],λp hp=>by simp [bA] at hp⟩
 | x::r,e,h,hf=>by
  have hf':=aJ.1 hf;have hx:=h x zs;obtain ⟨h1,h2⟩:=BF r (x.1+x.2) (λy hy=>h y (by simp [hy])) hf'.2;have hX:∀p∈fJ x x.2.toNat,x.1<=p/\p<x.1+x.2:=by
   intro p hp;simp only [fJ,List.mem_map,List.mem_range] at hp;obtain ⟨k,hk,rfl⟩:=hp;omega
  rw [jl];constructor
  ·rw [List.pairwise_append]
   refine ⟨?_,h1,λa ha b hb=>by have:=hX a ha;have:=(h2 b hb).1;omega⟩;unfold fJ;rw [List.pairwise_map];exact List.pairwise_lt_range.imp (λ{a b} h=>by omega)
  ·intro p hp
   rcases List.mem_append.1 hp with h3|h3
   ·have:=hX p h3
    exact ⟨zo,bH.2 (.inl this)⟩
   ·exact ⟨by have:=(h2 p h3).1;omega,bH.2 (.inr (h2 p h3).2)⟩
theorem Np:∀(P:List Int) (k:Int) (i:Nat),P.Pairwise (· < ·)->i<P.length->wK (P.getD i 0) k P=(k+i,0)
 | [],_,_,_,h=>by simp at h
 | y::r,k,0,_,_=>by simp [wK]
 | y::r,k,i+1,hp,h=>by
  have hp':=List.pairwise_cons.1 hp;have hi:i<r.length:=by simpa using h
  have e:(y::r).getD (i+1) 0=r.getD i 0:=by simp [List.getD_eq_getElem?_getD]
  have hm:r.getD i 0∈r:=by rw [List.getD_eq_getElem?_getD,List.getElem?_eq_getElem hi];simp
  have hne:y≠r.getD i 0:=by have:=hp'.1 _ hm;omega
  rw [e,wK,if_neg hne,Np r (k+1) i hp'.2 hi];congr 1;omega
theorem Nq:∀(s:List Sp) (e:Int),e<1024->(∀x∈s,bF x=true)->aV e s=true->aG s<=1023 - e
 | [],e,he,_,_=>by simp [aG];omega
 | x::s,e,he,hv,hf=>by
  rw [aJ] at hf;have hx:=av.1 (hv x zs);have e1:aG (x::s)=x.2+aG s:=by simp [aG]
  rw [e1];cases s with
  | nil=>simp [aG];omega
  | cons y r =>
   have hf2:=aJ.1 hf.2;have hy:=av.1 (hv y zs);have:=Nq (y::r) (x.1+x.2) zo (λz hz=>hv z (List.mem_cons_of_mem _ hz)) hf.2;omega
def mh (L:List Sp) (k:Nat):Int:=(bA L).getD k 0
def YM (L:List Sp) (k:Nat):Int:=if k=0 then -1 else mh L (k - 1)
section
variable {pg n f b ev:Int}
theorem mi (hp:dO pg n f b ev):∀x∈ay pg n f b ev,1<=x.2:=λx hx=>((wI hp).1 x hx).2.1
theorem Ri (hp:dO pg n f b ev):ay pg n f b ev≠[]:=by
 have h:=hp.fb;unfold ay;rw [show (1025:Nat)=1024+1 from rfl,gU,if_pos zo];simp
theorem lL (hp:dO pg n f b ev):1<=aG (ay pg n f b ev)/\aG (ay pg n f b ev)<=1024:=by
 have hc:=bN hp;have h1:=Nq _ (-1) zo hc.1 hc.2;refine ⟨?_,zo⟩;have h2:=mi hp;cases hL:ay pg n f b ev with
 | nil=>exact absurd hL (Ri hp)
 | cons x r =>
  rw [hL] at h2 hc;have h3:=h2 x zs;have h4:=(iK r (λy hy=>hc.1 y (by simp [hy]))).1;have e1:aG (x::r)=x.2+aG r:=by simp [aG]
  omega
theorem CF (hp:dO pg n f b ev) (k:Nat) (hk:(k:Int)<aG (ay pg n f b ev)) :
  lS (ay pg n f b ev) k=(mh (ay pg n f b ev) k,0)/\fZ (mh (ay pg n f b ev) k) 0 (ay pg n f b ev)=((k:Int),0) /\
  mem (mh (ay pg n f b ev) k) (ay pg n f b ev)=true/\0<=mh (ay pg n f b ev) k/\mh (ay pg n f b ev) k<1024 /\
  YM (ay pg n f b ev) k<mh (ay pg n f b ev) k:=by
 have hpos:=mi hp;have hc:=bN hp;have hin:∀{q:Int},mem q (ay pg n f b ev)=true->pg<=q/\q<pg+n:=λh=>by
  have:=((wI hp).2.2 _).1 h;have:=hp.f0;have:=hp.b0;omega
 have b1:=hp.Cv;have b2:=hp.n1;generalize ay pg n f b ev=L at *;have hl:=iB L (λx hx=>by have:=hpos x hx;omega);have hk':k<(bA L).length:=zo;obtain ⟨hs,hm⟩:=BF L (-1) hpos hc.2;have hmem:mh L k∈bA L:=by
  unfold mh;rw [List.getD_eq_getElem?_getD,List.getElem?_eq_getElem hk'];simp
 have hmm:=(hm _ hmem).2;have:=hin hmm;refine ⟨?_,?_,hmm,zo,zo,?_⟩
 ·rw [qO L _ hpos,wJ,if_neg zo];rfl
 ·rw [zl _ _ _ hpos]
  have:=Np (bA L) 0 k hs hk';rw [Int.zero_add] at this;exact this
 ·unfold YM
  by_cases h0:k=0
  ·rw [if_pos h0];omega
  ·rw [if_neg h0]
   have h1:k - 1<(bA L).length:=zo;have:=List.pairwise_iff_getElem.1 hs (k - 1) k h1 hk' zo;unfold mh;have e1:(bA L).getD k 0=(bA L)[k]:=by rw [List.getD_eq_getElem?_getD,List.getElem?_eq_getElem hk'];rfl
   have e2:(bA L).getD (k - 1) 0=(bA L)[k - 1]:=by rw [List.getD_eq_getElem?_getD,List.getElem?_eq_getElem h1];rfl
   rw [e1,e2];exact this
end
def iL (f:Int->Bool):Nat->Int->Int
 | 0,_=>0
 | k+1,a=>(if f a=true then 1 else 0)+iL f k (a+1)
def cntF (us:List Sp) (x:Sp):Int:=iL (λq=>mem q us) x.2.toNat x.1
theorem I9 (f:Int->Bool):∀(k:Nat) (a:Int),iL f (k+1) a=iL f k a+if f (a+k)=true then 1 else 0
 | 0,a=>by simp [iL]
 | k+1,a=>by
  rw [iL,I9 f k (a+1),iL,show a+1+(k:Int)=a+(k+1:Nat) by omega];omega
theorem j6 (f:Int->Bool):∀(j k:Nat) (a:Int),iL f (j+k) a=iL f j a+iL f k (a+j)
 | 0,k,a=>by simp [iL]
 | j+1,k,a=>by
  rw [show j+1+k=(j+k)+1 by omega,iL,j6 f j k (a+1),iL,show a+1+(j:Int)=a+(j+1:Nat) by omega];omega
theorem vw {f g:Int->Bool}:∀(k:Nat) (a:Int),(∀q,a<=q->q<a+k->f q=g q)->iL f k a=iL g k a
 | 0,a,_=>rfl
 | k+1,a,h=>by
  rw [iL,iL,h a zo zo,vw k (a+1) (λq h1 h2=>h q zo zo)]
theorem Gh (f:Int->Bool):∀(k:Nat) (a:Int),0<=iL f k a/\iL f k a<=k
 | 0,a=>by simp [iL]
 | k+1,a=>by
  have:=Gh f k (a+1);rw [iL];split <;> omega
theorem Nr {f:Int->Bool}:∀(k:Nat) (a:Int),(∀q,a<=q->q<a+k->f q=true)->iL f k a=k
 | 0,a,_=>rfl
 | k+1,a,h=>by
  rw [iL,h a zo zo,if_pos rfl,Nr k (a+1) (λq h1 h2=>h q zo zo)];omega
theorem nP {f:Int->Bool}:∀(k:Nat) (a:Int),(∀q,a<=q->q<a+k->f q=false)->iL f k a=0
 | 0,a,_=>rfl
 | k+1,a,h=>by
  rw [iL,h a zo zo,if_neg zd,nP k (a+1) (λq h1 h2=>h q zo zo)];omega
theorem Rj:∀(us:List Sp) (e a:Int),aV e us=true->(∀x∈us,bF x=true)->(∀x∈us,a<=x.1)->a<=1024->iL (λq=>mem q us) (1024 - a).toNat a=aG us
 | [],_,a,_,_,_,_=>by rw [nP (f:=λq=>mem q []) _ _ (λq _ _=>rfl)];simp [aG]
 | x::r,e,a,hf,hv,ha,hle=>by
  have hf':=aJ.1 hf;have hx:=av.1 (hv x zs);have hax:=ha x zs;have hrv:∀y∈r,bF y=true:=λy hy=>hv y (by simp [hy])
  have low:∀q,mem q r=true->x.1+x.2<q:=λq hq=>uW hf'.2 (λy hy=>by have:=av.1 (hrv y hy);omega) hq
  have hr:∀y∈r,x.1+x.2<=y.1:=λy hy=>by
   have:=av.1 (hrv y hy);have:=low y.1 (List.any_eq_true.2 ⟨y,hy,by simp;omega⟩);omega
  have ih:=Rj r (x.1+x.2) (x.1+x.2) hf'.2 hrv hr zo;have e1:(1024 - a).toNat=(x.1 - a).toNat+(x.2.toNat+(1024 - (x.1+x.2)).toNat):=zo;rw [e1,j6,j6,show a+((x.1 - a).toNat:Int)=x.1 by omega,show x.1+(x.2.toNat:Int)=x.1+x.2 by omega];rw [nP (x.1 - a).toNat a (λq h1 h2=>by
   rw [Bool.eq_false_iff];intro hh;rcases bH.1 hh with h|h
   ·omega
   ·have:=low q h;omega)]
  rw [Nr x.2.toNat x.1 (λq h1 h2=>bH.2 (.inl zo))];rw [vw (g:=λq=>mem q r) _ _ (λq h1 h2=>by
   show mem q (x::r)=mem q r;rw [mem_cons,Bool.eq_iff_iff];simp;omega),ih]
  have:aG (x::r)=x.2+aG r:=by simp [aG]
  omega
theorem CG {us:List Sp} (h:Can us):cntF us (0,1024)=aG us:=by
 have:=Rj us (-1) 0 h.2 h.1 (λx hx=>(av.1 (h.1 x hx)).1) zo;exact this
end Go.Pol
namespace Go.Proofs.YtlgcpjhimomiaaaGreat
open Go Go.Proofs Go.RowKit Go.Pol Go.Shelf Tryz
attribute [local go_sem] Oper.semAt_some aC au aB ai
theorem Nj (A:Option Addr) (n cap:Nat) (us:List Sp) (p q:Int) (w:World) (hn:us.length=n) (hm:n<=cap) (hc:cap<=maxLen) (hr:RU w w.heap.size A us) (hu:Go.Pol.Can us) (hv:bF (p,q)=true) :
  Calls prog 133 #[.slice A n cap,.agg #[zI p,zI q]] w λe w'=>∃(A':Option Addr) (cap':Nat),e= .returned (.slice A' (aZ us (p,q)).length cap')/\RU w' w'.heap.size A' (aZ us (p,q))/\(aZ us (p,q)).length<=cap'/\cap'<=maxLen/\(∀b o,A'=some ⟨b,o,none⟩->w.heap.size<=b)/\Below w.heap.size w w'/\(A'=none->cap'=0):=by
 obtain ⟨i0,hi,hz0,hz1,hz2⟩:=dW;obtain ⟨L,hL0⟩:=ah (aZ us (p,q));rw [hL0];have hL:=ae hL0;clear hL0;refine bL func133 rfl ?_;simp only [ntmps133,List.size_toArray,List.length_cons,List.length_nil,Nat.reduceAdd,Nat.reduceSub,Array.replicate_succ,Array.replicate_zero,List.push_toArray,List.append_toArray,List.nil_append,List.cons_append]
 go_wp2_with (go_at_call 141;refine (ze _ _ _ _ _ _ _).mono ?_;rintro e w2 ⟨rfl,rfl⟩)
 obtain ⟨s,hs⟩:=ah (w.heap.size);obtain ⟨W0,hW0⟩:=ah ((((((w.alloc (.cells #[zI p,zI q] 85)).alloc (.cells #[zN] 26)).alloc (.cells #[zI p] 3)).alloc (.cells #[zI p,zI q] 85)).alloc (.cells #[.slice A n cap] 26)).alloc (.cells #[.slice (some ⟨w.heap.size+1+1+1,0,none⟩) 1 1] 26));have hs0:W0.heap.size=s+6:=by rw [<-hW0,<-hs];simp
 have kI:af W0 s 85 #[zI p,zI q]:=by rw [<-hW0,<-hs];exact (((((af.new _ _ _).alloc _).alloc _).alloc _).alloc _).alloc _
 have kO:af W0 (s+1) 26 #[zN]:=by
  rw [<-hW0,<-hs];have:=af.new (w.alloc (.cells #[zI p,zI q] 85)) 26 #[zN];rw [World.size_alloc] at this;exact (((this.alloc _).alloc _).alloc _).alloc _
 have kN:af W0 (s+2) 3 #[zI p]:=by
  rw [<-hW0,<-hs];have:=af.new ((w.alloc (.cells #[zI p,zI q] 85)).alloc (.cells #[zN] 26)) 3 #[zI p];simp only [World.size_alloc] at this;exact ((this.alloc _).alloc _).alloc _
 have kS:af W0 (s+3) 85 #[zI p,zI q]:=by
  rw [<-hW0,<-hs];have:=af.new (((w.alloc (.cells #[zI p,zI q] 85)).alloc (.cells #[zN] 26)).alloc (.cells #[zI p] 3)) 85 #[zI p,zI q];simp only [World.size_alloc] at this;exact (this.alloc _).alloc _
 have kB1:af W0 (s+4) 26 #[.slice A n cap]:=by
  rw [<-hW0,<-hs];have:=af.new ((((w.alloc (.cells #[zI p,zI q] 85)).alloc (.cells #[zN] 26)).alloc (.cells #[zI p] 3)).alloc (.cells #[zI p,zI q] 85)) 26 #[.slice A n cap];simp only [World.size_alloc] at this;exact this.alloc _
 have kB2:af W0 (s+5) 26 #[.slice (some ⟨s+3,0,none⟩) 1 1]:=by
  rw [<-hW0,<-hs];have:=af.new (((((w.alloc (.cells #[zI p,zI q] 85)).alloc (.cells #[zN] 26)).alloc (.cells #[zI p] 3)).alloc (.cells #[zI p,zI q] 85)).alloc (.cells #[.slice A n cap] 26)) 26 #[.slice (some ⟨w.heap.size+1+1+1,0,none⟩) 1 1];simp only [World.size_alloc] at this;exact this
 have hB0:Below s w W0:=by
  rw [<-hW0,<-hs];exact (((((aQ w _).alloc zs _).alloc (by simp;omega) _).alloc (by simp;omega) _).alloc (by simp;omega) _).alloc (by simp;omega) _
 simp only [hs] at hW0 hr ⊢;simp only [Nat.add_assoc,Nat.reduceAdd] at hW0 ⊢;rw [hW0];clear hW0;have hxs:(az us [(p,q)]).length<=512:=(hu.common (Can.one hv)).len;have hvl:=(hu.common (Can.one hv)).1;have hp0:0<=p/\p<=1024:=by have:=av.1 hv;simp only at this;omega
 have hseq:=xD A (some ⟨s+3,0,none⟩) n cap 1 1 us [(p,q)] (s+4) (s+5) (s+6) (λk=>k<s\/k=s+3\/k=s+4\/k=s+5) W0 zo zo zo kB1 kB2
  ⟨hn,hm,hc,(hr.below hB0).more zo,λh0 b o e=>by
   obtain ⟨b',o',e',hb,_⟩:=hr 0 (by cases us;exact absurd rfl h0;simp);rw [e] at e';obtain ⟨rfl,rfl⟩:b=b'/\o=o':=by simpa using e'
   exact ⟨.inl hb,zo,zo⟩,hu.1⟩
  ⟨rfl,Nat.le_refl _,zo,(QW kS).more zo,λ_ b o e=>(by cases e;exact ⟨zo,zo,zo⟩),by simpa using hv⟩
 refine Il (gf:=179) (lb:=#[zP (s+4),zP (s+5)]) rfl tO hseq (λ_=>rfl) (λk h=>by omega) (λk h=>by omega)
  (λpre W=>wF W (s+1) 26 85 (W0.heap.size+2) (jr p pre).1/\af W (s+2) 3 #[zI (jr p pre).2]/\af W s 85 #[zI p,zI q]/\Below s w W) (λ_ _ _=>False)
  (λpre A B h hf=>⟨h.1.far hf zo (λg hg=>by omega),hf.blk h.2.1 zo,hf.blk h.2.2.1 zo,h.2.2.2.trans (hf.below (Nat.le_trans zo h.2.2.2.size) (λk hk=>by omega))⟩)
  (λ_ _ _ _ h _=>h.elim) ⟨⟨_,kO,World.ownsRow_nil _ _ _ _,by simp [jr]⟩,kN,kI,hB0⟩
  (λN x a' W=>∃Bx,N<=Bx/\W0.heap.size+2<=Bx/\af W Bx 85 #[zI x.1,zI x.2]/\a'={ tmps:=#[.slice A n cap,.agg #[zI p,zI q],undef,.pointer (some ⟨s,0,none⟩),.slice none 0 0,.pointer (some ⟨s+1,0,none⟩),.pointer (some ⟨s+2,0,none⟩),.pointer (some ⟨Bx,0,none⟩),.pointer (some ⟨s,0,none⟩),zI p,.slice A n cap,.agg #[zI p,zI q],.slice (some ⟨s+3,0,none⟩) 1 1,.func (.func 179) #[] #[.pointer (some ⟨s+4,0,none⟩),.pointer (some ⟨s+5,0,none⟩)],.agg #[zI x.1,zI x.2],undef,undef,undef,undef,undef,undef,undef,undef,undef,undef,undef,undef,undef,undef,undef,undef,undef,undef,undef,undef,undef,undef,undef,undef,undef,undef,undef,undef,undef],defers:=[] })
  (λN x a' A B ⟨Bx,h0,h1,h2,h3⟩ hf=>⟨Bx,h0,h1,hf.blk h2 zo,h3⟩) ?assign ?body ?done ?stop
 case assign =>
  intro m l x W C hs hC
  gi_wp2
  exact hC _ _ ((ag.refl _ W).alloc _) ⟨W.heap.size,Nat.le_refl _,hs,af.new _ _ _,rfl⟩
 case body =>
  rintro m l pre x a' Wa W hsz ⟨_,kN,kI,hB⟩ ⟨Bx,hBa,hBx,kx,rfl⟩ hpre ⟨vk,_,_,_⟩ hfa;have kK:=av.1 (hvl x (om hpre zs));have hnx:=Gb pre p hp0 (λy hy=>hvl y (om hpre (by simp [hy])));have hlen:pre.length+1<=512:=by have:=hpre.length_le;simp at this;omega
  have hol:(jr p pre).1.length<=pre.length:=by have:=Cy pre [] p;simpa [jr] using this
  have hgs:=ae (Ga p pre x);generalize jr p pre=st at *;obtain ⟨out,nx⟩:=st;obtain ⟨xa,xb⟩:=x;dsimp only at vk kN kx kK hnx hol hgs ⊢;obtain ⟨v,hv1,hrow,hnil⟩:=vk.ex;have aol:v.ownBlock≠some Bx:=λe=>by have:=(hrow.lt _ e).2;omega
  have wH:∀g,v.ownBlock=some g->W0.heap.size+2<=g:=λg e=>(hrow.lt _ e).1
  replace hv1:=hfa.blk hv1 zo;replace hrow:=aN hrow hfa (λg e=>by have:=wH g e;omega);obtain ⟨cx,cv,cn⟩:=mM kx hv1 kN;obtain ⟨fv,fn_⟩:=tu hv1 kN;have kW:=af.new W 85 #[zI nx,zI (xa - nx)];by_cases hgt:nx<xa
  ·have aom:=bU hgt
   have hG:Hid (jr p (pre++[(xa,xb)])=(out++[(nx,xa - nx)],xa+xb)):=ae (by rw [hgs.out,QZ,if_pos hgt]);clear hgs hgt
   gi_wp2_with (first
    | (gi_at_builtin;refine wpListIn_append_own _ rfl (.tmp 19) (.tmp 26) 26 rfl (W0.heap.size+2) 85 i0 (.agg #[zI 0,zI 0]) 2 16 underlying26 hi hz0 hz1 hz2 rfl zd v out.length (ax out) rfl (hrow.alloc _) ⟨W.heap.size,0,none⟩ 1 1 [zI nx,zI (xa - nx)] rfl rfl (jW kW) jm (by unfold maxLen;omega) zo (by simp;omega) ?_;intro v' w1 hown' hgrow _;rw [<-eZ out (nx,xa - nx)] at hown';obtain ⟨hv2,hb2,hf2⟩:=wF.appended hv1 zd hrow hown' zs zs hgrow;obtain ⟨A',cap',rfl⟩:=fF hown' zs;have cv1:=hv2.cell;have fv1:=hv2.frozen;have hf3:=hf2 (λk=>k=s+1\/v.ownBlock=some k) (.inl rfl) (λg e=>.inr e);have ZU:=hf3.blk kN (by rintro (h|h);omega;have:=wH _ h;omega);have gY:=hf3.blk kx (by rintro (h|h);omega;exact aol h);have kI2:=hf3.blk kI (by rintro (h|h);omega;have:=wH _ h;omega);have cn2:=ZU.cell;have U3:=gY.cell)
    | (gi_at_call 90;refine (CallsIn.inRound l (callsIn_wide.2 (iJ _ _ _ zo zo))).mono ?_;rintro e w3 ⟨rfl,hq3⟩;have OJ:=ZU.call hq3;have cn3:=OJ.cell;have fn3:=OJ.frozen))
   have kI3:=kI2.call hq3;have hb3:=hb2.far (.of_below hq3:ag (λ_=>False) _ _) id (λ_ _ h=>h);have rD:ag (λk=>k=s+2) w3 (w3.setCell ⟨s+2,0,none⟩ (zI (xa+xb))):=ag.setCell (T:=λk=>k=s+2) (p:=⟨s+2,0,none⟩) (ag.refl _ _) (λ_=>rfl) _;have Bi:ag (λk=>k=s+1\/k=s+2\/v.ownBlock=some k) W (w3.setCell ⟨s+2,0,none⟩ (zI (xa+xb))):=(ag.call (hf3.mono λk _ h=>by rcases h with h|h;exact .inl h;exact .inr (.inr h)) hq3).trans (rD.mono λk _ h=>.inr (.inl h));show ag _ _ _/\(wF _ _ _ _ _ (jr p (pre++[(xa,xb)])).1/\af _ _ _ #[zI (jr p (pre++[(xa,xb)])).2]/\_/\_);rw [hG.out];refine ⟨Bi.mono λk _ h=>?_,hb3.far rD zo (λg hg=>by omega),OJ.aM 0 _,rD.blk kI3 zo,hB.trans (Bi.below (by have:=hB.size;omega) (λk hk=>?_))⟩
   ·rcases h with h|h|h
    ·omega
    ·omega
    ·have:=wH k h;omega
   ·rintro (h|h|h)
    ·omega
    ·omega
    ·have:=wH k h;omega
  ·have aom:=bV hgt
   have hG:Hid (jr p (pre++[(xa,xb)])=(out,xa+xb)):=ae (by rw [hgs.out,QZ,if_neg hgt]);clear hgs hgt
   gi_wp2_with (gi_at_call 90;refine (CallsIn.inRound l (callsIn_wide.2 (iJ _ _ _ zo zo))).mono ?_;rintro e w3 ⟨rfl,hq3⟩;have OJ:=kN.call hq3;have cn3:=OJ.cell;have fn3:=OJ.frozen)
   have kI3:=kI.call hq3;have hb2:wF W (s+1) 26 85 (W0.heap.size+2) out:=⟨v,hv1,hrow,hnil⟩;have hb3:=hb2.far (.of_below hq3:ag (λ_=>False) _ _) id (λ_ _ h=>h);have rD:ag (λk=>k=s+2) w3 (w3.setCell ⟨s+2,0,none⟩ (zI (xa+xb))):=ag.setCell (T:=λk=>k=s+2) (p:=⟨s+2,0,none⟩) (ag.refl _ _) (λ_=>rfl) _;have Bi:ag (λk=>k=s+2) W (w3.setCell ⟨s+2,0,none⟩ (zI (xa+xb))):=(ag.of_below hq3).trans rD;show ag _ _ _/\(wF _ _ _ _ _ (jr p (pre++[(xa,xb)])).1/\af _ _ _ #[zI (jr p (pre++[(xa,xb)])).2]/\_/\_);rw [hG.out];refine ⟨Bi.mono λk _ h=>by omega,hb3.far rD zo (λg hg=>by omega),OJ.aM 0 _,rD.blk kI3 zo,hB.trans (Bi.below (by have:=hB.size;omega) (λk hk=>by omega))⟩
 case done =>
  rintro W hsz ⟨vk,kN,kI,hB⟩ hd;rw [hs0] at hd vk hsz;have hfin:=ae (Q4 (az us [(p,q)]) p (p+q));have hnx:=Gb (az us [(p,q)]) p hp0 (λy hy=>hvl y hy);have hol:(jr p (az us [(p,q)])).1.length<=512:=by have:=Cy (az us [(p,q)]) [] p;simp only [List.length_nil] at this;unfold jr;omega
  have hq0 : -100000<=q/\q<=100000:=by have:=av.1 hv;simp only at this;omega
  have hq1:0<=p+q/\p+q<=1024:=by have:=av.1 hv;simp only at this;omega
  have hgf:Hid (Q0 (jr p (az us [(p,q)])) (p+q)=L):=ae (by rw [hfin.out];exact hL.out);clear hfin;generalize jr p (az us [(p,q)])=st at *;obtain ⟨out,nx⟩:=st;dsimp only at vk kN hnx hol;obtain ⟨v,hv1,hrow,hnil⟩:=vk.ex;have wH:∀g,v.ownBlock=some g->s+6+2<=g:=λg e=>(hrow.lt _ e).1
  have HE:Hid (∀z:Ext W,Calls prog 90 #[.agg #[zI p,zI q]] z.w λe w''=>e= .returned (zI (p+q))/\∃t:Ext W,w''=t.w):=ae (λz=>Ext.call (iJ p q _ zo hq0));have e1:=λz:Ext W=>(z.blk kN).cell
  have e2:=λz:Ext W=>(z.blk kI).cell
  by_cases hlt:nx<p+q
  ·have hlt':=bU hlt
   have hE:Hid (L=out++[(nx,p+q - nx)]):=ae (by rw [<-hgf.out,Q0,if_pos hlt]);go_upto_region 8 with fail
   refine aD zk zk ?_
   repeat (go_big_quiet_step ((go_at_call 90;exact HE.out _)))
   refine wpQuiet_nil ?_;rintro w2 ⟨⟨_,hw2⟩,rfl⟩;clear e1 e2 HE hgf;obtain ⟨ZU,kI2,hv2⟩:=mY hw2 kN kI hv1;have hrow2:=aI hrow hw2;have hd2:w2.heap[s+6]? = some (.deferred (some [])):=(ag.of_below (T:=λ_=>False) hw2).same hd id;have hB2:=hB.trans (hw2.mono (by have:=hB.size;omega));have hS0:Ni s p q nx v w2:=⟨kI2.cell 0,kI2.cell 1,ZU.cell 0,hv2.cell 0⟩;have HEW:=ae (λW=>iJ p q W zo hq0);have hsz2:s+6+2<=w2.heap.size:=Nat.le_trans hsz hw2.size;go_upto_region 9 with fail
   refine bT ?_;refine bM (Ni s p q nx v) [9] zk ?_;have hS:Ni s p q nx v w2.drew:=hS0;refine aW 0 hS ?_;refine aW 1 hS ?_;refine aW 2 hS ?_;refine aW 4 hS ?_;refine gD 3 λK hK=>?_
   go_simp;refine (HEW.out _).zr λw3 hq3=>?_
   have Gc:Below w2.heap.size w2 w3:=(Below.refl _ w2).drew.trans hq3;refine hK.out _ _ (λ_=>hS0.later Gc zo) (λhS=>?_);clear hK K;replace hS:=hS rfl;try simp only [Act.put,iE,iF,iG]
   refine aW 5 hS ?_;rw [IntWalk.i64_in (p+q - nx) zo];refine aW 6 hS ?_;refine gD 7 λK hK=>?_
   go_simp;have hq4:=Gc.alloc Gc.size (.cells #[zI nx,zI (p+q - nx)] 85);refine hK.out _ _ (λ_=>hS0.later hq4 zo) (λhS=>?_);clear hK K;replace hS:=hS rfl;have kW:=af.new w3 85 #[zI nx,zI (p+q - nx)];have hv3:=hv2.call Gc;have hrow3:=aI hrow2 Gc;have hs3:s+6+2<=w3.heap.size:=Nat.le_trans hsz2 Gc.size;try simp only [Act.put,iE,iF,iG]
   refine gD 8 λK hK=>?_
   rw [if_pos (by simp [Region.wanted])];refine wp_append_own _ (.tmp 34) (.tmp 41) 26 rfl (s+6+2) 85 i0 (.agg #[zI 0,zI 0]) 2 16 underlying26 hi hz0 hz1 hz2 rfl zd v out.length (ax out) rfl (hrow3.alloc _) ⟨w3.heap.size,0,none⟩ 1 1 [zI nx,zI (p+q - nx)] rfl rfl (jW kW) jm (by unfold maxLen;omega) zo (by simp;omega) ?_;intro v' w4 hown' hgrow _;rw [<-eZ out (nx,p+q - nx)] at hown';obtain ⟨hv4,hb4,rD⟩:=wF.appended hv3 zd hrow3 hown' zs zs hgrow;obtain ⟨A',cap',rfl⟩:=fF hown' zs;have cv4:=hv4.cell;have fv4:=hv4.frozen;have yH:Below (s+6+2) w2 w4:=(hq4.mono hsz2).grown hgrow (by simp;omega) (λj hj=>wH j hj);refine hK.out _ _ (λ_=>hS0.later yH zo) (λhS=>?_);clear hK K;replace hS:=hS rfl;try simp only [Act.put,iE,iF,iG]
   refine gD 9 λK hK=>?_
   go_simp;refine hK.out _ _ (λh=>absurd h zd) (λ_=>?_);clear hK K;refine bE zk ?_ _;refine aS ?_;obtain ⟨v5,k5,EK,_⟩:=hb4.ex;have Bi:=rD (λk=>k=s+1\/v.ownBlock=some k) (.inl rfl) (λg e=>.inr e);have hB3:=hB2.trans (Gc.mono (by have:=hB2.size;have:=hB.size;omega));generalize w4.setCell ⟨s+1,0,none⟩ (.slice A' (out.length+1) cap')=w5 at *;have hd5:w5.heap[s+6]? = some (.deferred (some [])):=Bi.same ((ag.of_below (T:=λ_=>False) Gc).same hd2 id) (by rintro (h|h);omega;have:=wH _ h;omega);have Va:=hB3.trans (Bi.below (by have:=hB3.size;have:=hB.size;omega) (λk hk=>by rintro (h|h);omega;have:=wH _ h;omega));have c5:=k5.cell;obtain ⟨A5,cap5,rfl⟩:=fF EK rfl;clear hv4 hb4 rD cv4 fv4 hown' hgrow;go_wp2_with fail;rw [hE.out];have hfp:ag (λk=>k=s+6) w5 (w5.putObj (s+6) (.deferred none)):=ag.putObj (T:=λk=>k=s+6) (ag.refl _ _) (λ_=>rfl) _;have ab8:=aN EK hfp (λg hg h=>by have:=(EK.lt g hg).1;omega);obtain ⟨A6,cap6,he,dR,h1,h2,h3,_⟩:=lQ ab8 rfl;cases he;exact dF (v:=.slice A5 (out++[(nx,p+q - nx)]).length cap5) hd5 (by simp [results,results133,go_sem]) ⟨A5,cap5,rfl,dR,h1,h2,λb o e=>by have:=h3 b o e;omega,by rw [hs];exact Va.trans (hfp.below (by have:=Va.size;omega) (λk hk=>by omega)),IB ab8⟩
  ·have hlt':=bV hlt
   have hE:Hid (L=out):=ae (by rw [<-hgf.out,Q0,if_neg hlt,List.append_nil]);go_upto_region 8 with fail
   refine aD zk zk ?_
   repeat (go_big_quiet_step ((go_at_call 90;exact HE.out _)))
   refine wpQuiet_nil ?_;rintro w2 ⟨⟨_,hw2⟩,rfl⟩;have hv2:=hv1.call hw2;have hrow2:=aI hrow hw2;have hd2:w2.heap[s+6]? = some (.deferred (some [])):=(ag.of_below (T:=λ_=>False) hw2).same hd id;have hB2:=hB.trans (hw2.mono (by have:=hB.size;omega));have cv:=hv2.cell;obtain ⟨A',cap',rfl⟩:=fF hrow2 rfl;go_wp2_with fail;rw [hE.out];have hfp:ag (λk=>k=s+6) w2 (w2.putObj (s+6) (.deferred none)):=ag.putObj (T:=λk=>k=s+6) (ag.refl _ _) (λ_=>rfl) _;have hrow3:=aN hrow2 hfp (λg hg h=>by have:=(hrow2.lt g hg).1;omega);obtain ⟨A2,cap2,he,dR,h1,h2,h3,_⟩:=lQ hrow3 rfl;cases he;exact dF (v:=.slice A' out.length cap') hd2 (by simp [results,results133,go_sem]) ⟨A',cap',rfl,dR,h1,h2,λb o e=>by have:=h3 b o e;omega,hB2.trans (hfp.below (by have:=hB2.size;omega) (λk hk=>by omega)),IB hrow3⟩
 case stop=>exact λ_ _ _ _ _ h _=>h.elim
theorem Nk (A:Option Addr) (n cap:Nat) (us:List Sp) (p q:Int) (w:World) (hn:us.length=n) (hm:n<=cap) (hc:cap<=maxLen) (hr:RU w w.heap.size A us) (hu:Go.Pol.Can us) (hv:bF (p,q)=true) :
  Calls prog 133 #[.slice A n cap,.agg #[zI p,zI q]] w λe w'=>∃(A':Option Addr) (cap':Nat),e= .returned (.slice A' (aZ us (p,q)).length cap')/\RU w' w'.heap.size A' (aZ us (p,q))/\(aZ us (p,q)).length<=cap'/\cap'<=maxLen/\(∀b o,A'=some ⟨b,o,none⟩->w.heap.size<=b)/\Below w.heap.size w w':=by
 refine (Nj A n cap us p q w hn hm hc hr hu hv).mono ?_;rintro e w' ⟨A',cap',h1,h2,h3,h4,h5,h6,_⟩;exact ⟨A',cap',h1,h2,h3,h4,h5,h6⟩
def sW (w:World) (us:List Sp) (er:Int) (e:Ending) (w':World):Prop :=
 ∃(A:Option Addr) (cap:Nat),e= .returned (.tuple #[.slice A us.length cap,zI er])/\RU w' w'.heap.size A us/\us.length<=cap/\cap<=maxLen/\(∀b o,A=some ⟨b,o,none⟩->w.heap.size<=b)/\Below w.heap.size w w'/\(A=none->cap=0)
theorem Vb {P:Prop} (h:P:=by
 go_ret2;exact ⟨none,0,rfl,RU.nil,zs,by unfold maxLen;omega,λb o e=>(by cases e),hb1,λ_=>rfl⟩):P:=h
theorem ab9 (A:Option Addr) (n cap:Nat) (us:List Sp) (p q:Int) (w:World) (hn:us.length=n) (hm:n<=cap) (hc:cap<=maxLen) (hr:RU w w.heap.size A us) :
  Calls prog 202 #[.slice A n cap,.agg #[zI p,zI q]] w (sW w (if jR us (p,q)=0 then aZ us (p,q) else []) (jR us (p,q))):=by
 have HA:=ae (λW h=>QS A n cap us p q W hn (Nat.le_trans hm hc) h);have hb0:=aQ w (.cells #[zI p,zI q] 85);have k0:=af.new w 85 #[zI p,zI q];have hr0:RU _ _ A us:=(hr.below hb0).more hb0.size;by_cases h0:jR us (p,q)=0
 ·have h0':=h0
  unfold jR at h0';have Cz:Go.Pol.Can us:=by
   by_cases hz:eG us=0
   ·exact bI.1 hz
   ·rw [if_neg hz] at h0';exact absurd h0' hz
  have hv:bF (p,q)=true:=by
   rw [if_pos (bI.2 Cz)] at h0';by_cases hz:bF (p,q)=true
   ·exact hz
   ·rw [if_neg hz] at h0';cases h0'
  clear h0';rw [h0] at HA ⊢;rw [if_pos rfl];have HG:=ae (λW h=>Nj A n cap us p q W hn hm hc h Cz hv);obtain ⟨L,hL0⟩:=ah (aZ us (p,q));rw [hL0] at HG ⊢;clear hL0 h0;go_enter func202,ntmps202
  go_wp2_with (first
   | (go_at_call 132;refine (HA.out _ hr0).mono ?_;rintro e w1 ⟨rfl,hq⟩;have k1:=k0.call hq;have c1:=k1.cell;have hb1:=hb0.zt hq;have hr1:RU _ _ A us:=(hr0.below hq).more hq.size)
   | (go_at_call 133;refine (HG.out _ hr1).mono ?_;rintro e w2 ⟨A',cap',rfl,dR,h1,h2,h3,hq2,h4⟩))
  go_ret2;exact ⟨A',cap',rfl,dR,h1,h2,λb o e=>by have:=h3 b o e;have:=hb1.size;omega,hb1.zt hq2,h4⟩
 ·rw [if_neg h0]
  generalize jR us (p,q)=er at *;have hc':(er != 0)=true:=by simpa using h0
  clear h0;go_enter func202,ntmps202
  go_wp2_with (go_at_call 132;refine (HA.out _ hr0).mono ?_;rintro e w1 ⟨rfl,hq⟩;have hb1:=hb0.zt hq)
  exact Vb
def eY (pg n f b ev:Int):List Sp:=if bQ pg n f b ev=0 then aZ (ay pg n f b ev) (pg,n) else []
theorem ZV {pg n f b ev:Int} (hp:dO pg n f b ev):jR (ay pg n f b ev) (pg,n)=0:=by
 rw [jR,if_pos (bI.2 (bN hp)),if_pos (av.2 ⟨hp.Cv,hp.pg1,hp.n0,hp.n1⟩)]
theorem Q5 (pg n f b ev:Int) (w:World) :
  Calls prog 175 #[ek pg n f b ev] w (sW w (eY pg n f b ev) (bQ pg n f b ev)):=by
 have HU:=ae (λW=>QY pg n f b ev W);have hb0:=aQ w (.cells (bg pg n f b ev) 25);have k0:=af.new w 25 (bg pg n f b ev);have c0:=k0.cell;unfold eY;by_cases hc:bQ pg n f b ev=0
 ·have hp:=bR.1 hc
  have ha:=ZV hp;rw [hc,if_pos rfl] at HU;rw [hc,if_pos rfl];have HN:=ae (λA cap W h1 h2 h3=>ab9 A (ay pg n f b ev).length cap (ay pg n f b ev) pg n W rfl h1 h2 h3);rw [ha,if_pos rfl] at HN;clear ha hc hp;generalize aZ (ay pg n f b ev) (pg,n)=G at *;generalize ay pg n f b ev=L at *;go_enter func175,ntmps175
  go_wp2_with (first
   | (go_at_call 55;refine (HU.out _).mono ?_;rintro e w1 ⟨A1,c1,rfl,hr1,hl1,hm1,_,hq⟩;have k1:=k0.call hq;have cc:=k1.cell;have hb1:=hb0.zt hq)
   | (go_at_call 202;refine (HN.out _ _ _ hl1 hm1 hr1).mono ?_;rintro e w2 ⟨A2,c2,rfl,hr2,hl2,hm2,ho2,hq2,hz2⟩))
  go_ret2;exact ⟨A2,c2,rfl,hr2,hl2,hm2,λb o e=>by have:=ho2 b o e;have:=hb1.size;omega,hb1.zt hq2,hz2⟩
 ·rw [if_neg hc] at HU ⊢
  generalize bQ pg n f b ev=er at *;have hc':(er != 0)=true:=by simpa using hc
  clear hc;go_enter func175,ntmps175
  go_wp2_with (go_at_call 55;refine (HU.out _).mono ?_;rintro e w1 ⟨A1,c1,rfl,hr1,hl1,hm1,_,hq⟩;have hb1:=hb0.zt hq)
  exact Vb
theorem Gf {w1:World} {pg n f b ev:Int} (hp:dO pg n f b ev) :
  yR prog 152 #[zP w1.heap.size] ZQ (λ_=>False) (λk=>k=w1.heap.size) (ay pg n f b ev) (w1.alloc (.cells (bg pg n f b ev) 25)) :=
 Cw pg n f b ev w1.heap.size _ hp (af.new w1 25 (bg pg n f b ev))
def ais (s:Nat) (n sm:Int) (w:World):Prop:=w.cell? ⟨s+1,0,none⟩=some (zI sm)/\w.cell? ⟨s,1,none⟩=some (zI n)
def lT (pg n f b ev:Int):Int×Int:=if bQ pg n f b ev=0 then (aG (ay pg n f b ev),n - aG (ay pg n f b ev)) else (0,0)
theorem OM {P:Prop} (h:P:=by
 intro m l x W C hC;simp only [List.setIfInBounds_toArray,List.set_cons_succ,List.set_cons_zero] at hC ⊢
 gi_wp2
 exact hC):P:=h
theorem I4 (pg n f b ev:Int) (w:World) :
  zK 25 #[ek pg n f b ev] w (.tuple #[zI (lT pg n f b ev).1,zI (lT pg n f b ev).2,zI (bQ pg n f b ev)]):=by
 have HC:=ae (λW=>vg pg n f b ev W);have HR:=ae (λW=>AP pg n f b ev W);have hb0:=(aQ w (.cells (bg pg n f b ev) 25)).alloc zs (.cells #[zI 0] 3);have kP:=(af.new w 25 (bg pg n f b ev)).alloc (.cells #[zI 0] 3);have kU:=af.new (w.alloc (.cells (bg pg n f b ev) 25)) 3 #[zI 0];rw [World.size_alloc] at kU;obtain ⟨cP,cU⟩:=bB kP kU;have fU:=kU.frozen;unfold lT;by_cases hc:bQ pg n f b ev=0
 ·have hp:=bR.1 hc
  rw [hc] at HC ⊢;rw [if_pos rfl];have HSQ:=ae (λw1=>Gf (w1:=w1) hp);have hvl:=(bN hp).1;have hlen:=(bN hp).len;generalize ay pg n f b ev=L at *;obtain ⟨sm,aca⟩:∃z,aG L=z:=⟨_,rfl⟩;rw [aca];have hSM:=ae aca;clear aca;refine bL func25 rfl ?_;simp only [ntmps25,List.size_toArray,List.length_cons,List.length_nil,Nat.reduceAdd,Nat.reduceSub,Array.replicate_succ,Array.replicate_zero,List.push_toArray,List.append_toArray,List.nil_append,List.cons_append]
  go_wp2_with (first
   | (go_at_call 86;refine (HC.out _).mono ?_;rintro e w1 ⟨rfl,hq⟩;have Vh:=kP.call hq;have Vj:=kU.call hq;have cP1:=Vh.cell;have hb1:=hb0.zt hq)
   | (go_at_call 87;refine (HR.out _).mono ?_;rintro e w2 ⟨rfl,rfl⟩))
  obtain ⟨s,hs⟩:=ah (w.heap.size);rw [hs] at hb0 hb1 Vh Vj ⊢;have hsz1:=hb1.size;obtain ⟨W0,hW0⟩:=ah (w1.alloc (.cells (bg pg n f b ev) 25));have hs0:W0.heap.size=w1.heap.size+1:=by rw [<-hW0];simp
  have kP0:af W0 s 25 (bg pg n f b ev):=by rw [<-hW0];exact Vh.alloc _
  have kU0:af W0 (s+1) 3 #[zI 0]:=by rw [<-hW0];exact Vj.alloc _
  have hB0:Below s w W0:=by rw [<-hW0];exact hb1.alloc zo _
  have hseq:=HSQ.out w1;rw [hW0] at hseq ⊢;clear hW0;have ls1:=Vj.lt;refine QI 6 14 85 (gf:=152) (lb:=#[zP w1.heap.size]) rfl sD hseq rfl (λ_ h=>h.elim) (λk h=>by omega)
   (λpre W=>af W (s+1) 3 #[zI (aG pre)]/\af W s 25 (bg pg n f b ev)/\Below s w W) (λ_ _ _=>False)
   (λpre A B h hf=>⟨hf.blk h.1 (by rintro (h|h|h) <;> omega),hf.blk h.2.1 (by rintro (h|h|h) <;> omega),h.2.2.trans (hf.below (Nat.le_trans zo h.2.2.size) (λk hk=>by rintro (h|h|h) <;> omega))⟩)
   (λ_ _ _ _ h _=>h.elim) ⟨kU0,kP0,hB0⟩ ?assign ?body ?done (λ_ _ _ _ _ h _=>h.elim)
  case assign =>
   exact OM
  case body =>
   rintro m l pre x Bx Wa W hsz ⟨kU,kP,hB⟩ hpre hBx kx _ _ _;simp only [List.setIfInBounds_toArray,List.set_cons_succ,List.set_cons_zero];have kK:=av.1 (hvl x (om hpre zs));have hsb:=iK pre (λy hy=>hvl y (om hpre (by simp [hy])));have hpl:pre.length<=512:=by have:=hpre.length_le;simp at this;omega
   have hsn:=ae (tQ pre x);obtain ⟨xa,xb⟩:=x;dsimp only at kx kK hsn;generalize aG pre=sp at *;obtain ⟨cx,cU⟩:=bB kx kU;have fU:=kU.frozen
   gi_wp2_with fail
   have rD:ag (λk=>k=s+1) W (W.setCell ⟨s+1,0,none⟩ (zI (sp+xb))):=ag.setCell (T:=λk=>k=s+1) (p:=⟨s+1,0,none⟩) (ag.refl _ _) (λ_=>rfl) _;show ag _ _ _/\(af _ _ _ #[zI (aG (pre++[(xa,xb)]))]/\_/\_);rw [hsn.out];exact ⟨rD.mono λk _ h=>by omega,kU.aM 0 _,rD.blk kP zo,hB.trans (rD.below (by have:=hB.size;omega) (λk hk=>by omega))⟩
  case done =>
   rintro W hsz ⟨kU,kP,hB⟩ hd;have hsb:=iK L (λy hy=>hvl y hy);have hn1:=hp.n1;have hn0:=hp.n0;have hp0:=hp.Cv;rw [hSM.out] at hsb kU;rw [hs0] at hd hsz;go_upto_region 7 with fail
   refine bT ?_;refine bM (ais s n sm) [] zk ?_;have hS:ais s n sm W.drew:=⟨kU.cell 0,kP.cell 1⟩;refine aW 0 hS ?_;refine aW 1 hS ?_;refine aW 2 hS ?_;refine aW 3 hS ?_;refine aW 4 hS ?_;rw [IntWalk.i64_in (n - sm) zo];refine gD 5 λK hK=>?_
   have kUd:=kU.drew;have cU:=kUd.cell;have fU:=kUd.frozen;go_simp;have Bi:ag (λk=>k=s+1) W (W.setCell ⟨s+1,0,none⟩ (zI sm)).drew:=ag.drew (ag.setCell (T:=λk=>k=s+1) (p:=⟨s+1,0,none⟩) (ag.refl _ _) (λ_=>rfl) _);have kU5:af (W.setCell ⟨s+1,0,none⟩ (zI sm)).drew (s+1) 3 #[zI sm]:=(kU.aM 0 (zI sm)).drew;have kP5:=Bi.blk kP zo;refine hK.out _ _ (λ_=>⟨kU5.cell 0,kP5.cell 1⟩) (λhS=>?_);clear hK K;replace hS:=hS rfl;have hd5:=Bi.same hd zo;have Va:=hB.trans (Bi.below (by have:=hB.size;omega) (λk hk=>by omega));generalize (W.setCell ⟨s+1,0,none⟩ (zI sm)).drew=w5 at *;try simp only [Act.put,iE,iF,iG]
   refine aW 6 hS ?_;refine aW 7 hS ?_;refine bE zk ?_ _;refine aS ?_;have c5:=kU5.cell;go_wp2_with fail;have hfp:ag (λk=>k=w1.heap.size+1) w5 (w5.putObj (w1.heap.size+1) (.deferred none)):=ag.putObj (T:=λk=>k=w1.heap.size+1) (ag.refl _ _) (λ_=>rfl) _;have kU6:=hfp.blk kU5 zo;have c6:=kU6.cell;exact dF (v:=.tuple #[zI sm,zI (n - sm),zI 0]) hd5 (by simp [results,results25,go_sem,c6]) ⟨rfl,(by rw [hs];exact (Va).trans (hfp.below (by have:=(Va).size;omega) (λk hk=>by omega)))⟩
 ·rw [if_neg hc]
  generalize bQ pg n f b ev=er at *;have hc':(er != 0)=true:=by simpa using hc
  clear hc;refine bL func25 rfl ?_;simp only [ntmps25,List.size_toArray,List.length_cons,List.length_nil,Nat.reduceAdd,Nat.reduceSub,Array.replicate_succ,Array.replicate_zero,List.push_toArray,List.append_toArray,List.nil_append,List.cons_append]
  go_wp2_with (go_at_call 86;refine (HC.out _).mono ?_;rintro e w1 ⟨rfl,hq⟩;have Vj:=kU.call hq;have cU1:=Vj.cell;have fU1:=Vj.frozen;have hb1:=hb0.zt hq)
  have kU2:=Vj.aM 0 (zI 0);have cU2:=kU2.cell;exact iH (v:=.tuple #[zI 0,zI 0,zI er]) (by simp [results,results25,go_sem,cU2]) ⟨rfl,hb1.setCell (p:=⟨w.heap.size+1,0,none⟩) zs _⟩
theorem ait {P:Prop} (h:P:=by
 obtain ⟨cO,cE⟩:=bB kO kE;obtain ⟨fO,fE⟩:=tu kO kE;go_wp2_with fail;obtain ⟨k2,k3,hf2⟩:=IC zo kO kE (zI 0) (zI 7);have hd2:=hf2.same hd zo;have hB2:=hB.trans (hf2.below (by have:=hB.size;omega) (λk hk=>by omega));generalize ((W.setCell ⟨s+2,0,none⟩ (zI 0)).setCell ⟨s+3,0,none⟩ (zI 7))=w5 at *;rw [hs0];have hfp:ag (λk=>k=w1.heap.size+1) w5 (World.putObj w5 (w1.heap.size+1) (.deferred none)):=ag.putObj (T:=λk=>k=w1.heap.size+1) (ag.refl _ _) (λ_=>rfl) _;have c6:=(hfp.blk k2 zo).cell;have c7:=(hfp.blk k3 zo).cell;exact dF (v:=.tuple #[zI (((0:Int),(7:Int))).1,zI (((0:Int),(7:Int))).2]) hd2 (by simp [results,results79,go_sem,c6,c7]) ⟨by rw [hE.out],(by rw [hs];exact (hB2).trans (hfp.below (by have:=(hB2).size;omega) (λk hk=>by omega)))⟩):P:=h
theorem acb (pg n f b ev i:Int) (w:World) (hi0 : -9223372036854775808<=i) (hi1:i<=9223372036854775807) (R:Int×Int) (hR:(if bQ pg n f b ev=0 then lS (ay pg n f b ev) i else (0,bQ pg n f b ev))=R) :
  zK 79 #[ek pg n f b ev,zI i] w (.tuple #[zI R.1,zI R.2]):=by
 have HC:=ae (λW=>vg pg n f b ev W);have HR:=ae (λW=>AP pg n f b ev W);obtain ⟨s,hs⟩:=ah (w.heap.size);obtain ⟨Wb,EL⟩:=ah ((((w.alloc (.cells (bg pg n f b ev) 25)).alloc (.cells #[zI i] 3)).alloc (.cells #[zI 0] 3)).alloc (.cells #[zI 0] 37));have hb0:Below s w Wb:=by rw [<-EL,<-hs];exact (((aQ w _).alloc zs _).alloc (by simp;omega) _).alloc (by simp;omega) _
 have kP:af Wb s 25 (bg pg n f b ev):=by rw [<-EL,<-hs];exact (((af.new _ _ _).alloc _).alloc _).alloc _
 have kI:af Wb (s+1) 3 #[zI i]:=by
  rw [<-EL,<-hs];have:=af.new (w.alloc (.cells (bg pg n f b ev) 25)) 3 #[zI i];rw [World.size_alloc] at this;exact (this.alloc _).alloc _
 have kO:af Wb (s+2) 3 #[zI 0]:=by
  rw [<-EL,<-hs];have:=af.new ((w.alloc (.cells (bg pg n f b ev) 25)).alloc (.cells #[zI i] 3)) 3 #[zI 0];simp only [World.size_alloc] at this;exact this.alloc _
 have kE:af Wb (s+3) 37 #[zI 0]:=by
  rw [<-EL,<-hs];have:=af.new (((w.alloc (.cells (bg pg n f b ev) 25)).alloc (.cells #[zI i] 3)).alloc (.cells #[zI 0] 3)) 37 #[zI 0];simp only [World.size_alloc] at this;exact this
 have hW1:Hid ((((w.alloc (.cells (bg pg n f b ev) 25)).alloc (.cells #[zI i] 3)).alloc (.cells #[zI 0] 3)).alloc (.cells #[zI 0] 37)=Wb):=ae EL;clear EL;have HR1:=ae hR;clear hR;by_cases hc:bQ pg n f b ev=0
 case neg =>
  rw [if_neg hc] at HR1;generalize bQ pg n f b ev=er at *;have hc':(er != 0)=true:=by simpa using hc
  have hE1:Hid (R=(0,er)):=ae HR1.out.symm;clear hc HR1;have cP:=kP.cell;refine bL func79 rfl ?_;simp only [ntmps79,List.size_toArray,List.length_cons,List.length_nil,Nat.reduceAdd,Nat.reduceSub,Array.replicate_succ,Array.replicate_zero,List.push_toArray,List.append_toArray,List.nil_append,List.cons_append];go_upto_region 1 with fail
  simp only [Nat.add_assoc,Nat.reduceAdd];rw [hW1.out]
  go_wp2_with (go_at_call 86;refine (HC.out _).mono ?_;rintro e w1 ⟨rfl,hq⟩;have kO1:=kO.call hq;have ZW:=kE.call hq;have cO1:=kO1.cell;have fO1:=kO1.frozen;have cE1:=ZW.cell;have fE1:=ZW.frozen;have hb1:=hb0.trans (hq.mono (by have:=hb0.size;omega)))
  obtain ⟨k2,k3,hf2⟩:=IC zo kO1 ZW (zI 0) (zI er);obtain ⟨c2,c3⟩:=bB k2 k3;exact iH (v:=.tuple #[zI 0,zI er]) (by simp [results,results79,go_sem,c2,c3]) ⟨by rw [hE1.out],by rw [hs];exact hb1.trans (hf2.below (by have:=hb1.size;omega) (λk hk=>by omega))⟩
 case pos =>
  have hp:=bR.1 hc;rw [hc] at HC;rw [if_pos hc] at HR1;have HSQ:=ae (λw1=>Gf (w1:=w1) hp);have hvl:=(bN hp).1;have hlen:=(bN hp).len;clear hc;generalize ay pg n f b ev=L at *;have cP:=kP.cell;refine bL func79 rfl ?_;simp only [ntmps79,List.size_toArray,List.length_cons,List.length_nil,Nat.reduceAdd,Nat.reduceSub,Array.replicate_succ,Array.replicate_zero,List.push_toArray,List.append_toArray,List.nil_append,List.cons_append];go_upto_region 1 with fail
  simp only [Nat.add_assoc,Nat.reduceAdd];rw [hW1.out]
  go_wp2_with (first
   | (go_at_call 86;refine (HC.out _).mono ?_;rintro e w1 ⟨rfl,hq⟩;have Vh:=kP.call hq;have kI1:=kI.call hq;have kO1:=kO.call hq;have ZW:=kE.call hq;have cP1:=Vh.cell;have hb1:=hb0.trans (hq.mono (by have:=hb0.size;omega)))
   | (go_at_call 87;refine (HR.out _).mono ?_;rintro e w2 ⟨rfl,rfl⟩))
  obtain ⟨W0,hW0⟩:=ah (w1.alloc (.cells (bg pg n f b ev) 25));have hs0:W0.heap.size=w1.heap.size+1:=by rw [<-hW0];simp
  have hB0:Below s w W0:=by rw [<-hW0];exact hb1.alloc (by have:=hb1.size;omega) _
  have IY:ag (λ_=>False) w1 W0:=by rw [<-hW0];exact (ag.refl _ _).alloc _
  have hseq:=HSQ.out w1;rw [hW0] at hseq ⊢;clear hW0;have kI0:=IY.blk kI1 id;have kO0:=IY.blk kO1 id;have kE0:=IY.blk ZW id;have ls1:=ZW.lt;have aop:=hb1.size;refine QI 7 15 85 (gf:=152) (lb:=#[zP w1.heap.size]) rfl sD hseq rfl (λ_ h=>h.elim) (λk h=>by omega)
   (λpre W=>af W (s+1) 3 #[zI (i - aG pre)]/\af W (s+2) 3 #[zI 0]/\af W (s+3) 37 #[zI 0]/\Below s w W/\Hid ((pre≠[]->0<=i - aG pre)/\∀rest,L=pre++rest->lS L i=lS rest (i - aG pre)))
   (λc pre W=>((c= .ret/\af W (s+2) 3 #[zI R.1]/\af W (s+3) 37 #[zI R.2])\/(c= .exit 0/\af W (s+2) 3 #[zI 0]/\af W (s+3) 37 #[zI 0]/\Hid (R=(0,7))))/\Below s w W)
   (λpre A B h hf=>⟨hf.blk h.1 (by rintro (h|h|h) <;> omega),hf.blk h.2.1 (by rintro (h|h|h) <;> omega),hf.blk h.2.2.1 (by rintro (h|h|h) <;> omega),h.2.2.2.1.trans (hf.below (Nat.le_trans zo h.2.2.2.1.size) (λk hk=>by rintro (h|h|h) <;> omega)),h.2.2.2.2⟩)
   (λc pre A B h hf=>⟨h.1.imp (λh=>⟨h.1,hf.blk h.2.1 (by rintro (h|h|h) <;> omega),hf.blk h.2.2 (by rintro (h|h|h) <;> omega)⟩) (λh=>⟨h.1,hf.blk h.2.1 (by rintro (h|h|h) <;> omega),hf.blk h.2.2.1 (by rintro (h|h|h) <;> omega),h.2.2.2⟩),h.2.trans (hf.below (Nat.le_trans zo h.2.size) (λk hk=>by rintro (h|h|h) <;> omega))⟩)
   ⟨by simpa [aG] using kI0,kO0,kE0,hB0,ae ⟨λh=>absurd rfl h,λrest h=>by rw [h];simp [aG]⟩⟩ ?assign ?body ?done ?stop
  case assign =>
   exact OM
  case body =>
   rintro m l pre x Bx Wa W hsz ⟨kI,kO,kE,hB,hH⟩ hpre hBx kx _ _ _;simp only [List.setIfInBounds_toArray,List.set_cons_succ,List.set_cons_zero];have kK:=av.1 (hvl x (om hpre zs));have hsb:=iK pre (λy hy=>hvl y (om hpre (by simp [hy])));have hpl:pre.length<=512:=by have:=hpre.length_le;simp at this;omega
   have hsn:=ae (tQ pre x);obtain ⟨rest,hrest⟩:=OL hpre;have hN:=ae (hH.out.2 _ hrest);have hN':=hN;have hL1:=ae hrest;have hv0:=hH.out.1;clear hrest hpre hH;obtain ⟨v,hv⟩:=ah (i - aG pre);rw [hv] at hN hv0 kI;have hvb : -9223372036854775808<=v/\v<=9223372036854775807:=by
    by_cases h:pre=[]
    ·subst h;simp [aG] at hv;omega
    ·have:=hv0 h;omega
   have hv':=ae hv;clear hv hv0 hsb hi0 hi1;obtain ⟨xa,xb⟩:=x;dsimp only at kx kK hsn;obtain ⟨cx,cI,cO,cE⟩:=zL4 kx kI kO kE;obtain ⟨fI,fO,fE⟩:=zF3 kI kO kE;by_cases h1:v<0
   ·have h1':=bU h1
    have hE:Hid (R=(0,7)):=ae (by rw [<-HR1.out,hN.out,lS,if_pos h1])
    gi_wp2_with fail
    exact ⟨ag.refl _ _,.inr ⟨rfl,kO,kE,hE⟩,hB⟩
   ·have h1':=bV h1
    by_cases h2:v<xb
    ·have h2':=bU h2
     have hE:Hid (R=(xa+v,0)):=ae (by rw [<-HR1.out,hN.out,lS,if_neg h1,if_pos h2])
     gi_wp2_with fail
     obtain ⟨k2,k3,hf2⟩:=IC zo kO kE (zI (xa+v)) (zI 0);exact ⟨hf2.mono λk _ h=>by omega,.inl ⟨rfl,by rw [hE.out];exact k2,by rw [hE.out];exact k3⟩,hB.trans (hf2.below (by have:=hB.size;omega) (λk hk=>by omega))⟩
    ·have h2':=bV h2
     have hN2:=ae (Vg hN'.out (by rw [hv'.out];exact h1) (by rw [hv'.out];exact h2))
     gi_wp2_with fail
     have rD:ag (λk=>k=s+1) W (W.setCell ⟨s+1,0,none⟩ (zI (v - xb))):=ag.setCell (T:=λk=>k=s+1) (p:=⟨s+1,0,none⟩) (ag.refl _ _) (λ_=>rfl) _;refine ⟨rD.mono λk _ h=>by omega,?_,rD.blk kO zo,rD.blk kE zo,hB.trans (rD.below (by have:=hB.size;omega) (λk hk=>by omega)),?_⟩
     ·rw [hsn.out,show i - (aG pre+xb)=v - xb by have:=hv'.out;omega];exact kI.aM 0 _
     ·refine ae ⟨λ_=>by rw [hsn.out];have:=hv'.out;omega,λalE h=>?_⟩
      have hr2:alE=rest:=by rw [hL1.out] at h;simpa using h.symm
      rw [hr2];exact hN2.out
  case done =>
   rintro W hsz ⟨kI,kO,kE,hB,hH⟩ hd;rw [hs0] at hd hsz;have hE:Hid (R=(0,7)):=ae (by rw [<-HR1.out,hH.out.2 [] zs];rfl);exact ait
  case stop =>
   rintro c pre W hsz hpre ⟨⟨rfl,kO,kE⟩|⟨rfl,kO,kE,hE⟩,hB⟩ hd
   ·rw [hs0] at hd hsz
    go_wp2_with fail;have hE:Hid (R=R):=ae rfl;rw [hs0];have hfp:ag (λk=>k=w1.heap.size+1) W (World.putObj W (w1.heap.size+1) (.deferred none)):=ag.putObj (T:=λk=>k=w1.heap.size+1) (ag.refl _ _) (λ_=>rfl) _;have c6:=(hfp.blk kO zo).cell;have c7:=(hfp.blk kE zo).cell;exact dF (v:=.tuple #[zI (R).1,zI (R).2]) hd (by simp [results,results79,go_sem,c6,c7]) ⟨by rw [hE.out],(by rw [hs];exact (hB).trans (hfp.below (by have:=(hB).size;omega) (λk hk=>by omega)))⟩
   ·rw [hs0] at hd hsz
    exact ait
theorem Vl (x:Int) (w:World) (h0:0<=x) (h1:x<=4000) :
  Calls prog 224 #[.int .u64 x] w λe w'=>e= .returned (zI (Lib.bitLen x.toNat:Nat))/\w=w':=by
 have q1:decide (4294967296<=x)=false:=by simp;omega
 have q2:decide (65536<=x)=false:=by simp;omega
 obtain ⟨L,hL⟩:∃L:Int,((Lib.bitLen x.toNat:Nat):Int)=L:=⟨_,rfl⟩;rw [hL];have hL':=ae hL;clear hL;by_cases hx:256<=x
 ·have q3:=bU hx
  have hsz:(x / 256).toNat<Lib.len8tab.size:=by rw [EM];omega
  have hb:=Lib.bitLen_le8' (x / 256) zo zo;have hs:=ae (Lib.bitLen_shift8 x.toNat zo zo);have ht:=ae (show (x / 256).toNat=x.toNat / 256 by omega);have hg:=ae (Q6 (x / 256).toNat hsz);go_enter func224,ntmps224
  go_wp2
  go_ret;simp only [Array.getD,List.size_toArray,List.length_cons,List.length_nil];refine ⟨?_,by first|trivial|rfl⟩;simp;rw [hg.out,<-hL'.out,hs.out,<-ht.out];simp only [wrap64];omega
 ·have q3:=bV hx
  have hsz:x.toNat<Lib.len8tab.size:=by rw [EM];omega
  have hb:=Lib.bitLen_le8' x zo zo;have hg:=ae (Q6 x.toNat hsz);go_enter func224,ntmps224
  go_wp2
  go_ret;refine ⟨?_,by first|trivial|rfl⟩;simp;rw [hg.out,<-hL'.out];simp only [wrap64];omega
theorem ace (x:Int) (w:World) (h0:0<=x) (h1:x<=4000) :
  Calls prog 206 #[.int .u64 x] w λe w'=>e= .returned (zI (Lib.bitLen x.toNat:Nat))/\w=w':=by
 have HL:=ae (λW=>Vl x W h0 h1);generalize (Lib.bitLen x.toNat:Nat)=L at *;go_enter func206,ntmps206
 go_wp2_with (go_at_call 224;refine (HL.out _).mono ?_;rintro e w' ⟨rfl,rfl⟩)
 go_ret;exact ⟨rfl,rfl⟩
theorem Vn (A B:Option Addr) (n cap cap':Nat) (xs ys:List Sp) (w:World) (hn:xs.length=n) (hm:n<=maxLen) (he:ys=xs) (hr:RU w w.heap.size A xs) (hs:RU w w.heap.size B ys) :
  zK 85 #[.slice A n cap,.slice B n cap'] w (.bool true):=by
 have h:=ZO A B n n cap cap' xs ys w hn hm (by rw [he];exact hn) hm hr hs;rw [decide_eq_true he.symm] at h;exact h
theorem Q7 (A:Option Addr) (n cap:Nat) (us:List Sp) (p q:Int) (w:World) (hn:us.length=n) (hm:n<=cap) (hc:cap<=maxLen) (hr:RU w w.heap.size A us) :
  Calls prog 57 #[.slice A n cap,.agg #[zI p,zI q]] w λe w'=>e= .returned (.tuple #[.bool (decide (jR us (p,q)=0)&&(aZ us (p,q)).isEmpty),zI (jR us (p,q))])/\Below w.heap.size w w':=by
 have HA:=ae (λW (h:RU W W.heap.size A us)=>QS A n cap us p q W hn (Nat.le_trans hm hc) h);have hb0:=aQ w (.cells #[zI p,zI q] 85);have k0:=af.new w 85 #[zI p,zI q];have c0:=k0.cell;have hr0:=hr.on (aQ w (.cells #[zI p,zI q] 85));by_cases hz:jR us (p,q)=0
 ·have hz':=hz
  unfold jR at hz';have hC:eG us=0:=by
   by_cases h:eG us=0
   ·exact h
   ·rw [if_neg h] at hz';exact hz'
  rw [if_pos hC] at hz';have hv:bF (p,q)=true:=by
   by_cases h:bF (p,q)=true
   ·exact h
   ·rw [if_neg h] at hz';cases hz'
  have HG:=ae (λW (h:RU W W.heap.size A us)=>Nk A n cap us p q W hn hm hc h (bI.1 hC) hv);rw [hz] at HA ⊢;generalize hG:aZ us (p,q)=G at *;obtain ⟨gl,hgl⟩:=ah (G.length);have hE:Hid (G.isEmpty=((gl:Int)==0)):=ae (by rw [<-hgl];cases G <;> simp;omega);rw [hgl] at HG;clear hz hz' hC hv hgl hG;go_enter func57,ntmps57;go_wp2_with fail;refine (HA.out _ hr0).zr λw1 hb1=>?_
  have B1:=hb0.zt hb1;have k1:=k0.call hb1;have z1:=k1.cell;have r1:=hr0.on hb1;go_wp2_with fail;refine (HG.out _ r1).mono ?_;rintro e w2 ⟨A',cap',rfl,_,_,_,_,hb2⟩;have B2:=B1.zt hb2;go_wp2_with fail;go_ret2;exact ⟨by rw [hE.out];rfl,B2⟩
 ·obtain ⟨er,her⟩:=ah (jR us (p,q))
  rw [her] at HA hz ⊢;have hz':(er != 0)=true:=by simpa using hz
  have hz2:decide (er=0)=false:=by simpa using hz
  clear her hz;go_enter func57,ntmps57;go_wp2_with fail;refine (HA.out _ hr0).zr λw1 hb1=>?_
  have B1:=hb0.zt hb1;go_wp2_with fail;go_ret2;exact ⟨by rw [hz2];rfl,B1⟩
theorem acf {P:Prop} (h:P:=by
 clear he;go_wp2_with fail;go_ret;exact ⟨eT hE.out.symm,B1⟩):P:=h
theorem zf (A1 A2:Option Addr) (n1 c1 n2 c2:Nat) (us vs:List Sp) (B:Nat) (w:World) (hn1:us.length=n1) (hm1:n1<=maxLen) (hr1:RU w w.heap.size A1 us) (hn2:vs.length=n2) (hm2:n2<=maxLen) (hr2:RU w w.heap.size A2 vs)
  (kB:af w B 26 #[.slice A1 n1 c1,.slice A2 n2 c2]) :
  zK 140 #[.slice (some ⟨B,0,none⟩) 2 2] w (zI (if eG us=0 then eG vs else eG us)):=by
 have H1:=ae (λW (h:RU W W.heap.size A1 us)=>gM A1 n1 c1 us W hn1 hm1 h);have H2:=ae (λW (h:RU W W.heap.size A2 vs)=>gM A2 n2 c2 vs W hn2 hm2 h);have hb0:=Below.refl w.heap.size w;generalize eG us=Vo at *;generalize eG vs=ZX at *;obtain ⟨R,hR0⟩:∃R:Int,(if Vo=0 then ZX else Vo)=R:=⟨_,rfl⟩;rw [hR0];have hR:=ae hR0;clear hR0;go_enter func140,ntmps140;go_wp2_with fail
 go_loopw [8] (λi wr=>∃k:Nat,k<=2/\i = zI k/\Below w.heap.size w wr/\Hid ((1<=k->Vo=0)/\(2<=k->ZX=0))) (λi _=>2 - (intOf i).toNat)
 case atStart=>exact ⟨0,zo,rfl,hb0,ae ⟨λh=>by omega,λh=>by omega⟩⟩
 case round =>
  obtain ⟨k,hk,rfl,hB,hH⟩:=hrel;have kW:=kB.call hB;have z0:=kW.cell;have ra:=hr1.on hB;have rb:=hr2.on hB;rcases (show k=0\/k=1\/k=2 by omega) with rfl|rfl|rfl
  ·go_wp2_with fail
   refine (H1.out _ ra).zr λw1 hb1=>?_
   have B1:=hB.zt hb1;by_cases he:Vo=0
   ·have he':=Ha he
    have hH2:Hid ((1<=1->Vo=0)/\(2<=1->ZX=0)):=ae ⟨λ_=>he,λh=>by omega⟩;clear he;go_wp2_with fail;go_roundw
    case rel=>exact ⟨1,zo,by go_num,B1,hH2⟩
    case measure=>simp [intOf]
   ·have he':=gJ he
    have hE:Hid (R=Vo):=ae (by rw [<-hR.out,if_neg he]);exact acf
  ·have hz1:=ae (hH.out.1 zo)
   go_wp2_with fail;refine (H2.out _ rb).zr λw1 hb1=>?_
   have B1:=hB.zt hb1;by_cases he:ZX=0
   ·have he':=Ha he
    have hH2:Hid ((1<=2->Vo=0)/\(2<=2->ZX=0)):=ae ⟨λ_=>hz1.out,λ_=>he⟩;clear he;go_wp2_with fail;go_roundw
    case rel=>exact ⟨2,zo,by go_num,B1,hH2⟩
    case measure=>simp [intOf]
   ·have he':=gJ he
    have hE:Hid (R=ZX):=ae (by rw [<-hR.out,if_pos hz1.out]);exact acf
  ·have hE:Hid (R=0):=ae (by rw [<-hR.out,if_pos (hH.out.1 zo),hH.out.2 zo])
   go_wp2_with fail;go_ret;exact ⟨eT hE.out.symm,hB⟩
theorem xH:∀(k:Nat) (a b:List Sp),(gK k a b).length<=k
 | 0,a,b=>by simp [gK]
 | k+1,a,b=>by
  cases a with
  | nil=>rw [Dv];simp
  | cons x a =>
   cases b with
   | nil=>rw [BB];simp
   | cons y b =>
    have h1:=xH k a (y::b);have h2:=xH k (x::a) b;rw [gK,List.length_append];split <;> split <;> simp only [List.length_cons,List.length_nil] <;> omega
theorem DI (a b:List Sp):(az a b).length<=a.length+b.length:=xH _ a b
theorem EN {w:World} {B:Nat} {A:Option Addr} {us:List Sp} (h:RU w B A us) (h0:us≠[]) {b o:Nat} (e:A=some ⟨b,o,none⟩):b<B:=by
 obtain ⟨b',o',e',hb,_⟩:=RU.at_' h (k:=0) (by cases us with|nil=>exact absurd rfl h0|cons=>simp);rw [e] at e';cases e';exact hb
def YL (w:World) (us:List Sp) (e:Ending) (w':World):Prop :=
 ∃(A:Option Addr) (cap:Nat),e= .returned (.slice A us.length cap)/\RU w' w'.heap.size A us/\us.length<=cap/\cap<=maxLen/\(∀b o,A=some ⟨b,o,none⟩->w.heap.size<=b)/\Below w.heap.size w w'
theorem zT2 {P:Prop} (h:P:=by
 have hlt':decide ((k:Int)<1024)=true:=by simp;omega
 have hck:wr.cell? ⟨w.heap.size,k,none⟩=some (.bool (f k)):=by rw [kW.cell];exact hcs.out k hlt
 have hstep:=ae (show fV f (k+1)=_ from rfl);have Vp:(fV f k).length<=1024:=by
  have:=(hok.out k);have h:=CB (fV f k) (-1) k (λx hx=>⟨(this.wid x hx).2.1,(this.wid x hx).2.2⟩) this.form zo;omega
 cases EO:f k with
 | false =>
  rw [EO] at hck;have hS:Hid (fV f (k+1)=fV f k):=ae (by rw [fV,if_neg (by simp [EO])]);go_wp2_with fail;go_roundw
  case rel=>exact ⟨k+1,zo,zs,by rw [hS.out];exact hrow,kW,hB⟩
  case measure=>exact zm
 | true =>
  rw [EO] at hck;by_cases hk0:0<k
  case neg =>
   have hk0':decide (0<(k:Int))=false:=by simp;omega
   have aor:decide (0<k)=false:=by simp;omega
   have hS:Hid (fV f (k+1)=fV f k++[((k:Int),1)]):=ae (by rw [fV,if_pos EO,if_neg (by simp;omega)]);have kN:=af.new wr 85 #[zI (k:Int),zI 1]
   go_wp2_with (refine wpList_append_own _ rfl (.tmp 9) (.tmp 12) 26 rfl (w.heap.size+1) 85 i0 (.agg #[zI 0,zI 0]) 2 16 underlying26 hi hz0 hz1 hz2 rfl zd _ (fV f k).length (ax (fV f k)) rfl (hrow.alloc _) ⟨wr.heap.size,0,none⟩ 1 1 [zI (k:Int),zI 1] rfl rfl (jW kN) jm (by unfold maxLen;omega) zo (by simp;omega) ?_;intro v' w1 hown' hgrow _;rw [<-eZ (fV f k) ((k:Int),1),<-hS.out] at hown')
   have hne1:=(hrow.alloc (.cells #[zI (k:Int),zI 1] 85)).lt;go_roundw
   case rel=>exact ⟨k+1,zo,zs,by rw [show (fV f (k+1)).length=(fV f k).length+1 by rw [hS.out];simp];exact hown',(kW.alloc _).grown hgrow (λe=>by have:=(hrow.lt _ e.symm).1;omega),(hB.alloc sF _).grown hgrow (by simp;omega) (λj hj=>by have:=(hrow.lt j hj).1;omega)⟩
   case measure=>exact zm
  case pos =>
   have hk0':decide (0<(k:Int))=true:=by simp;omega
   have aor:decide (0<k)=true:=by simp;omega
   have hkp:wr.cell? ⟨w.heap.size,k - 1,none⟩=some (.bool (f (k - 1))):=by rw [kW.cell];exact hcs.out (k - 1) zo
   cases hfp:f (k - 1) with
   | false =>
    rw [hfp] at hkp;have hS:Hid (fV f (k+1)=fV f k++[((k:Int),1)]):=ae (by rw [fV,if_pos EO,if_neg (by simp [hfp])]);have kN:=af.new wr 85 #[zI (k:Int),zI 1]
    go_wp2_with (refine wpList_append_own _ rfl (.tmp 9) (.tmp 12) 26 rfl (w.heap.size+1) 85 i0 (.agg #[zI 0,zI 0]) 2 16 underlying26 hi hz0 hz1 hz2 rfl zd _ (fV f k).length (ax (fV f k)) rfl (hrow.alloc _) ⟨wr.heap.size,0,none⟩ 1 1 [zI (k:Int),zI 1] rfl rfl (jW kN) jm (by unfold maxLen;omega) zo (by simp;omega) ?_;intro v' w1 hown' hgrow _;rw [<-eZ (fV f k) ((k:Int),1),<-hS.out] at hown')
    have hne1:=(hrow.alloc (.cells #[zI (k:Int),zI 1] 85)).lt;go_roundw
    case rel=>exact ⟨k+1,zo,zs,by rw [show (fV f (k+1)).length=(fV f k).length+1 by rw [hS.out];simp];exact hown',(kW.alloc _).grown hgrow (λe=>by have:=(hrow.lt _ e.symm).1;omega),(hB.alloc sF _).grown hgrow (by simp;omega) (λj hj=>by have:=(hrow.lt j hj).1;omega)⟩
    case measure=>exact zm
   | true =>
    rw [hfp] at hkp;obtain ⟨r,x,hrx,hxe⟩:=(hok.out k).last hk0 hfp;have hwx:=(hok.out k).wid x (by rw [hrx];simp);have hS:Hid (fV f (k+1)=r++[(x.1,x.2+1)]):=ae (by rw [fV,if_pos EO,if_pos (by simp [hfp];omega),hrx,IA]);rw [hrx] at hrow Vp;clear hrx hstep;obtain ⟨xa,xb⟩:=x;dsimp only at hwx hxe;rw [List.length_append,List.length_singleton] at hrow Vp;obtain ⟨g,cap,rfl⟩:=ownsRow_succ hrow;have hgb:=(hrow.lt g rfl).1;have hcx:wr.cell? ⟨g,r.length*2+1,none⟩=some (zI xb):=by
     rw [hrow.cellAt _ zo,eZ,List.getElem?_append_right (by rw [dN];omega),dN];simp
    have hfx:=hrow.frozenAt (r.length*2+1);obtain ⟨hst,hgr⟩:=hrow.stored (r.length*2+1) (zI (xb+1));rw [DJ] at hst;obtain ⟨rl,hrl⟩:=ah (r.length);rw [hrl] at hcx hfx hst hgr Vp ⊢;have aos:=ae hrl;clear hrl hrow;go_wp2_with fail;go_roundw
    case rel=>exact ⟨k+1,zo,zs,by rw [hS.out];simpa [aos.out] using hst,kW.grown hgr (λe=>by cases e;omega),hB.grown hgr sF (λj hj=>by cases hj;omega)⟩
    case measure=>exact zm):P:=h
theorem Q8 (cs:Array Value) (f:Nat->Bool) (w:World) (hm:bC cs f) :
  Calls prog 115 #[.agg cs] w (YL w (ji f)):=by
 obtain ⟨i0,hi,hz0,hz1,hz2⟩:=dW;have hb0:=aQ w (.cells cs 189);have kM:=af.new w 189 cs;have hcs:=ae hm.at_;have hcz:=hm.size;have hok:=ae (λp=>wE f p);have hA:Hid (ji f=fV f 1024):=ae rfl;obtain ⟨SA,Bj⟩:∃S,ji f=S:=⟨_,rfl⟩;rw [Bj];have acg:=ae Bj;clear Bj hm;go_enter func115,ntmps115;go_wp2_with fail
 go_loopw [3,4] (λv i wr=>∃k:Nat,k<=1024/\i = zI k/\wr.ownsRow (w.heap.size+1) 85 2 v (fV f k).length (ax (fV f k))/\af wr w.heap.size 189 cs/\Below w.heap.size w wr) (λ_ i _=>1024 - (intOf i).toNat)
 case atStart=>exact ⟨0,zo,rfl,World.ownsRow_nil _ _ _ _,kM,hb0⟩
 case round =>
  obtain ⟨k,hk,rfl,hrow,kW,hB⟩:=hrel;have sF:=hB.size;have hwl:=kW.lt;by_cases hlt:k<1024
  ·exact zT2
  ·obtain rfl:k=1024:=zo
   obtain ⟨A,cap,rfl,dR,h1,h2,h3,_⟩:=lQ hrow rfl;have hE:Hid (SA=fV f 1024):=ae (by rw [<-acg.out];rfl);go_wp2_with fail;go_ret;rw [hE.out];exact ⟨A,cap,rfl,dR,h1,h2,λb o e=>by have:=h3 b o e;omega,hB⟩
theorem I5 (x:Int) (w:World):Calls prog 207 #[zI x] w λe w'=>e= .returned (.bool false)/\w'=w:=by
 go_enter func207,ntmps207
 go_wp2
 go_ret;exact ⟨zs,rfl⟩
def yo (x y:Int):Int:=if x<y then -1 else if y<x then 1 else 0
theorem aiu {P:Prop} (h:P:=by
 clear h1 h2;go_enter func184,ntmps184
 go_wp2_with (go_at_call 207;refine (I5 _ _).mono ?_;rintro e w' ⟨rfl,rfl⟩)
 go_ret;exact ⟨eT hE.out.symm,rfl⟩):P:=h
theorem OO (x y:Int) (w:World):Calls prog 184 #[zI x,zI y] w λe w'=>e= .returned (zI (yo x y))/\w'=w:=by
 obtain ⟨R,hR0⟩:=ah (yo x y);rw [hR0];have hR:=ae hR0;clear hR0;by_cases h1:x<y
 ·have h1':=bU h1
  have hE:Hid (R = -1):=ae (by rw [<-hR.out,yo,if_pos h1]);clear h1;go_enter func184,ntmps184
  go_wp2_with (go_at_call 207;refine (I5 _ _).mono ?_;rintro e w' ⟨rfl,rfl⟩)
  go_ret;exact ⟨eT hE.out.symm,rfl⟩
 ·have h1':=bV h1
  by_cases h2:y<x
  ·have h2':=bU h2
   have hE:Hid (R=1):=ae (by rw [<-hR.out,yo,if_neg h1,if_pos h2]);exact aiu
  ·have h2':=bV h2
   have hE:Hid (R=0):=ae (by rw [<-hR.out,yo,if_neg h1,if_neg h2]);exact aiu
theorem ach (x y:Sp) (w:World):Calls prog 183 #[.agg #[zI x.1,zI x.2],.agg #[zI y.1,zI y.2]] w λe w'=>e= .returned (zI (yo x.1 y.1)) /\
  w'=(w.alloc (.cells #[zI x.1,zI x.2] 85)).alloc (.cells #[zI y.1,zI y.2] 85):=by
 have HC:=ae (λW=>OO x.1 y.1 W);generalize yo x.1 y.1=R at *;go_enter func183,ntmps183
 go_wp2_with (go_at_call 184;refine (HC.out _).mono ?_;rintro e w' ⟨rfl,rfl⟩)
 go_ret;exact ⟨rfl,rfl⟩
def dY (xs:List Sp) (x:Sp):List Sp :=
 match xs.getLast? with
 | none=>[x]
 | some l=>if x.1<=l.1+l.2 then xs.dropLast++[(l.1,max (l.1+l.2) (x.1+x.2) - l.1)] else xs++[x]
theorem xI (x:Sp):dY [] x=[x]:=rfl
theorem vo (pre:List Sp) (l x:Sp):dY (pre++[l]) x=if x.1<=l.1+l.2 then pre++[(l.1,max (l.1+l.2) (x.1+x.2) - l.1)] else pre++[l]++[x]:=by simp [dY]
theorem ZY (base:Nat) (v:Value) (xs:List Sp) (x:Sp) (w:World) (hx:(-100000<=x.1/\x.1<=50000)/\-100000<=x.2/\x.2<=50000) (hxs:∀y∈xs,(-100000<=y.1/\y.1<=50000)/\-100000<=y.2/\y.2<=50000) (hlen:xs.length<=100000) (hbase:base<=w.heap.size)
  (hrow:w.ownsRow base 85 2 v xs.length (ax xs)) :
  Calls prog 185 #[v,.agg #[zI x.1,zI x.2]] w λe w'=>∃v',e= .returned v'/\w'.ownsRow base 85 2 v' (dY xs x).length (ax (dY xs x))/\Below base w w':=by
 obtain ⟨i0,hi,hz0,hz1,hz2⟩:=dW;obtain ⟨xa,xb⟩:=x;simp only at hx ⊢;have hb0:=aQ w (.cells #[zI xa,zI xb] 85);have k0:=af.new w 85 #[zI xa,zI xb];have c0:=k0.cell;rcases List.eq_nil_or_concat xs with rfl|⟨pre,l,rfl⟩
 ·obtain ⟨A,cap,rfl⟩:=fF hrow rfl
  rw [xI];go_enter func185,ntmps185;go_upto_region 2 with fail
  refine aD zk zk ?_
  repeat (go_big_quiet_step (fail))
  refine wpQuiet_nil ?_;rintro w1 ⟨⟨_,hw1⟩,rfl⟩;have B1:=hb0.zt hw1;have k1:=k0.call hw1;have c1:=k1.cell;have kN:=af.new w1 85 #[zI xa,zI xb];have kQ:w1.ownsRow base 85 2 (.slice A 0 cap) ([]:List Sp).length (ax ([]:List Sp)):=aI hrow B1
  go_wp2_with (refine wpList_append_own _ rfl (.tmp 43) (.tmp 45) 26 rfl base 85 i0 (.agg #[zI 0,zI 0]) 2 16 underlying26 hi hz0 hz1 hz2 rfl zd _ 0 (ax ([]:List Sp)) rfl (kQ.alloc _) ⟨w1.heap.size,0,none⟩ 1 1 [zI xa,zI xb] rfl rfl (jW kN) jm (by unfold maxLen;omega) zo (by have:=B1.size;simp;omega) ?_;intro v' w3 hown' hgrow _)
  go_ret;exact ⟨v',rfl,by simpa [ax] using hown',((B1.mono hbase).alloc (by have:=B1.size;omega) _).grown hgrow (by have:=B1.size;simp;omega) (λj hj=>(kQ.lt j hj).1)⟩
 ·rw [List.concat_eq_append] at *
  rw [vo];have hlx:=hxs l zs;clear hxs;obtain ⟨la,lb⟩:=l;simp only at hlx ⊢;rw [List.length_append,List.length_singleton] at hrow hlen;have CE:=aI hrow hb0;obtain ⟨g,cap,rfl⟩:=ownsRow_succ hrow;have hgb:=CE.lt g rfl;have zg:(w.alloc (.cells #[zI xa,zI xb] 85)).cell? ⟨g,pre.length*2,none⟩=some (zI la):=by
   rw [CE.cellAt _ zo,eZ,List.getElem?_append_right (by rw [dN];exact Nat.le_refl _),dN];simp
  have hcb:(w.alloc (.cells #[zI xa,zI xb] 85)).cell? ⟨g,pre.length*2+1,none⟩=some (zI lb):=by
   rw [CE.cellAt _ zo,eZ,List.getElem?_append_right (by rw [dN];omega),dN];simp
  obtain ⟨k,hk⟩:=ah (pre.length);rw [hk] at zg hcb hlen ⊢;have hk':=ae hk;have hrow':=ae hrow;clear hk hrow;have q1:=λz:Ext (w.alloc (.cells #[zI xa,zI xb] 85))=>z.cell zg
  have q2:=λz:Ext (w.alloc (.cells #[zI xa,zI xb] 85))=>z.cell hcb
  have q3:=λz:Ext (w.alloc (.cells #[zI xa,zI xb] 85))=>(z.blk k0).cell
  have C1:Hid (∀z:Ext (w.alloc (.cells #[zI xa,zI xb] 85)),Calls prog 90 #[.agg #[zI la,zI lb]] z.w λe w''=>e= .returned (zI (la+lb))/\∃y:Ext (w.alloc (.cells #[zI xa,zI xb] 85)),w''=y.w):=ae (λz=>Ext.call (iJ la lb _ zo zo));by_cases hle:xa<=la+lb
  ·have QR:=bU hle
   rw [if_pos hle];go_enter func185,ntmps185;go_upto_region 2 with fail
   refine aD zk zk ?_
   repeat (go_big_quiet_step ((go_at_call 90;exact C1.out _)))
   refine wpQuiet_nil ?_;rintro w1 ⟨⟨_,hw1⟩,rfl⟩;have B1:=hb0.zt hw1;have k1:=k0.call hw1;have hg0:g<(w.alloc (.cells #[zI xa,zI xb] 85)).heap.size:=hgb.2;have aot:=(hw1.cell (p:=⟨g,k*2,none⟩) hg0).trans zg;have aiv:=(hw1.cell (p:=⟨g,k*2+1,none⟩) hg0).trans hcb;clear q1 q2 q3 C1;have q1:=λz:Ext w1=>z.cell aot
   have q2:=λz:Ext w1=>z.cell aiv
   have q3:=λz:Ext w1=>(z.blk k1).cell
   have C1:Hid (∀z:Ext w1,Calls prog 90 #[.agg #[zI la,zI lb]] z.w λe w''=>e= .returned (zI (la+lb))/\∃y:Ext w1,w''=y.w):=ae (λz=>Ext.call (iJ la lb _ zo zo));have C2:Hid (∀z:Ext w1,Calls prog 90 #[.agg #[zI xa,zI xb]] z.w λe w''=>e= .returned (zI (xa+xb))/\∃y:Ext w1,w''=y.w):=ae (λz=>Ext.call (iJ xa xb _ zo zo));have hmx : -200000<=max (la+lb) (xa+xb)/\max (la+lb) (xa+xb)<=200000:=zo;go_upto_region 3 with fail
   refine df 19 zk zk ?_;simp only [List.take_succ_cons,List.take_zero,List.drop_succ_cons,List.drop_zero]
   iterate 9 go_big_quiet_step ((go_at_call 90;exact C1.out _))
   repeat (go_big_quiet_step ((go_at_call 90;exact C2.out _)))
   refine wpQuiet_nil ?_;intro z;have hrz:=aI hrow'.out (B1.zt z.le);have hfz:=hrz.frozenAt (k*2+1);have hcz:=z.cell aiv;obtain ⟨hst,hgr⟩:=hrz.stored (k*2+1) (zI (max (la+lb) (xa+xb) - la));rw [<-hk'.out,DJ,hk'.out] at hst;go_wp2_with fail;go_ret;exact ⟨_,rfl,by simpa [hk'.out] using hst,((B1.zt z.le).mono hbase).grown hgr (by have:=B1.size;have:=z.le.size;omega) (λj hj=>by cases hj;exact hgb.1)⟩
  ·have QR:=bV hle
   rw [if_neg hle];go_enter func185,ntmps185;go_upto_region 2 with fail
   refine aD zk zk ?_
   repeat (go_big_quiet_step ((go_at_call 90;exact C1.out _)))
   refine wpQuiet_nil ?_;rintro w1 ⟨⟨_,hw1⟩,rfl⟩;have B1:=hb0.zt hw1;have k1:=k0.call hw1;have c1:=k1.cell;have kN:=af.new w1 85 #[zI xa,zI xb];have kQ:=aI hrow'.out B1;clear q1 q2 q3 C1
   go_wp2_with (refine wpList_append_own _ rfl (.tmp 43) (.tmp 45) 26 rfl base 85 i0 (.agg #[zI 0,zI 0]) 2 16 underlying26 hi hz0 hz1 hz2 rfl zd _ (k+1) (ax (pre++[(la,lb)])) rfl (by rw [<-hk'.out];exact kQ.alloc _) ⟨w1.heap.size,0,none⟩ 1 1 [zI xa,zI xb] rfl rfl (jW kN) jm (by unfold maxLen;omega) zo (by have:=B1.size;simp;omega) ?_;intro v' w3 hown' hgrow _)
   go_ret;rw [<-eZ (pre++[(la,lb)]) (xa,xb)] at hown';exact ⟨v',rfl,by simpa [hk'.out] using hown',((B1.mono hbase).alloc (by have:=B1.size;omega) _).grown hgrow (by have:=B1.size;simp;omega) (λj hj=>(kQ.lt j hj).1)⟩
theorem agz:(prog.info? 3).map (λi=>(i.zero,i.size,i.bytes))=some (some (zI 0),1,8):=zk
theorem LW (A:Option Addr) (n cap:Nat) (us:List Sp) (w:World) (hn:us.length=n) (hm:n<=maxLen) (hr:RU w w.heap.size A us) (hu:Go.Pol.Can us) (L:List Int) (hL:bA us=L) :
  Calls prog 156 #[.slice A n cap] w λe w'=>∃(A':Option Addr) (cap':Nat),e= .returned (.slice A' L.length cap')/\RI w' w'.heap.size A' L/\Below w.heap.size w w':=by
 obtain ⟨i0,hi,hz0,hz1,hz2⟩:=info_parts agz;have hc:=lF A n cap us w hn hm hr;rw [bI.2 hu] at hc;have HC:=ae hc;clear hc;have hlen:=hu.len;have hvl:=ae hu.1;have hn':=ae hn;have hL':=ae hL;clear hL;have aci:n<=512:=zo;clear hn hu;go_enter func156,ntmps156
 go_wp2_with (go_at_call 28;refine (HC.out).mono ?_;rintro e w1 ⟨rfl,hq⟩)
 go_loopw [3,4] (λv i wr=>∃(k:Nat) (xs:List Int),k<=n/\i = zI k/\Hid (xs=bA (us.take k))/\xs.length<=1024*k/\wr.ownsRow w.heap.size 3 1 v xs.length (xs.map (Value.int .i64))/\Below w.heap.size w wr) (λ_ i _=>n - (intOf i).toNat)
 case atStart=>exact ⟨0,[],zo,rfl,ae (by simp [bA]),zs,World.ownsRow_nil _ _ _ _,hq⟩
 case round =>
  obtain ⟨k,xs,hk,rfl,hX,hxl,hrow,hB⟩:=hrel;have sF:=hB.size;by_cases hlt:k<n
  ·have hlt':decide ((k:Int)<(n:Int))=true:=by simp;omega
   obtain ⟨b,o,rfl,hbl,hcw,hdw⟩:=RU.at_' hr (k:=k) (by have:=hn'.out;omega);have kK:=av.1 (hvl.out (us.getD k (0,0)) (by rw [List.getD_eq_getElem?_getD,List.getElem?_eq_getElem (by have:=hn'.out;omega)];simp));have htk:=ae (xJ us k (by have:=hn'.out;omega));generalize us.getD k (0,0)=x at *;obtain ⟨xa,xb⟩:=x;dsimp only at hcw hdw kK;have hc:=(hB.cell (p:=⟨b,o+k*2,none⟩) hbl).trans hcw;have hd:=(hB.cell (p:=⟨b,o+k*2+1,none⟩) hbl).trans hdw;go_wp2_with fail
   go_loopw [3,5] (λv p wr=>∃(j:Nat) (ys:List Int),(j:Int)<=xb/\p = zI (xa+j)/\Hid (ys=xs++fJ (xa,xb) j)/\ys.length<=1024*k+j/\wr.ownsRow w.heap.size 3 1 v ys.length (ys.map (Value.int .i64))/\Below w.heap.size w wr) (λ_ p _=>(xa+xb - intOf p).toNat)
   case atStart=>exact ⟨0,xs,zo,zs,ae (by simp [fJ]),zo,hrow,hB⟩
   case round =>
    obtain ⟨j,ys,hj,rfl,hY,hyl,hrow,hB⟩:=hrel;have sF:=hB.size;have hc:=(hB.cell (p:=⟨b,o+k*2,none⟩) hbl).trans hcw;have hd:=(hB.cell (p:=⟨b,o+k*2+1,none⟩) hbl).trans hdw;have e1:=λz:Ext wr=>z.cell hc
    have e2:=λz:Ext wr=>z.cell hd
    by_cases hjx:(j:Int)<xb
    ·have hj':decide (xa+(j:Int)<xa+xb)=true:=by simp;omega
     have hY2:Hid (ys++[xa+(j:Int)]=xs++fJ (xa,xb) (j+1)):=ae (by rw [hY.out,OP,List.append_assoc]);go_upto_region 8 with fail
     refine aD zk zk ?_
     repeat (go_big_quiet_step (fail))
     refine wpQuiet_nil ?_;rintro w2 ⟨⟨_,hw2⟩,rfl⟩;have hrow2:=aI hrow hw2;have hB2:=hB.trans (hw2.mono sF);have aou:=hB2.size;have kN:=af.new w2 3 #[zI (xa+(j:Int))]
     go_wp2_with (refine wpList_append_own _ rfl (.tmp 35) (.tmp 37) 54 rfl w.heap.size 3 i0 (zI 0) 1 8 underlying54 hi hz0 hz1 hz2 rfl zd _ ys.length (ys.map (Value.int .i64)) rfl (hrow2.alloc _) ⟨w2.heap.size,0,none⟩ 1 1 [zI (xa+(j:Int))] rfl rfl (Io kN) AQ (by unfold maxLen;omega) zo (by simp;omega) ?_;intro v' w3 hown' hgrow _)
     go_roundw
     case rel=>exact ⟨j+1,ys++[xa+(j:Int)],zo,by go_num,hY2,by simp;omega,by simpa using hown',(hB2.alloc aou _).grown hgrow (by simp;omega) (λi hi=>(hrow2.lt i hi).1)⟩
     case measure=>exact zm
    ·have hj':decide (xa+(j:Int)<xa+xb)=false:=by simp;omega
     have acj:xb.toNat=j:=zo;have hX2:Hid (ys=bA (us.take (k+1))):=ae (by rw [hY.out,hX.out,htk.out,Hf,jl,OQ,List.append_nil];rw [<-acj]);go_upto_region 8 with fail
     refine aD zk zk ?_
     repeat (go_big_quiet_step (fail))
     refine wpQuiet_nil ?_;rintro w2 ⟨⟨_,hw2⟩,rfl⟩;have hrow2:=aI hrow hw2;have hB2:=hB.trans (hw2.mono sF);go_wp2_with fail;go_roundw
     case rel=>exact ⟨k+1,ys,zo,zs,hX2,zo,hrow2,hB2⟩
     case measure=>exact zm
  ·have hlt':decide ((k:Int)<(n:Int))=false:=by simp;omega
   have hE:Hid (xs=L):=ae (by rw [hX.out,List.take_of_length_le (by have:=hn'.out;omega)];exact hL'.out);rw [hE.out] at hrow;obtain ⟨A',cap',rfl,vQ⟩:=Q9 hrow rfl;clear hX hxl hE;go_wp2_with fail;go_ret;exact ⟨A',cap',rfl,vQ,hB⟩
def pI (us:List Sp):List Sp:=us.foldl dY []
theorem Vq {xs:List Sp} {x:Sp} (hxs:∀y∈xs,bF y=true) (hx:bF x=true):∀y∈dY xs x,bF y=true:=by
 rcases List.eq_nil_or_concat xs with rfl|⟨pre,l,rfl⟩
 ·rw [xI];simpa using hx
 ·rw [List.concat_eq_append] at *
  rw [vo];have hl:=av.1 (hxs l zs);have hx':=av.1 hx;split
  ·intro y hy
   rcases List.mem_append.1 hy with h|h
   ·exact hxs y (by simp [h])
   ·simp only [List.mem_singleton] at h
    subst h;exact av.2 (by simp only;omega)
  ·intro y hy
   rcases List.mem_append.1 hy with h|h
   ·exact hxs y h
   ·simp only [List.mem_singleton] at h
    subst h;exact hx
theorem Vr (xs:List Sp) (x:Sp):(dY xs x).length<=xs.length+1:=by
 rcases List.eq_nil_or_concat xs with rfl|⟨pre,l,rfl⟩
 ·simp [xI]
 ·rw [List.concat_eq_append,vo]
  split <;> simp
theorem ZZ (us:List Sp) (x:Sp):pI (us++[x])=dY (pI us) x:=by simp [pI]
theorem agA (base:Nat) (v:Value) (us:List Sp) (w:World) (hv:∀y∈us,bF y=true) (hlen:us.length<=100000) (hbase:base<=w.heap.size)
  (HS:Calls prog 182 #[v,.func (.func 183) #[] #[]] w λe w'=>e= .returned (.tuple #[])/\∃eU:List Sp,eU.Perm us/\eU.Pairwise (λa b=>a.1<=b.1)/\w'.ownsRow base 85 2 v us.length (ax eU)/\Below base w w')
  (hrow:w.ownsRow base 85 2 v us.length (ax us)) :
  Calls prog 147 #[v] w λe w'=>∃(eU:List Sp) (v':Value),eU.Perm us/\eU.Pairwise (λa b=>a.1<=b.1)/\e= .returned v'/\w'.ownsRow w.heap.size 85 2 v' (pI eU).length (ax (pI eU))/\Below base w w':=by
 obtain ⟨A,cap,rfl⟩:=fF hrow rfl;go_enter func147,ntmps147;go_wp2_with fail;refine HS.zr ?_;rintro w1 ⟨eU,hp,hs,kQ,hb1⟩;have hv':∀y∈eU,bF y=true:=λy hy=>hv y (hp.mem_iff.1 hy)
 have hn:=hp.length_eq;obtain ⟨n,hn0⟩:=ah (us.length);rw [hn0] at kQ hn hlen ⊢;have hn':=ae hn;clear hn hn0 HS hrow hv;have hws:=hb1.size;have ack:=hb1.size;go_wp2_with fail
 go_loopw [3,10] (λv i wr=>∃k:Nat,k<=n/\i = zI k/\wr.ownsRow w1.heap.size 85 2 v (pI (eU.take k)).length (ax (pI (eU.take k)))/\Below w1.heap.size w1 wr/\Hid ((∀y∈pI (eU.take k),bF y=true)/\(pI (eU.take k)).length<=k)) (λ_ i _=>n - (intOf i).toNat)
 case atStart=>exact ⟨0,zo,rfl,by simpa [pI,ax] using World.ownsRow_nil _ _ _ _,Below.refl _ _,ae ⟨by simp [pI],by simp [pI]⟩⟩
 case round =>
  obtain ⟨k,hk,rfl,hrow2,hB,hH⟩:=hrel;by_cases hlt:k<n
  ·have hlt':decide ((k:Int)<(n:Int))=true:=by simpa using hlt
   have hr:=aI kQ hB;obtain ⟨g,cap',e,_⟩:=hr.form zo;cases e;have hg:=kQ.lt g rfl;have zg:=hr.cellAt (k*2) zo;have hcb:=hr.cellAt (k*2+1) zo;have hat:=qJ eU k (by have:=hn'.out;omega);rw [hat.1] at zg;rw [hat.2] at hcb;have kK:=hv' (eU.getD k (0,0)) (by rw [List.getD_eq_getElem?_getD,List.getElem?_eq_getElem (by have:=hn'.out;omega)];simp);have htk:=ae (xJ eU k (by have:=hn'.out;omega));clear hat hr;generalize eU.getD k (0,0)=x at *;have hxb:=av.1 kK;have hstep:Hid (pI (eU.take (k+1))=dY (pI (eU.take k)) x):=ae (by rw [htk.out,ZZ]);have hH2:Hid ((∀y∈dY (pI (eU.take k)) x,bF y=true)/\(dY (pI (eU.take k)) x).length<=k+1):=ae ⟨Vq hH.out.1 kK,by have:=Vr (pI (eU.take k)) x;have:=hH.out.2;omega⟩;have HJ:=ae (λ(W:World) (v:Value) (hW:w1.heap.size<=W.heap.size) (h:W.ownsRow w1.heap.size 85 2 v (pI (eU.take k)).length (ax (pI (eU.take k))))=>ZY w1.heap.size v (pI (eU.take k)) x W zo (λy hy=>by have:=av.1 (hH.out.1 y hy);omega) (by have:=hH.out.2;omega) hW h);generalize pI (eU.take k)=L at *;obtain ⟨xa,xb⟩:=x;dsimp only at zg hcb HJ;clear htk kK hxb hH;have sF:=hB.size;go_wp2_with fail;refine (HJ.out _ _ (by simp;omega) (hrow2.alloc _)).mono ?_;rintro e w2 ⟨v',rfl,hrow3,hb3⟩;go_wp2_with fail;go_roundw
   case rel=>exact ⟨k+1,zo,by go_num,by rw [hstep.out];exact hrow3,(hB.alloc sF _).trans hb3,by rw [hstep.out];exact hH2⟩
   case measure=>exact zm
  ·obtain rfl:k=n:=zo
   have hlt':decide ((k:Int)<(k:Int))=false:=by simp
   have hT:eU.take k=eU:=List.take_of_length_le (by have:=hn'.out;omega);rw [hT] at hrow2;obtain ⟨A',cap',rfl⟩:=fF hrow2 rfl;go_wp2_with fail;go_ret;exact ⟨eU,_,hp,hs,rfl,qC hrow2 hws,hb1.trans (hB.mono (Nat.le_trans hbase hws))⟩
theorem Vs {L us:List Sp} {x:Sp} (hC:Go.Pol.Can L) (hm:∀q,mem q L=true↔mem q us=true) (hf:∀y∈L,∃u∈us,y.1=u.1) (hx:bF x=true) (hle:∀u∈us,u.1<=x.1) :
  Go.Pol.Can (dY L x)/\(∀q,mem q (dY L x)=true↔mem q (us++[x])=true)/\(∀y∈dY L x,∃u∈us++[x],y.1=u.1):=by
 have kK:=av.1 hx;rcases List.eq_nil_or_concat L with rfl|⟨pre,l,rfl⟩
 ·rw [xI]
  refine ⟨Go.Pol.Can.one hx,λq=>?_,λy hy=>⟨x,zs,by simp only [List.mem_singleton] at hy;rw [hy]⟩⟩;rw [iY,og,<-hm q,fT];simp
 ·rw [List.concat_eq_append] at *
  rw [vo];obtain ⟨u,hu,hlu⟩:=hf l zs;have hlx:=hle u hu;have hvl:=av.1 (hC.1 l zs);have hfo:=(mf _ _ _).1 hC.2;by_cases h:x.1<=l.1+l.2
  ·rw [if_pos h]
   refine ⟨⟨?_,(mf _ _ _).2 hfo⟩,λq=>?_,λy hy=>?_⟩
   ·intro y hy
    rcases List.mem_append.1 hy with h1|h1
    ·exact hC.1 y (by simp [h1])
    ·simp only [List.mem_singleton] at h1
     subst h1;exact av.2 (by simp only;omega)
   ·rw [og,og,<-hm q,og]
    simp only;constructor
    ·rintro (h1|h1)
     ·exact .inl (.inl h1)
     ·by_cases h2:q<l.1+l.2
      ·exact .inl (.inr zo)
      ·exact .inr zo
    ·rintro ((h1|h1)|h1)
     ·exact .inl h1
     ·exact .inr zo
     ·exact .inr zo
   ·rcases List.mem_append.1 hy with h1|h1
    ·obtain ⟨u',hu',e⟩:=hf y (by simp [h1])
     exact ⟨u',by simp [hu'],e⟩
    ·simp only [List.mem_singleton] at h1
     subst h1;exact ⟨u,by simp [hu],hlu⟩
  ·rw [if_neg h]
   refine ⟨⟨?_,(mf _ _ _).2 ⟨hC.2,?_⟩⟩,λq=>?_,λy hy=>?_⟩
   ·intro y hy
    rcases List.mem_append.1 hy with h1|h1
    ·exact hC.1 y h1
    ·simp only [List.mem_singleton] at h1
     subst h1;exact hx
   ·rw [yU];omega
   ·rw [og,og (l:=us),<-hm q]
   ·rcases List.mem_append.1 hy with h1|h1
    ·obtain ⟨u',hu',e⟩:=hf y h1
     exact ⟨u',by simp [hu'],e⟩
    ·simp only [List.mem_singleton] at h1
     subst h1;exact ⟨y,zs,rfl⟩
theorem I6:∀(us L done:List Sp),Go.Pol.Can L->(∀q,mem q L=true↔mem q done=true)->(∀y∈L,∃u∈done,y.1=u.1)->(∀y∈us,bF y=true)->(∀a∈done,∀b∈us,a.1<=b.1)->us.Pairwise (λa b=>a.1<=b.1) ->
  Go.Pol.Can (us.foldl dY L)/\∀q,mem q (us.foldl dY L)=true↔mem q (done++us)=true
 | [],L,done,hC,hm,_,_,_,_=>⟨hC,λq=>by simpa using hm q⟩
 | x::us,L,done,hC,hm,hf,hv,hle,hp=>by
  obtain ⟨h1,h2,h3⟩:=Vs hC hm hf (hv x zs) (λu hu=>hle u hu x zs);have hp':=List.pairwise_cons.1 hp;have h:=I6 us (dY L x) (done++[x]) h1 h2 h3 (λy hy=>hv y (by simp [hy])) (λa ha b hb=>by
   rcases List.mem_append.1 ha with h|h
   ·exact hle a h b (by simp [hb])
   ·simp only [List.mem_singleton] at h
    subst h;exact hp'.1 b hb) hp'.2
  refine ⟨h.1,λq=>?_⟩;rw [List.foldl_cons,h.2 q,List.append_assoc];rfl
theorem acm {us:List Sp} (hv:∀y∈us,bF y=true) (hp:us.Pairwise (λa b=>a.1<=b.1)):Go.Pol.Can (pI us)/\∀q,mem q (pI us)=true↔mem q us=true:=by
 have h:=I6 us [] [] ⟨zs,rfl⟩ (λq=>Iff.rfl) zs hv zs hp;exact ⟨h.1,λq=>by have:=h.2 q;simpa [pI] using this⟩
theorem Z0 {us vs:List Sp} (h:us.Perm vs) (q:Int):mem q us=mem q vs:=by
 rw [Bool.eq_iff_iff];simp only [mem,List.any_eq_true];exact ⟨λ⟨x,hx,e⟩=>⟨x,h.mem_iff.1 hx,e⟩,λ⟨x,hx,e⟩=>⟨x,h.mem_iff.2 hx,e⟩⟩
theorem acn {us eU s:List Sp} (hv:∀y∈us,bF y=true) (hp:eU.Perm us) (hs:eU.Pairwise (λa b=>a.1<=b.1)) (hC:Go.Pol.Can s) (hm:∀q,mem q s=true↔mem q us=true):pI eU=s:=by
 have h:=acm (λy hy=>hv y (hp.mem_iff.1 hy)) hs;exact h.1.eq hC λq=>by rw [Bool.eq_iff_iff,h.2 q,hm q,Z0 hp]
theorem I7 {us eU:List Sp} (hv:∀y∈us,bF y=true) (h:eU.Perm us) (hs:eU.Pairwise (λa b=>a.1<=b.1)):pI eU=setOf us :=
 acn hv h hs (nO us) (λq=>xK hv q)
theorem ik:bC zeroCells189 (λ_=>false):=by
 have e:zeroCells189=Array.replicate 1024 (.bool false):=zk;rw [e];exact ⟨zs,λk hk=>by simp [hk]⟩
theorem Gg (pg n f b ev:Int) (us:Bool) (w:World) (hp:dO pg n f b ev) (S:List Sp) (hS:ji (zi pg n f b ev us n.toNat)=S) :
  Calls prog 157 #[ek pg n f b ev,.bool us] w (YL w S):=by
 have HK:=ae (λq W h0 h1=>ZT pg n f b ev q W hp h0 h1);have aow:=ae (λcs f W h=>Q8 cs f W h);obtain ⟨p1,p2,p3,p4,p5,p6,p7,p8,p9,p10,p11⟩:=hp;obtain ⟨s,hs⟩:=ah (w.heap.size);obtain ⟨W0,hW0⟩:=ah ((w.alloc (.cells (bg pg n f b ev) 25)).alloc (.cells zeroCells189 189));have hb0:Below s w W0:=by rw [<-hW0,<-hs];exact (aQ w _).alloc zs _
 have kP:af W0 s 25 (bg pg n f b ev):=by rw [<-hW0,<-hs];exact (af.new _ _ _).alloc _
 have kM:af W0 (s+1) 189 zeroCells189:=by
  have:=af.new (w.alloc (.cells (bg pg n f b ev) 25)) 189 zeroCells189;rw [World.size_alloc,hs,hW0] at this;exact this
 have hZ:=ik;have hS':=ae hS;have hW1:=ae hW0;clear hS hW0;go_enter func157,ntmps157;go_upto_region 2 with fail
 try simp only [Nat.add_assoc,Nat.reduceAdd]
 rw [hW1.out];have cP0:=kP.cell;generalize zeroCells189=Z at *;clear hW1;go_wp2_with fail
 go_loopw [6] (λi wr=>∃(j:Nat) (cs:Array Value),(j:Int)<=n/\i = zI (pg+j)/\af wr s 25 (bg pg n f b ev)/\af wr (s+1) 189 cs/\bC cs (zi pg n f b ev us j)/\Below s w wr) (λi _=>(pg+n - intOf i).toNat)
 case atStart=>exact ⟨0,Z,zo,zs,kP,kM,⟨hZ.size,λk hk=>by rw [hZ.at_ k hk];simp [zi];omega⟩,hb0⟩
 case round =>
  obtain ⟨j,cs,hj,rfl,kP,kM,hM,hB⟩:=hrel;have cP:=kP.cell;have sF:=hB.size;have hwl:=kM.lt;by_cases hlt:(j:Int)<n
  ·have hlt':decide (pg+(j:Int)<pg+n)=true:=by simp;omega
   have tT:=ae (λW=>HK.out (pg+j) W zo zo);have hst:=ae (hM.set (g:=zi pg n f b ev us (j+1)) (pg+j).toNat zo ((tN pg n f b ev (pg+j)==0)==us) (by
    have e:(((pg+(j:Int)).toNat:Nat):Int)=pg+j:=zo;simp only [zi,e];rw [decide_eq_true zo,Bool.true_and]) (λk hk=>by
    simp only [zi];congr 1;exact decide_eq_decide.2 zo))
   have hold:=hM.at_ (pg+j).toNat zo;generalize zi pg n f b ev us j (pg+(j:Int)).toNat=B0 at hold;generalize tN pg n f b ev (pg+j)=K at *;have hN:(pg+(j:Int)+1)=pg+((j+1:Nat):Int):=zo;have hN':=ae hN;clear hN
   go_wp2_with (go_at_call 188;refine (tT.out _).mono ?_;rintro e w1 ⟨rfl,hq⟩;have Vh:=kP.call hq;have kM1:=kM.call hq;have fM1:=kM1.frozen;have cM1:w1.cell? ⟨s+1,(pg+(j:Int)).toNat,none⟩=some (.bool B0):=(kM1.cell _).trans hold)
   have rD:ag (λk=>k=s+1) w1 (w1.setCell ⟨s+1,(pg+(j:Int)).toNat,none⟩ (.bool ((K==0)==us))):=ag.setCell (T:=λk=>k=s+1) (p:=⟨s+1,(pg+(j:Int)).toNat,none⟩) (ag.refl _ _) (λ_=>rfl) _;have hB1:=hB.trans (hq.mono zo);go_roundw
   case rel=>exact ⟨j+1,_,zo,by rw [hN'.out],rD.blk Vh zo,kM1.aM _ _,hst.out,hB1.trans (rD.below (by have:=hB1.size;omega) (λk hk=>by omega))⟩
   case measure=>exact zm
  ·have hlt':decide (pg+(j:Int)<pg+n)=false:=by simp;omega
   have hjn:n.toNat=j:=zo;rw [hjn] at hS';have HS2:=ae (λW=>aow.out cs _ W hM);rw [hS'.out] at HS2;have hsz:=hM.size
   go_wp2_with (first
    | (refine wpList_load_mid rfl 189 (.tmp 5) rfl (s+1) 0 rfl cs.toList _ (dZ kM) underlying189 rfl (by rw [Array.length_toList,hsz];kernel_rfl) ?_;rw [Array.toArray_toList])
    | (go_at_call 115;refine (HS2.out _).mono ?_;rintro e w2 ⟨A,cap,rfl,dR,h1,h2,h3,hq2⟩))
   go_ret;exact ⟨A,cap,rfl,dR,h1,h2,λb o e=>by have:=h3 b o e;omega,by rw [hs];exact hB.trans (hq2.mono zo)⟩
section
variable {pg n f b ev:Int}
theorem Z5 (hp:dO pg n f b ev):bF (pg,n)=true:=av.2 ⟨hp.Cv,hp.pg1,hp.n0,hp.n1⟩
theorem Rh (hp:dO pg n f b ev):Go.Pol.Can (eY pg n f b ev)/\∀q,mem q (eY pg n f b ev)=true↔(pg<=q/\q<pg+n)/\mem q (ay pg n f b ev)=false:=by
 unfold eY;rw [if_pos (bR.2 hp)];exact (bN hp).FV (Z5 hp)
theorem I8 {s:List Sp} (hs:Go.Pol.Can s) {p:Int} (hv:bF (p,1)=true):(aZ s (p,1)).isEmpty=mem p s:=by
 obtain ⟨hg,hm⟩:=hs.FV hv;cases hp:mem p s with
 | true =>
  have h0:aZ s (p,1)=[]:=hg.eq ⟨zs,rfl⟩ λq=>by
   rw [fT];cases hq:mem q (aZ s (p,1)) with
   | false=>rfl
   | true =>
    have h:=(hm q).1 hq;simp only at h;have e:q=p:=zo;rw [e,hp] at h;cases h.2
  rw [h0];rfl
 | false =>
  have h1:mem p (aZ s (p,1))=true:=(hm p).2 ⟨by simp only;omega,hp⟩;cases hG:aZ s (p,1) with
  | nil=>rw [hG,fT] at h1;cases h1
  | cons=>rfl
end
def Rk:Go.Shelf.Ren:=⟨fun|6=>182|15=>206|14=>205|28=>223|29=>224|20=>215|21=>216|22=>217|23=>218|24=>219|25=>220|26=>221|27=>222|46=>228|47=>229|48=>230|49=>231|50=>232|57=>234|n=>n,fun|22=>26|24=>85|25=>245|3=>3|39=>257|0=>0|53=>270|55=>272|4=>4|46=>264|45=>263|50=>134|5=>5|9=>9|66=>276|70=>163|76=>282|77=>221|n=>n,fun|n=>n⟩
theorem agB:Go.Proofs.SlLaysF0.n6 prog Rk:={
 mixed:=zk
 f6:=⟨Tryz.f182.name,zd,func182.trans (congrArg some zk)⟩
 f14:=⟨Tryz.f205.name,zd,func205.trans (congrArg some zk)⟩
 f15:=func206.trans (congrArg some zk)
 f20:=⟨Tryz.f215.name,zd,func215.trans (congrArg some zk)⟩
 f21:=⟨Tryz.f216.name,zd,func216.trans (congrArg some zk)⟩
 f22:=⟨Tryz.f217.name,zd,func217.trans (congrArg some zk)⟩
 f23:=⟨Tryz.f218.name,zd,func218.trans (congrArg some zk)⟩
 f24:=⟨Tryz.f219.name,zd,func219.trans (congrArg some zk)⟩
 f25:=⟨Tryz.f220.name,zd,func220.trans (congrArg some zk)⟩
 f26:=⟨Tryz.f221.name,zd,func221.trans (congrArg some zk)⟩
 f27:=⟨Tryz.f222.name,zd,func222.trans (congrArg some zk)⟩
 f28:=func223.trans (congrArg some zk)
 f29:=func224.trans (congrArg some zk)
 f46:=⟨Tryz.f228.name,zd,func228.trans (congrArg some zk)⟩
 f47:=func229.trans (congrArg some zk)
 f48:=func230.trans (congrArg some zk)
 f49:=⟨Tryz.f231.name,zd,func231.trans (congrArg some zk)⟩
 f50:=⟨Tryz.f232.name,zd,func232.trans (congrArg some zk)⟩
 f57:=⟨Tryz.f234.name,zd,func234.trans (congrArg some zk)⟩
 t0:=underlying0
 a0:=Tryz.isAgg0
 z0:=Tryz.sizeOf0
 v0:=Tryz.zeroValue0
 t3:=underlying3
 a3:=Tryz.isAgg3
 z3:=Tryz.sizeOf3
 v3:=Tryz.zeroValue3
 t4:=underlying4
 a4:=Tryz.isAgg4
 z4:=Tryz.sizeOf4
 v4:=Tryz.zeroValue4
 t5:=underlying5
 a5:=Tryz.isAgg5
 z5:=Tryz.sizeOf5
 v5:=Tryz.zeroValue5
 t9:=underlying9
 a9:=Tryz.isAgg9
 z9:=Tryz.sizeOf9
 v9:=Tryz.zeroValue9
 t22:=underlying26
 a22:=Tryz.isAgg26
 z22:=Tryz.sizeOf26
 v22:=Tryz.zeroValue26
 t25:=underlying245
 a25:=Tryz.isAgg245
 z25:=Tryz.sizeOf245
 v25:=Tryz.zeroValue245
 t39:=underlying257
 a39:=Tryz.isAgg257
 z39:=Tryz.sizeOf257
 v39:=Tryz.zeroValue257
 t45:=underlying263
 a45:=Tryz.isAgg263
 z45:=Tryz.sizeOf263
 v45:=Tryz.zeroValue263
 t46:=underlying264
 a46:=Tryz.isAgg264
 z46:=Tryz.sizeOf264
 v46:=Tryz.zeroValue264
 t50:=underlying134
 a50:=Tryz.isAgg134
 z50:=Tryz.sizeOf134
 v50:=Tryz.zeroValue134
 t53:=underlying270
 a53:=Tryz.isAgg270
 z53:=Tryz.sizeOf270
 v53:=Tryz.zeroValue270
 t55:=underlying272
 a55:=Tryz.isAgg272
 z55:=Tryz.sizeOf272
 v55:=Tryz.zeroValue272
 t66:=underlying276
 a66:=Tryz.isAgg276
 z66:=Tryz.sizeOf276
 v66:=Tryz.zeroValue276
 t70:=underlying163
 a70:=Tryz.isAgg163
 z70:=Tryz.sizeOf163
 v70:=Tryz.zeroValue163
 t76:=underlying282
 a76:=Tryz.isAgg282
 z76:=Tryz.sizeOf282
 v76:=Tryz.zeroValue282
 t77:=underlying221
 a77:=Tryz.isAgg221
 z77:=Tryz.sizeOf221
 v77:=Tryz.zeroValue221 }
def Rl:Go.Shelf.Ren:=⟨fun|4=>186|n=>n,fun|22=>26|25=>85|3=>3|4=>4|9=>9|20=>20|0=>0|2=>3|n=>n,fun|n=>n⟩
theorem YN:Go.Proofs.Lays8.n4 prog Rl:={
 mixed:=zk
 f4:=⟨Tryz.f186.name,zd,func186.trans (congrArg some zk)⟩
 t0:=underlying0
 a0:=Tryz.isAgg0
 z0:=Tryz.sizeOf0
 v0:=Tryz.zeroValue0
 t3:=underlying3
 a3:=Tryz.isAgg3
 z3:=Tryz.sizeOf3
 v3:=Tryz.zeroValue3
 t4:=underlying4
 a4:=Tryz.isAgg4
 z4:=Tryz.sizeOf4
 v4:=Tryz.zeroValue4
 t9:=underlying9
 a9:=Tryz.isAgg9
 z9:=Tryz.sizeOf9
 v9:=Tryz.zeroValue9
 t20:=underlying20
 a20:=Tryz.isAgg20
 z20:=Tryz.sizeOf20
 v20:=Tryz.zeroValue20
 t22:=underlying26
 a22:=Tryz.isAgg26
 z22:=Tryz.sizeOf26
 v22:=Tryz.zeroValue26 }
end Go.Proofs.YtlgcpjhimomiaaaGreat
