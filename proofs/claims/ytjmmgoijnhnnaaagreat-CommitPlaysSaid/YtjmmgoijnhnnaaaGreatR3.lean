/- A slice of its own that a loop over a function value appends to, while the function makes blocks of its own: the slice's block is none of those. -/
import Derived.Laws.AppendOwn
import Derived.Test.YtjmmgoijnhnnaaaGreatChecked
import Derived.Shelf.Abstract
import Derived.Test.YtjmmgoijnhnnaaaGreatR2
set_option maxRecDepth 100000
set_option maxHeartbeats 12800000
namespace Go.Pol
open Go Go.RowKit Go.Proofs.Tryz
structure zS (X:Nat→Prop) (w:World) (B:Nat) (tb te:TypeId) (base size n:Nat) (cs:List Value):Prop where
 ex:∃v,ag w B tb #[v]∧w.ownsRow base te size v n cs∧¬X B∧∀g,v.ownBlock=some g→¬X g
section
variable {X X' T:Nat→Prop} {w w' w1:World} {B:Nat} {tb te:TypeId} {base size n:Nat} {cs cs':List Value} {v v':Value}
theorem zS.far (h:zS X w B tb te base size n cs) (hf:af T w w') (hB:T B→X B) (hT:∀g,base≤g→T g→X g):zS X w' B tb te base size n cs:=by
 obtain ⟨v,h1,h2,h3,h4⟩:=h.ex;exact ⟨v,hf.blk h1 (fun h=>h3 (hB h)),aK h2 hf (fun g hg h=>h4 g hg (hT g (h2.lt g hg).1 h)),h3,h4⟩
theorem zS.new (h:zS X w B tb te base size n cs) (hX:∀k,X' k→X k∨w.heap.size≤k):zS X' w B tb te base size n cs:=by
 obtain ⟨v,h1,h2,h3,h4⟩:=h.ex;refine ⟨v,h1,h2,fun h=>(hX _ h).elim h3 (fun h=>by have:=h1.lt;omega),fun g hg h=>(hX _ h).elim (h4 g hg) (fun h=>by have:=(h2.lt g hg).2;omega)⟩
theorem zS.appended {tmp:Obj} {m:Nat} (hv:ag w B tb #[v]) (hte:tb≠te) (hrow:w.ownsRow base te size v n cs) (XO:¬X B) (Vv:∀g,v.ownBlock=some g→¬X g)
  (hown:w1.ownsRow base te size v' m cs') (hg:(w.alloc tmp).grownBy w1 v.ownBlock) (hblk:∀g,v'.ownBlock=some g→v.ownBlock=some g∨(w.alloc tmp).heap.size≤g) (hXlt:∀k,X k→k<w.heap.size) :
  ag w1 B tb #[v]∧zS X (w1.setCell ⟨B,0,none⟩ v') B tb te base size m cs'∧∀(T:Nat→Prop),T B→(∀g,v.ownBlock=some g→T g)→af T w (w1.setCell ⟨B,0,none⟩ v'):=by
 have hv1:ag w1 B tb #[v]:=(hv.alloc tmp).grown hg (fun e=>hv.not_row hrow hte e.symm);refine ⟨hv1,⟨v',by simpa using hv1.aO 0 v',?_,XO,fun g hg' hx=>?_⟩,fun T hTB hT=>?_⟩
 ·have nE:af (fun k=>k=B) w1 (w1.setCell ⟨B,0,none⟩ v'):=af.setCell (T:=fun k=>k=B) (p:=⟨B,0,none⟩) (af.refl _ _) (fun _=>rfl) v'
  exact aK hown nE (fun g hg' e=>by subst e;exact hv1.not_row hown hte hg')
 ·rcases hblk g hg' with h|h
  ·exact Vv g h hx
  ·have:=hXlt g hx
   simp at h;omega
 ·have h1:af T w (w.alloc tmp):=(af.refl T w).alloc tmp
  refine (h1.grown hg (fun r e hr=>?_)).setCell (p:=⟨B,0,none⟩) (fun _=>hTB) v';exact hT r e
end
def fl {α:Type} (enc:α→List Value) (us:List α):List Value:=us.flatMap enc
section
variable {α:Type} {enc:α→List Value} {sz:Nat}
theorem si (x:α) (r:List α):fl enc (x::r)=enc x++fl enc r:=by simp [fl]
theorem jd (a b:List α):fl enc (a++b)=fl enc a++fl enc b:=by simp [fl]
theorem lT (h:∀x,(enc x).length=sz):∀us:List α,(fl enc us).length=us.length*sz
 | []=>by simp [fl]
 | x::r=>by rw [si,List.length_append,h x,lT h r,List.length_cons,Nat.succ_mul,Nat.add_comm]
theorem yj (h:∀x,(enc x).length=sz) (d:α):∀(us:List α) (k:Nat),k<us.length→∀j,j<sz→(fl enc us)[k*sz+j]? = (enc (us.getD k d))[j]?
 | [],k,hk,_,_=>by simp at hk
 | x::r,0,_,j,hj=>by
  rw [si,Nat.zero_mul,Nat.zero_add,List.getElem?_append_left (by rw [h x];exact hj)];rfl
 | x::r,k+1,hk,j,hj=>by
  have ih:=yj h d r k (by simpa using hk) j hj;rw [si,List.getElem?_append_right (by rw [h x,Nat.succ_mul];omega),h x,show (k+1)*sz+j - sz=k*sz+j by rw [Nat.succ_mul];omega,ih];rfl
end
section
variable {w w':World} {B:Nat} {A:Option Addr} {xs:List Value}
theorem Rd.fw (h:Rd w w.heap.size A xs) (hb:Below w.heap.size w w'):Rd w' w'.heap.size A xs:=(h.below hb).more hb.size
theorem Rd.elem {α:Type} {enc:α→List Value} {sz:Nat} {us:List α} (hr:Rd w B A (fl enc us)) (h:∀x,(enc x).length=sz) (h0:0<sz) (d:α) {k:Nat} (hk:k<us.length) :
  ∃b o,A=some ⟨b,o,none⟩∧b<B∧∀(j:Nat) (v:Value),(enc (us.getD k d))[j]? = some v→w.cell? ⟨b,o+k*sz+j,none⟩=some v:=by
 have hl:=lT h us;have hkz:k*sz+sz≤us.length*sz:=by rw [←Nat.succ_mul];exact Nat.mul_le_mul_right sz hk
 obtain ⟨b,o,e,hb,_⟩:=hr (k*sz) (by omega);refine ⟨b,o,e,hb,fun j v hj=>?_⟩;have hjz:j<sz:=by rw [←h (us.getD k d)];exact (List.getElem?_eq_some_iff.1 hj).1
 obtain ⟨b',o',e',_,hc⟩:=hr (k*sz+j) (by omega);rw [e] at e';cases e';rw [Nat.add_assoc,hc];have:=yj h d us k hk j hjz;rw [hj,List.getElem?_eq_getElem (by omega)] at this;exact this
theorem Rd.src (h:Rd w w.heap.size A xs) (ad:Addr) (hA:A=some ad):∀(j:Nat) (u:Value),xs[j]? = some u→w.cell? (ad.add j)=some u:=fun j u hj=>by
 obtain ⟨hlt,e⟩:=List.getElem?_eq_some_iff.1 hj;obtain ⟨b,o,e',_,hc⟩:=h j hlt;rw [hA] at e';cases e';rw [dh,hc,e]
theorem dC {base n sz:Nat} {e:TypeId} {v:Value} (h:w.ownsRow base e sz v n xs):∃(A:Option Addr) (cap:Nat),v= .slice A n cap∧Rd w w.heap.size A xs∧n≤cap∧cap≤maxLen∧(∀b o,A=some ⟨b,o,none⟩→base≤b)∧(A=none→cap=0):=by
 have hv:=h;rcases h.2 with ⟨rfl,h0⟩|⟨g,cap,cur,rfl,hg,hk,hnc,hcm,_⟩
 ·subst h0
  have:xs=[]:=List.eq_nil_of_length_eq_zero (by rw [h.1];simp);subst this;exact ⟨none,0,rfl,fun k hk=>absurd hk (by simp),Nat.le_refl _,by unfold maxLen;omega,fun b o e=>(by cases e),fun _=>rfl⟩
 ·refine ⟨_,cap,rfl,fun k hk'=>?_,hnc,hcm,fun b o e=>by cases e;exact hg,fun e=>by cases e⟩
  have c0:=hv.cellAt k (by rw [←h.1];exact hk');refine ⟨g,0,rfl,ag.lt hk,?_⟩;rw [Nat.zero_add,c0,List.getElem?_eq_getElem hk']
theorem XP {base n sz:Nat} {e:TypeId} {v:Value} (h:w.ownsRow base e sz v n xs):∃(A:Option Addr) (cap:Nat),v= .slice A n cap∧Rd w w.heap.size A xs∧n≤cap∧cap≤maxLen∧(∀b o,A=some ⟨b,o,none⟩→base≤b)∧(A=none→cap=0)∧∀b o,A=some ⟨b,o,none⟩→∃cs,ag w b e cs:=by
 obtain ⟨A,cap,h1,h2,h3,h4,h5,h6⟩:=dC h;refine ⟨A,cap,h1,h2,h3,h4,h5,h6,fun b o hA=>?_⟩;rcases h.2 with ⟨hv,_⟩|⟨g,cap',cur,hv,_,hk,_⟩
 ·rw [h1,hA] at hv;cases hv
 ·rw [h1,hA] at hv;cases hv;exact ⟨cur,hk⟩
theorem di {base n sz g:Nat} {e t:TypeId} {v:Value} {cs:Array Value} (h:w.ownsRow base e sz v n xs) (hv:v.ownBlock=some g) (hc:ag w g t cs) (hne:e≠t):False:=by
 rcases h.2 with ⟨rfl,_⟩|⟨g',cap',cur,rfl,_,hk,_⟩
 ·cases hv
 ·have e':g'=g:=by injection hv
  subst e';exact ag.uR (g:=g') hk hc hne rfl
end
theorem dP {w:World} {g:Nat} {t:TypeId} {cs:Array Value} (h:ag w g t cs) (o n:Nat) (hn:o+n≤cs.size):w.there g o n:=fun j hj=>by
 exact ⟨by rw [h.cell];simp;omega,h.frozen _⟩
def jr (cs:Array Value):Nat→List Value→Array Value
 | _,[]=>cs
 | o,v::vs=>jr (cs.setIfInBounds o v) (o+1) vs
theorem lJ (cs:Array Value):∀(o:Nat) (vs:List Value),(jr cs o vs).size=cs.size
 | _,[]=>rfl
 | o,v::vs=>by rw [jr,lJ (cs.setIfInBounds o v) (o+1) vs];simp
theorem lU:∀(vs:List Value) (cs:Array Value) (o:Nat),o+vs.length≤cs.size→∀i,(jr cs o vs)[i]? = if o≤i∧i<o+vs.length then vs[i - o]? else cs[i]?
 | [],cs,o,_,i=>by rw [jr,if_neg (by simp only [List.length_nil];omega)]
 | v::vs,cs,o,h,i=>by
  rw [List.length_cons] at h;rw [jr,lU vs _ _ (by simp;omega) i];by_cases h1:i=o
  ·subst h1
   rw [if_neg (by omega),if_pos (by simp),Nat.sub_self,Array.getElem?_setIfInBounds_self_of_lt (by omega)];rfl
  ·by_cases h2:o+1≤i∧i<o+1+vs.length
   ·rw [if_pos h2,if_pos (by simp;omega),show i - o=(i - (o+1))+1 by omega,List.getElem?_cons_succ]
   ·rw [if_neg h2,if_neg (by simp;omega),Array.getElem?_setIfInBounds,if_neg (by omega)]
theorem ag.puts {w:World} {g:Nat} {t:TypeId} {cs:Array Value}:∀(vs:List Value) (o:Nat) (w:World) (cs:Array Value),ag w g t cs→ag (w.setCells g o vs) g t (jr cs o vs)
 | [],_,_,_,h=>h
 | v::vs,o,_,_,h=>ag.puts (cs:=cs) (w:=w) vs (o+1) _ _ (h.aO o v)
theorem eB {cs:Array Value} {vs:List Value} (h:cs.size=vs.length):jr cs 0 vs=vs.toArray:=by
 apply Array.ext_getElem?;intro i;rw [lU vs cs 0 (by omega) i];by_cases hi:i<vs.length
 ·rw [if_pos (by omega)];simp
 ·rw [if_neg (by omega),Array.getElem?_eq_none (by omega),Array.getElem?_eq_none (by simpa using hi)]
theorem af.puts {T:Nat→Prop} {g:Nat} (hT:T g):∀(vs:List Value) (o:Nat) (A B:World),af T A B→af T A (B.setCells g o vs)
 | [],_,_,_,h=>h
 | v::vs,o,_,_,h=>af.puts hT vs (o+1) _ _ (h.setCell (p:=⟨g,o,none⟩) (fun _=>hT) v)
abbrev Ru:=Int×Int×Int×Int
def oW:Ru:=(0,0,0,0)
def iN (x:Ru):List Value:=[.int .i64 x.1,.int .i64 x.2.1,.int .i64 x.2.2.1,.int .i64 x.2.2.2]
theorem jJ (x:Ru):(iN x).length=4:=rfl
abbrev NF (x:Ru):Value:=.agg #[.int .i64 x.1,.int .i64 x.2.1,.int .i64 x.2.2.1,.int .i64 x.2.2.2]
theorem NG (us:List Ru):∀u∈fl iN us,u.oneCell'=true:=by
 intro u hu;simp only [fl,List.mem_flatMap,iN,List.mem_cons,List.not_mem_nil,or_false] at hu;obtain ⟨x,_,rfl|rfl|rfl|rfl⟩:=hu <;> rfl
def eT (x:Ru):Int :=
 if x.1<0∨7≤x.1 then 2 else if x.2.1<1∨10000<x.2.1∨x.2.2.1<0∨12<x.2.2.1∨x.2.2.2<0∨1000<x.2.2.2 then 7 else if x.2.2.1=0∧x.2.2.2≠1 then 6 else 0
def xG:Nat→List Ru→Int×Int
 | _,[]=>(0,0)
 | i,x::r=>if eT x≠0 then ((i:Int),eT x) else xG (i+1) r
def ic (l:List Ru):Int×Int:=if 50<l.length then (0,3) else xG 0 l
theorem FU:∀(l:List Ru) (i:Nat),(xG i l).2=0↔∀x∈l,eT x=0
 | [],i=>by simp [xG]
 | x::r,i=>by
  rw [xG];by_cases h:eT x=0
  ·rw [if_neg (by simp [h]),FU r (i+1)];simp [h]
  ·rw [if_pos h];simp [h]
theorem mX {l:List Ru}:(ic l).2=0↔l.length≤50∧∀x∈l,eT x=0:=by
 unfold ic;by_cases h:50<l.length
 ·rw [if_pos h];simp;omega
 ·rw [if_neg h,FU];simp;omega
theorem jv {x:Ru}:eT x=0↔(0≤x.1∧x.1<7)∧(1≤x.2.1∧x.2.1≤10000)∧(0≤x.2.2.1∧x.2.2.1≤12)∧(0≤x.2.2.2∧x.2.2.2≤1000)∧(x.2.2.1=0→x.2.2.2=1):=by
 unfold eT;by_cases h1:x.1<0∨7≤x.1
 ·rw [if_pos h1];simp;omega
 ·rw [if_neg h1]
  by_cases h2:x.2.1<1∨10000<x.2.1∨x.2.2.1<0∨12<x.2.2.1∨x.2.2.2<0∨1000<x.2.2.2
  ·rw [if_pos h2];simp;omega
  ·rw [if_neg h2]
   by_cases h3:x.2.2.1=0∧x.2.2.2≠1
   ·rw [if_pos h3];simp;omega
   ·rw [if_neg h3];simp;omega
def qg (x:Ru) (n:Int):Bool:=decide (x.2.1≤n)&&(if x.2.2.1=0 then decide (n=x.2.1) else decide ((n - x.2.1) % x.2.2.1=0)&&(decide (x.2.2.2=0)||decide ((n - x.2.1) / x.2.2.1<x.2.2.2)))
def nT (l:List Ru) (k n:Int):Bool:=l.any fun x=>x.1==k&&qg x n
def nI (l:List Ru) (k:Int):Nat→Int
 | 0=>0
 | n+1=>nI l k n+if nT l k ((n:Int)+1)=true then 1 else 0
def Vw (x:Ru) (n:Int):Int :=
 if n<x.2.1 then x.2.1 else if x.2.2.1=0 then 0 else
 if 0<x.2.2.2∧x.2.2.2≤(n - x.2.1) / x.2.2.1+1 then 0 else x.2.1+((n - x.2.1) / x.2.2.1+1)*x.2.2.1
theorem XQ {x:Ru} (h:eT x=0) {n:Int} (hn:1≤n):(Vw x (n - 1)==n)=qg x n:=by
 obtain ⟨_,h1,h2,h3,h4⟩:=jv.1 h;obtain ⟨k,f,e,t⟩:=x;simp only at h1 h2 h3 h4;unfold Vw qg;simp only;rw [Bool.eq_iff_iff,beq_iff_eq];by_cases c1:n - 1<f
 ·rw [if_pos c1]
  constructor
  ·rintro rfl
   by_cases c2:e=0
   ·simp [c2]
   ·have:0<t∨t=0:=by omega
    rw [if_neg c2];simp;omega
  ·intro h
   by_cases c2:e=0
   ·rw [if_pos c2] at h;simp at h;omega
   ·simp at h;omega
 ·rw [if_neg c1]
  have hfn:f≤n:=by omega
  by_cases c2:e=0
  ·rw [if_pos c2,if_pos c2];simp;omega
  ·rw [if_neg c2,if_neg c2]
   have he:0<e:=by omega
   obtain ⟨q,hq⟩:=aj ((n - 1 - f) / e);obtain ⟨r,hr⟩:=aj ((n - 1 - f) % e);have hd:=Int.emod_add_mul_ediv (n - 1 - f) e;have hr0:=Int.emod_nonneg (n - 1 - f) c2;have hr1:=Int.emod_lt_of_pos (n - 1 - f) he;rw [hq,hr] at hd;rw [hr] at hr0 hr1;rw [hq];by_cases c3:r+1=e
   ·have e1:n - f=e*(q+1):=by rw [Int.mul_add];omega
    have e2:(n - f) % e=0:=by rw [e1];exact Int.mul_emod_right e (q+1)
    have e3:(n - f) / e=q+1:=by rw [e1];exact Int.mul_ediv_cancel_left (q+1) c2
    have e4:(q+1)*e=n - f:=by rw [e1,Int.mul_comm]
    rw [e2,e3];by_cases c4:0<t∧t≤q+1
    ·rw [if_pos c4]
     simp;omega
    ·rw [if_neg c4,e4]
     simp;omega
   ·have e1:n - f=(r+1)+e*q:=by omega
    have e2:(n - f) % e=r+1:=by
     rw [e1,Int.add_mul_emod_self_left,Int.emod_eq_of_lt (by omega) (by omega)]
    have e4:(q+1)*e=e*q+e:=by rw [Int.add_mul,Int.one_mul,Int.mul_comm]
    rw [e2];constructor
    ·intro h
     by_cases c4:0<t∧t≤q+1
     ·rw [if_pos c4] at h;omega
     ·rw [if_neg c4,e4] at h;omega
    ·intro h
     simp at h;omega
theorem NH {x:Ru} (h:eT x=0) {n:Int} (hr:qg x n=true):1≤n:=by
 obtain ⟨_,h1,_⟩:=jv.1 h;unfold qg at hr;simp at hr;omega
def lV (x:Ru) (lim:Int):Nat→Nat→List Int
 | 0,_=>[]
 | d+1,i=>if x.2.1+(i:Int)*x.2.2.1≤lim∧(x.2.2.2=0∨(i:Int)<x.2.2.2) then (x.2.1+(i:Int)*x.2.2.1)::lV x lim d (i+1) else []
def zg (x:Ru) (lim:Int):List Int:=lV x lim (lim.toNat+2) 0
theorem FV {i j:Nat} {e:Int} (he:0≤e) (h:i≤j):(i:Int)*e≤(j:Int)*e:=Int.mul_le_mul_of_nonneg_right (by omega) he
theorem Uh {i:Nat} {e:Int} (he:1≤e):(i:Int)≤(i:Int)*e:=by
 have:=Int.mul_le_mul_of_nonneg_left he (show (0:Int)≤i by omega);rw [Int.mul_one] at this;exact this
theorem D7 {x:Ru} (h:eT x=0) (lim:Int):∀(d i:Nat),lim+2≤(d:Int)+i→∀m,m∈lV x lim d i↔∃j:Nat,i≤j∧m=x.2.1+(j:Int)*x.2.2.1∧m≤lim∧(x.2.2.2=0∨(j:Int)<x.2.2.2)
 | 0,i,hd,m=>by
  obtain ⟨_,h1,h2,h3,h4⟩:=jv.1 h;constructor
  ·intro hm;cases hm
  ·rintro ⟨j,hij,rfl,hl,ht⟩
   by_cases he:x.2.2.1=0
   ·have:=h4 he
    rw [he,Int.mul_zero] at hl;omega
   ·have:=Uh (i:=j) (e:=x.2.2.1) (by omega)
    omega
 | d+1,i,hd,m=>by
  obtain ⟨_,h1,h2,h3,h4⟩:=jv.1 h;rw [lV];by_cases hc:x.2.1+(i:Int)*x.2.2.1≤lim∧(x.2.2.2=0∨(i:Int)<x.2.2.2)
  ·rw [if_pos hc,List.mem_cons,D7 h lim d (i+1) (by omega) m]
   constructor
   ·rintro (rfl|⟨j,h5,h6⟩)
    ·exact ⟨i,Nat.le_refl _,rfl,hc.1,hc.2⟩
    ·exact ⟨j,by omega,h6⟩
   ·rintro ⟨j,h5,h6,h7⟩
    by_cases e:j=i
    ·subst e;exact .inl h6
    ·exact .inr ⟨j,by omega,h6,h7⟩
  ·rw [if_neg hc]
   constructor
   ·intro hm;cases hm
   ·rintro ⟨j,hij,rfl,hl,ht⟩
    refine absurd ⟨?_,?_⟩ hc
    ·have:=FV (e:=x.2.2.1) h2.1 hij;omega
    ·omega
theorem NI {x:Ru} (h:eT x=0) {lim:Int} (hl:0≤lim) (m:Int):m∈zg x lim↔m≤lim∧qg x m=true:=by
 obtain ⟨_,h1,h2,h3,h4⟩:=jv.1 h;unfold zg;rw [D7 h lim _ 0 (by omega) m];unfold qg;constructor
 ·rintro ⟨j,_,rfl,hl,ht⟩
  refine ⟨hl,?_⟩;have h5:=FV (e:=x.2.2.1) h2.1 (Nat.zero_le j);have e1:x.2.1+(j:Int)*x.2.2.1 - x.2.1=(j:Int)*x.2.2.1:=by omega
  rw [e1];by_cases he:x.2.2.1=0
  ·rw [if_pos he,he];simp
  ·rw [if_neg he,Int.mul_emod_left,Int.mul_ediv_cancel _ he]
   simp;omega
 ·rintro ⟨hm,hr⟩
  rw [Bool.and_eq_true,decide_eq_true_eq] at hr;obtain ⟨hr1,hr2⟩:=hr;by_cases he:x.2.2.1=0
  ·rw [if_pos he,decide_eq_true_eq] at hr2
   have:=h4 he;refine ⟨0,Nat.le_refl _,?_,hm,?_⟩
   ·rw [he];omega
   ·omega
  ·rw [if_neg he,Bool.and_eq_true,decide_eq_true_eq,Bool.or_eq_true,decide_eq_true_eq,decide_eq_true_eq] at hr2
   have hq:=Int.ediv_nonneg (a:=m - x.2.1) (b:=x.2.2.1) (by omega) (by omega);have hd:=Int.emod_add_mul_ediv (m - x.2.1) x.2.2.1;rw [hr2.1,Int.mul_comm] at hd;refine ⟨((m - x.2.1) / x.2.2.1).toNat,Nat.zero_le _,?_,hm,?_⟩
   ·rw [Int.toNat_of_nonneg hq];omega
   ·rw [Int.toNat_of_nonneg hq];exact hr2.2
theorem FW {x:Ru} (h:eT x=0) {lim:Int} {d i:Nat} (hd:lim+2≤(d:Int)+i) (h1:x.2.1+(i:Int)*x.2.2.1≤lim) (h2:x.2.2.2=0∨(i:Int)<x.2.2.2) :
  0<d∧lV x lim d i=(x.2.1+(i:Int)*x.2.2.1)::lV x lim (d - 1) (i+1)∧(x.2.1+(i:Int)*x.2.2.1)+x.2.2.1=x.2.1+((i+1:Nat):Int)*x.2.2.1∧(i:Int)≤lim:=by
 obtain ⟨_,k1,k2,k3,k4⟩:=jv.1 h;have hil:(i:Int)≤lim:=by
  by_cases he:x.2.2.1=0
  ·have:=k4 he
   rw [he,Int.mul_zero] at h1;omega
  ·have:=Uh (i:=i) (e:=x.2.2.1) (by omega)
   omega
 have hd0:0<d:=by omega
 refine ⟨hd0,?_,?_,hil⟩
 ·obtain ⟨d',rfl⟩:∃d',d=d'+1:=⟨d - 1,by omega⟩
  rw [lV,if_pos ⟨h1,h2⟩];rfl
 ·rw [show ((i+1:Nat):Int)=(i:Int)+1 by omega,Int.add_mul,Int.one_mul];omega
theorem D8 {x:Ru} {lim:Int} {d i:Nat} (h:¬(x.2.1+(i:Int)*x.2.2.1≤lim∧(x.2.2.2=0∨(i:Int)<x.2.2.2))):lV x lim d i=[]:=by
 cases d with
 | zero=>rfl
 | succ d=>rw [lV,if_neg h]
theorem Vx (l:List Ru) (x:Ru) (k n:Int):nT (l++[x]) k n=(nT l k n||(x.1==k&&qg x n)):=by simp [nT]
theorem uB (l:List Ru) (k:Int):∀n,0≤nI l k n∧nI l k n≤n
 | 0=>by simp [nI]
 | n+1=>by
  have:=uB l k n;rw [nI];split <;> omega
structure Rf where
 rules:List Ru
 calls:Nat→Int
 hits:Nat→Int
def qh (f:Nat→Int) (k:Nat) (v:Int) (q:Nat):Int:=if q=k then v else f q
theorem fZ {P:Program} {fn:Func} {a u:Tmp} {t:TypeId} {tmps:Array Value} {w:World} {v:Value} {p:Addr} (h:fn.results=#[.cell a t,.tmp u]) (ha:tmps.getD a undef= .pointer (some p)) (hl:(loadVar t p).run P w= .ok v w) :
  (results fn tmps).run P w= .ok (.tuple #[v,tmps.getD u undef]) w:=by
 have ha':tmps[a]?.getD undef= .pointer (some p):=by rw [←ha,Array.getD_eq_getD_getElem?]
 simp [results,h,ha',asAddr,hl]
def aM (v:Value) (cs hs:Nat→Int):List Value:=[v,.int .i64 (cs 0),.int .i64 (cs 1),.int .i64 (cs 2),.int .i64 (cs 3),.int .i64 (cs 4),.int .i64 (cs 5),.int .i64 (cs 6),
 .int .i64 (hs 0),.int .i64 (hs 1),.int .i64 (hs 2),.int .i64 (hs 3),.int .i64 (hs 4),.int .i64 (hs 5),.int .i64 (hs 6)]
theorem jK {v:Value} (hv:v.oneCell'=true) (cs hs:Nat→Int):∀x∈aM v cs hs,x.oneCell'=true:=by
 intro x hx;simp only [aM,List.mem_cons,List.not_mem_nil,or_false] at hx;rcases hx with rfl|rfl|rfl|rfl|rfl|rfl|rfl|rfl|rfl|rfl|rfl|rfl|rfl|rfl|rfl
 ·exact hv
 all_goals rfl
def gK (v:Value) (cs hs:Nat→Int):Value:=.agg (aM v cs hs).toArray
def BQ (l:List Ru) (w:World) (v:Value) (w':World):Prop:=∃(A:Option Addr) (cap:Nat),v= .slice A l.length cap∧Rd w' w'.heap.size A (fl iN l)∧l.length≤cap∧cap≤maxLen∧(∀b o,A=some ⟨b,o,none⟩→w.heap.size≤b)∧((A=none→cap=0)∧∀g o,A=some ⟨g,o,none⟩→l≠[]→∃cr,ag w' g 164 cr)∧Below w.heap.size w w'
theorem zi {α:Type} {pre rest xs:List α} {x:α} (h:xs=pre++x::rest):pre++[x] <+: xs:=⟨rest,by simp [h]⟩
def mY (s lim:Nat) (A:Option Addr) (n cap:Nat) (f:Nat→Bool) (Ds:List Nat) (w wr:World):Prop :=
 ∃cs:Array Value,ag wr (s+1) 4 cs∧cs.size=lim+1∧(∀m,m≤lim→cs[m]? = some (.bool (f m)))∧ag wr s 28 #[.slice A n cap]∧ag wr (s+2) 259 #[.slice (some ⟨s+1,0,none⟩) (lim+1) (lim+1)] ∧
  (∀D∈Ds,s+3≤D∧wr.heap[D]? = some (.deferred (some [])))∧Ds.Pairwise (fun a b=>a≠b)∧(∀D∈Ds,D<wr.heap.size)∧Below s w wr
section
variable {s lim:Nat} {A:Option Addr} {n cap:Nat} {f g:Nat→Bool} {Ds:List Nat} {w wr w':World} {T:Nat→Prop}
theorem mY.far (h:mY s lim A n cap f Ds w wr) (hF:af T wr w') (hT:∀k,T k→s+3≤k∧k∉Ds):mY s lim A n cap f Ds w w':=by
 obtain ⟨cs,kM,hcs,hcm,kP,kO,hDs,Ji,hDl,hB⟩:=h;have hlt:=kM.lt;refine ⟨cs,hF.blk kM (fun ht=>by have:=(hT _ ht).1;omega),hcs,hcm,hF.blk kP (fun ht=>by have:=(hT _ ht).1;omega),hF.blk kO (fun ht=>by have:=(hT _ ht).1;omega),
  fun D hD=>⟨(hDs D hD).1,hF.same (hDs D hD).2 (fun ht=>(hT _ ht).2 hD)⟩,Ji,fun D hD=>by have:=hDl D hD;have:=hF.size;omega,hB.trans (hF.below (by omega) (fun k hk ht=>by have:=(hT _ ht).1;omega))⟩
theorem mY.mark (h:mY s lim A n cap f Ds w wr) {m:Nat} (hm:m≤lim) (hg:∀q,q≤lim→g q=if q=m then true else f q):mY s lim A n cap g Ds w (wr.setCell ⟨s+1,m,none⟩ (.bool true)):=by
 obtain ⟨cs,kM,hcs,hcm,kP,kO,hDs,Ji,hDl,hB⟩:=h;have hlt:=kM.lt;have hF:af (fun k=>k=s+1) wr (wr.setCell ⟨s+1,m,none⟩ (.bool true)):=af.setCell (T:=fun k=>k=s+1) (p:=⟨s+1,m,none⟩) (af.refl _ _) (fun _=>rfl) _;refine ⟨_,kM.aO m _,by simp [hcs],fun q hq=>?_,hF.blk kP (by omega),hF.blk kO (by omega),fun D hD=>⟨(hDs D hD).1,hF.same (hDs D hD).2 (by have:=(hDs D hD).1;omega)⟩,Ji,fun D hD=>by have:=hDl D hD;have:=hF.size;omega,hB.trans (hF.below (by omega) (fun k hk ht=>by omega))⟩;rw [hg q hq,Array.getElem?_setIfInBounds];by_cases e:m=q
 ·subst e;rw [if_pos rfl,if_pos rfl,if_pos (by omega)]
 ·rw [if_neg e,if_neg (Ne.symm e)];exact hcm q hq
theorem mY.congr (h:mY s lim A n cap f Ds w wr) (hg:∀q,q≤lim→g q=f q):mY s lim A n cap g Ds w wr:=by
 obtain ⟨cs,kM,hcs,hcm,r⟩:=h;exact ⟨cs,kM,hcs,fun m hm=>by rw [hg m hm];exact hcm m hm,r⟩
theorem mY.more (h:mY s lim A n cap f Ds w wr) {D:Nat} (hD:wr.heap[D]? = some (.deferred (some []))) (hs:s+3≤D) (hn:D∉Ds):mY s lim A n cap f (D::Ds) w wr:=by
 obtain ⟨cs,kM,hcs,hcm,kP,kO,hDs,Ji,hDl,hB⟩:=h;refine ⟨cs,kM,hcs,hcm,kP,kO,fun D' h'=>?_,List.pairwise_cons.2 ⟨fun a ha e=>hn (e ▸ ha),Ji⟩,fun D' h'=>?_,hB⟩
 ·rcases List.mem_cons.1 h' with rfl|h'
  ·exact ⟨hs,hD⟩
  ·exact hDs D' h'
 ·rcases List.mem_cons.1 h' with rfl|h'
  ·exact (Array.getElem?_eq_some_iff.1 hD).1
  ·exact hDl D' h'
end
def Ui (l:List Ru) (k:Int) (lim:Nat) (w:World) (e:Ending) (w':World):Prop :=
 ∃(g:Nat) (cs:Array Value),e= .returned (.slice (some ⟨g,0,none⟩) (lim+1) (lim+1))∧ag w' g 4 cs∧cs.size=lim+1∧(∀m:Nat,m≤lim→cs[m]? = some (.bool (nT l k m)))∧Below w.heap.size w w'
theorem BS {P:Program} {fn:Func} {tmps:Array Value} {R:Ending→World→Prop} {v:Value}:∀(Ds:List Nat) (w:World),(∀D∈Ds,w.heap[D]? = some (.deferred (some [])))→Ds.Pairwise (fun a b=>a≠b) →
  (∀w',af (fun k=>k∈Ds) w w'→(results fn tmps).run P w'= .ok v w'∧R (.returned v) w')→LeavesInM Fence.wide 0 P fn tmps R (Ds.map eX) .returning w
 | [],w,_,_,h=>by
  obtain ⟨h1,h2⟩:=h w (af.refl _ _);exact ⟨v,h1,h2⟩
 | D::r,w,hD,hp,h=>by
  obtain ⟨hp1,hp2⟩:=List.pairwise_cons.1 hp;have hF:af (fun k=>k=D) w (w.putObj D (.deferred none)):=af.putObj (T:=fun k=>k=D) (af.refl _ _) (fun _=>rfl) _;refine ⟨by simp,.inl ⟨D,_,rfl,run_takeDeferred (hD D (by simp)),?_⟩⟩;refine BS r _ (fun D' hD'=>hF.same (hD D' (by simp [hD'])) (fun e=>hp1 D' hD' e.symm)) hp2 (fun w' hw'=>h w' ?_);exact (hF.mono (fun k _ e=>by simp [e])).trans (hw'.mono (fun k _ e=>by simp [e]))
def vK (l:List Ru) (k:Int):Nat→Int
 | 0=>0
 | i+1=>vK l k i+if nT l k (i:Int)=true then 1 else 0
theorem VA {l:List Ru} (h:∀x∈l,eT x=0) (k:Int):nT l k 0=false:=by
 cases hc:nT l k 0 with
 | false=>rfl
 | true =>
  obtain ⟨x,hx,h1⟩:=List.any_eq_true.1 hc;rw [Bool.and_eq_true] at h1;have:=NH (h x hx) h1.2;omega
theorem Kn {l:List Ru} (h:∀x∈l,eT x=0) (k:Int):∀n:Nat,vK l k (n+1)=nI l k n
 | 0=>by simp [vK,nI,VA h k]
 | n+1=>by rw [vK,Kn h k n,nI];rfl
theorem D9 (l:List Ru) (k:Int):∀n:Nat,0≤vK l k n∧vK l k n≤n
 | 0=>by simp [vK]
 | n+1=>by
  have:=D9 l k n;rw [vK];split <;> omega
def BU {α:Type} (p:α→Bool):List α→Nat→Int
 | [],_=>-1
 | x::r,k=>if p x=true then (k:Int) else BU p r (k+1)
theorem Ko {α:Type} (p:α→Bool):∀(bs:List α) (k:Nat),decide (0≤BU p bs k)=bs.any p
 | [],k=>by simp [BU]
 | x::r,k=>by
  rw [BU];cases h:p x with
  | true=>simp [h]
  | false=>simp [h,Ko p r (k+1)]
theorem Ea {α:Type} {l:List α} {d:α} {k:Nat} (h:k<l.length):l.getD k d∈l:=by
 rw [List.getD_eq_getElem?_getD,List.getElem?_eq_getElem h];exact List.getElem_mem _
theorem AV {x y:Int} (h:x=y):Ending.returned (.int .i64 x)=Ending.returned (.int .i64 y):=by rw [h]
theorem dF {x y:Bool} (h:x=y):Ending.returned (.bool x)=Ending.returned (.bool y):=by rw [h]
theorem mZ (v:Value) (cs hs:Nat→Int) {j:Nat} (hj:j<7):(aM v cs hs).toArray[1+j]? = some (.int .i64 (cs j)):=by
 rcases (show j=0∨j=1∨j=2∨j=3∨j=4∨j=5∨j=6 by omega) with rfl|rfl|rfl|rfl|rfl|rfl|rfl <;> rfl
theorem vL (v:Value) (cs hs:Nat→Int) {j:Nat} (hj:j<7):(aM v cs hs).toArray[8+j]? = some (.int .i64 (hs j)):=by
 rcases (show j=0∨j=1∨j=2∨j=3∨j=4∨j=5∨j=6 by omega) with rfl|rfl|rfl|rfl|rfl|rfl|rfl <;> rfl
def c7 (cs:Nat→Int):Array Value:=#[.int .i64 (cs 0),.int .i64 (cs 1),.int .i64 (cs 2),.int .i64 (cs 3),.int .i64 (cs 4),.int .i64 (cs 5),.int .i64 (cs 6)]
theorem aeq (cs:Nat→Int) {j:Nat} (hj:j<7):(c7 cs)[j]? = some (.int .i64 (cs j)):=by
 rcases (show j=0∨j=1∨j=2∨j=3∨j=4∨j=5∨j=6 by omega) with rfl|rfl|rfl|rfl|rfl|rfl|rfl <;> rfl
structure uC (s:Rf):Prop where
 plan:(ic s.rules).2=0
 calls:∀k,k<7→0≤s.calls k∧s.calls k≤1000000
 hits:∀k,k<7→s.hits k=nI s.rules k (s.calls k).toNat
def qC (S:Rf) (k:Nat):Bool:=nT S.rules k (S.calls k+1)
def fe (S:Rf) (k:Nat):Rf:=⟨S.rules,qh S.calls k (S.calls k+1),if qC S k=true then qh S.hits k (S.hits k+1) else S.hits⟩
theorem Kq {S:Rf} (h:uC S) {k:Nat} (hk:k<7) (hc:S.calls k≠1000000):uC (fe S k):=by
 obtain ⟨h1,h2,h3⟩:=h;have hk2:=h2 k hk;refine ⟨h1,fun j hj=>?_,fun j hj=>?_⟩
 ·have:=h2 j hj
  have e:(fe S k).calls j=if j=k then S.calls k+1 else S.calls j:=rfl
  rw [e];split
  ·omega
  ·exact this
 ·show (if qC S k=true then qh S.hits k (S.hits k+1) else S.hits) j=nI S.rules j (qh S.calls k (S.calls k+1) j).toNat
  by_cases e:j=k
  ·subst e
   have e1:qh S.calls j (S.calls j+1) j=S.calls j+1:=by simp [qh]
   have e2:(S.calls j+1).toNat=(S.calls j).toNat+1:=by omega
   rw [e1,e2,nI,←h3 j hj,show ((S.calls j).toNat:Int)+1=S.calls j+1 by omega];unfold qC;cases nT S.rules j (S.calls j+1) <;> simp [qh]
  ·have e1:qh S.calls k (S.calls k+1) j=S.calls j:=by simp [qh,e]
   rw [e1,←h3 j hj];split
   ·simp [qh,e]
   ·rfl
theorem Kr (v:Value) (cs hs:Nat→Int) {k:Nat} (hk:k<7) (x:Int):(aM v cs hs).toArray.setIfInBounds (1+k) (.int .i64 x)=(aM v (qh cs k x) hs).toArray:=by
 rcases (show k=0∨k=1∨k=2∨k=3∨k=4∨k=5∨k=6 by omega) with rfl|rfl|rfl|rfl|rfl|rfl|rfl <;> rfl
theorem Ku (v:Value) (cs hs:Nat→Int) {k:Nat} (hk:k<7) (x:Int):(aM v cs hs).toArray.setIfInBounds (8+k) (.int .i64 x)=(aM v cs (qh hs k x)).toArray:=by
 rcases (show k=0∨k=1∨k=2∨k=3∨k=4∨k=5∨k=6 by omega) with rfl|rfl|rfl|rfl|rfl|rfl|rfl <;> rfl
theorem VD (v u:Value) (cs hs:Nat→Int):(aM v cs hs).toArray.setIfInBounds 0 u=(aM u cs hs).toArray:=rfl
theorem Rd.Gb {T:Nat→Prop} {w w':World} {B:Nat} {A:Option Addr} {xs:List Value} (h:Rd w B A xs) (hF:af T w w') (hT:∀b o,A=some ⟨b,o,none⟩→¬T b):Rd w' B A xs:=fun k hk=>by
 obtain ⟨b,o,e,hb,hc⟩:=h k hk;exact ⟨b,o,e,hb,hF.cell hc (hT b o e)⟩
def XW (S:Rf) (k:Nat) (w:World) (e:Ending) (w':World):Prop :=
 (S.calls k=1000000∧e= .returned (.tuple #[gK (.slice none 0 0) (fun _=>0) (fun _=>0),.bool false,.int .i64 3])∧Below w.heap.size w w') ∨
 (S.calls k≠1000000∧∃v,e= .returned (.tuple #[gK v (fe S k).calls (fe S k).hits,.bool (qC S k),.int .i64 0])∧BQ S.rules w v w')
theorem fC {P:Program} {fn:Func} {a u x:Tmp} {t:TypeId} {tmps:Array Value} {w:World} {v:Value} {p:Addr} (h:fn.results=#[.cell a t,.tmp u,.tmp x]) (ha:tmps.getD a undef= .pointer (some p)) (hl:(loadVar t p).run P w= .ok v w) :
  (results fn tmps).run P w= .ok (.tuple #[v,tmps.getD u undef,tmps.getD x undef]) w:=by
 have ha':tmps[a]?.getD undef= .pointer (some p):=by rw [←ha,Array.getD_eq_getD_getElem?]
 simp [results,h,ha',asAddr,hl]
structure Pg where
 kind:Int
 dz:Bool
 iJ:Nat→Int
structure Vm where
 pg:Nat→Pg
 rf:Rf
def uS (g:Pg):List Value:=.int .i64 g.kind :: .bool g.dz::(List.range 64).map fun k=>.int .u8 (g.iJ k)
theorem Gg (g:Pg):(uS g).length=66:=by simp [uS]
theorem XZ (g:Pg):∀x∈uS g,x.oneCell'=true:=by
 intro x hx;simp only [uS,List.mem_cons,List.mem_map] at hx;rcases hx with rfl|rfl|⟨k,_,rfl⟩ <;> rfl
def Vm.iY (V:Vm) (p:Nat) (g:Pg):Vm:={ V with pg:=fun q=>if q=p then g else V.pg q }
structure jX (cs:Array Value) (v:Value) (V:Vm):Prop where
 size:cs.size=67600
 made:cs[0]? = some (.bool true)
 page:∀p,p<1024→∀i,i<66→cs[1+p*66+i]? = (uS (V.pg p))[i]?
 rf:∀i,i<15→cs[67585+i]? = (aM v V.rf.calls V.rf.hits)[i]?
theorem jX.kind {cs:Array Value} {v:Value} {V:Vm} (h:jX cs v V) {p:Nat} (hp:p<1024):cs[1+p*66]? = some (.int .i64 (V.pg p).kind):=(h.page p hp 0 (by omega)).trans rfl
theorem jX.BZ {cs:Array Value} {v:Value} {V:Vm} (h:jX cs v V) {p:Nat} (hp:p<1024):cs[1+p*66+1]? = some (.bool (V.pg p).dz):=(h.page p hp 1 (by omega)).trans rfl
theorem jX.put {cs:Array Value} {v:Value} {V:Vm} (h:jX cs v V) {p:Nat} (hp:p<1024) (g:Pg):jX (jr cs (1+p*66) (uS g)) v (V.iY p g):=by
 have hs:=h.size;have hl:=Gg g;have hg:=lU (uS g) cs (1+p*66) (by rw [hl];omega);refine ⟨by rw [lJ];exact hs,?_,fun q hq i hi=>?_,fun i hi=>?_⟩
 ·rw [hg,if_neg (by omega)];exact h.made
 ·rw [hg,hl]
  by_cases e:q=p
  ·subst e
   rw [if_pos (by omega),show 1+q*66+i - (1+q*66)=i by omega];simp [Vm.iY]
  ·rw [if_neg (by omega),h.page q hq i hi]
   simp [Vm.iY,e]
 ·rw [hg,if_neg (by rw [hl];omega)];exact h.rf i hi
theorem jX.AX {cs:Array Value} {v:Value} {V:Vm} (h:jX cs v V) (u:Value) (S:Rf):jX (jr cs 67585 (aM u S.calls S.hits)) u { V with rf:=S }:=by
 have hs:=h.size;have hl:(aM u S.calls S.hits).length=15:=rfl;have hg:=lU (aM u S.calls S.hits) cs 67585 (by rw [hl];omega);refine ⟨by rw [lJ];exact hs,?_,fun q hq i hi=>?_,fun i hi=>?_⟩
 ·rw [hg,if_neg (by omega)];exact h.made
 ·rw [hg,hl,if_neg (by omega)];exact h.page q hq i hi
 ·rw [hg,hl,if_pos (by omega),show 67585+i - 67585=i by omega]
theorem Rd.keepR {T:Nat→Prop} {w w':World} {B:Nat} {A:Option Addr} {l:List Ru} (h:Rd w B A (fl iN l)) (hF:af T w w') (hT:∀b o,A=some ⟨b,o,none⟩→l≠[]→¬T b):Rd w' B A (fl iN l):=by
 by_cases h0:l=[]
 ·subst h0;exact fun k hk=>absurd hk (by simp [fl])
 ·exact h.Gb hF (fun b o e=>hT b o e h0)
structure aD (w:World) (b:Nat) (V:Vm):Prop where
 ex:∃(cs:Array Value) (A:Option Addr) (n cap:Nat),ag w b 71 cs∧jX cs (.slice A n cap) V∧V.rf.rules.length=n∧Rd w w.heap.size A (fl iN V.rf.rules)∧(A=none→cap=0)∧(∀g o,A=some ⟨g,o,none⟩→V.rf.rules≠[]→g≠b)∧uC V.rf∧∀g o,A=some ⟨g,o,none⟩→V.rf.rules≠[]→∃cr,ag w g 164 cr
theorem aD.lt {w:World} {b:Nat} {V:Vm} (h:aD w b V):b<w.heap.size:=by
 obtain ⟨cs,A,n,cap,hk,_⟩:=h.ex;exact hk.lt
theorem aD.ok {w:World} {b:Nat} {V:Vm} (h:aD w b V):uC V.rf:=by
 obtain ⟨cs,A,n,cap,_,_,_,_,_,_,h,_⟩:=h.ex;exact h
theorem aD.far {w w':World} {b:Nat} {V:Vm} {T:Nat→Prop} (h:aD w b V) (hF:af T w w') (hb:¬T b) (hA:∀cs A n cap,ag w b 71 cs→jX cs (.slice A n cap) V→∀g o,A=some ⟨g,o,none⟩→V.rf.rules≠[]→(∃cr,ag w g 164 cr)→¬T g):aD w' b V:=by
 obtain ⟨cs,A,n,cap,h1,h2,h3,h4,h5,h6,h7,h8⟩:=h.ex;have hA':=fun g o e h=>hA cs A n cap h1 h2 g o e h (h8 g o e h)
 refine ⟨cs,A,n,cap,hF.blk h1 hb,h2,h3,(h4.keepR hF hA').more hF.size,h5,h6,h7,fun g o e h=>(h8 g o e h).imp fun cr hc=>hF.blk hc (hA' g o e h)⟩
theorem aD.call {w w':World} {b:Nat} {V:Vm} (h:aD w b V) (hb:Below w.heap.size w w'):aD w' b V :=
 h.far (T:=fun _=>False) (af.of_below hb) id (fun _ _ _ _ _ _ _ _ _ _ _ h=>h)
theorem aD.iY {w:World} {b:Nat} {V:Vm} (h:aD w b V) {p:Nat} (hp:p<1024) (g:Pg):aD (w.setCells b (1+p*66) (uS g)) b (V.iY p g)∧af (fun k=>k=b) w (w.setCells b (1+p*66) (uS g)):=by
 obtain ⟨cs,A,n,cap,h1,h2,h3,h4,h5,h6,h7,h8⟩:=h.ex;have hF:=af.puts (T:=fun k=>k=b) rfl (uS g) (1+p*66) w w (af.refl _ _);exact ⟨⟨_,A,n,cap,ag.puts (w:=w) (cs:=#[]) (uS g) (1+p*66) w cs h1,h2.put hp g,h3,(h4.keepR hF (fun g' o e h=>h6 g' o e h)).more hF.size,h5,h6,h7,fun g o e h=>(h8 g o e h).imp fun cr hc=>hF.blk hc (h6 g o e h)⟩,hF⟩
def Vm.gH (V:Vm) (at_ n:Nat) (f:Pg→Pg):Vm:={ V with pg:=fun q=>if at_≤q∧q<at_+n then f (V.pg q) else V.pg q }
theorem Vm.Eb (V:Vm) (at_:Nat) (f:Pg→Pg):V.gH at_ 0 f=V:=by
 unfold Vm.gH;congr 1;funext q;rw [if_neg (by omega)]
theorem Vm.Ec (V:Vm) (at_ n:Nat) (f:Pg→Pg):V.gH at_ (n+1) f=(V.gH at_ n f).iY (at_+n) (f ((V.gH at_ n f).pg (at_+n))):=by
 unfold Vm.gH Vm.iY;simp only;congr 1;funext q;by_cases e:q=at_+n
 ·subst e
  rw [if_pos (by omega),if_pos rfl,if_neg (by omega)]
 ·rw [if_neg e]
  by_cases h:at_≤q∧q<at_+n
  ·rw [if_pos (by omega),if_pos h]
  ·rw [if_neg (by omega),if_neg h]
def iB (k:Int):Pg:=⟨k,false,fun _=>0⟩
def qN (V:Vm) (at_ n:Nat) (pr:Pg→Bool):Bool:=(List.range n).all fun i=>pr (V.pg (at_+i))
theorem jb {V:Vm} {at_ n:Nat} {pr:Pg→Bool}:qN V at_ n pr=true↔∀q,at_≤q→q<at_+n→pr (V.pg q)=true:=by
 unfold qN;rw [List.all_eq_true];constructor
 ·intro h q h1 h2
  have:=h (q - at_) (List.mem_range.2 (by omega))
  rwa [show at_+(q - at_)=q by omega] at this
 ·intro h i hi
  exact h _ (by omega) (by have:=List.mem_range.1 hi;omega)
theorem aaW {a b c:Value} (ha:a.oneCell'=true) (hb:b.oneCell'=true) (hc:c.oneCell'=true):∀x∈[a,b,c],x.oneCell'=true:=by
 intro x hx;simp only [List.mem_cons,List.not_mem_nil,or_false] at hx;rcases hx with rfl|rfl|rfl
 ·exact ha
 ·exact hb
 ·exact hc
theorem EJ {P:Program} {fn:Func} {a:Tmp} {t:TypeId} {tmps:Array Value} {w:World} {v:Value} {p:Addr} (h:fn.results=#[.cell a t]) (ha:tmps.getD a undef= .pointer (some p)) (hl:(loadVar t p).run P w= .ok v w) :
  (results fn tmps).run P w= .ok v w:=by
 have ha':tmps[a]?.getD undef= .pointer (some p):=by rw [←ha,Array.getD_eq_getD_getElem?]
 simp [results,h,ha',asAddr,hl]
def qO (S:Rf) (k:Nat):Bool:=if S.calls k=1000000 then false else qC S k
def X8 (S:Rf) (k:Nat):Rf:=if S.calls k=1000000 then S else fe S k
def Vm.ref (V:Vm) (k:Nat):Vm:={ V with rf:=X8 V.rf k }
theorem aD.AX {w w':World} {b:Nat} {V:Vm} (h:aD w b V) (S:Rf) (A:Option Addr) (n cap:Nat) (hB:Below w.heap.size w w') (hn:S.rules.length=n) (hr:Rd w' w'.heap.size A (fl iN S.rules)) (hz:A=none→cap=0) (hA:∀g o,A=some ⟨g,o,none⟩→w.heap.size≤g) (hS:uC S) (hT:∀g o,A=some ⟨g,o,none⟩→S.rules≠[]→∃cr,ag w' g 164 cr) :
  aD (w'.setCells b 67585 (aM (.slice A n cap) S.calls S.hits)) b { V with rf:=S }∧af (fun k=>k=b) w (w'.setCells b 67585 (aM (.slice A n cap) S.calls S.hits)):=by
 have hlt:=h.lt;obtain ⟨cs,A0,n0,cap0,h1,h2,_⟩:=h.ex;have k1:=h1.call hB;have hF:=af.puts (T:=fun k=>k=b) rfl (aM (.slice A n cap) S.calls S.hits) 67585 w' w' (af.refl _ _);refine ⟨⟨_,A,n,cap,ag.puts (w:=w) (cs:=#[]) (aM (.slice A n cap) S.calls S.hits) 67585 w' cs k1,h2.AX _ S,hn,(hr.Gb hF (fun g o e=>by have:=hA g o e;omega)).more hF.size,hz,fun g o e _=>by have:=hA g o e;omega,hS,fun g o e h=>(hT g o e h).imp fun cr hc=>hF.blk hc (by have:=hA g o e;show ¬g=b;omega)⟩,(af.of_below hB).trans hF⟩
end Go.Pol
namespace Go.Proofs.YtjmmgoijnhnnaaaGreat
open Go Go.Proofs Go.RowKit Go.Pol Tryz
attribute [local go_sem] Oper.semAt_some aC au az ah
theorem Vy (x:Ru) (w:World):Calls prog 172 #[NF x] w fun e w'=>e= .returned (.int .i64 (eT x))∧Below w.heap.size w w':=by
 obtain ⟨k,f,e,t⟩:=x;have hb0:=aV w (.cells #[.int .i64 k,.int .i64 f,.int .i64 e,.int .i64 t] 164);have k0:=ag.new w 164 #[.int .i64 k,.int .i64 f,.int .i64 e,.int .i64 t];have c0:=k0.cell;clear k0;obtain ⟨R,hR⟩:=aj (eT (k,f,e,t));rw [hR];unfold eT at hR;simp only at hR;by_cases c1:k<0
 ·have d1:decide (k<0)=true:=by simpa using c1
  have hE:Hid (R=2):=ae (by rw [←hR,if_pos (by omega)]);clear hR;go_enter func172,ntmps172;go_wp2_with fail;go_ret;exact ⟨by rw [hE.out];rfl,hb0⟩
 have d1:decide (k<0)=false:=by simpa using c1
 by_cases c2:7≤k
 ·have d2:decide (7≤k)=true:=by simpa using c2
  have hE:Hid (R=2):=ae (by rw [←hR,if_pos (by omega)]);clear hR;go_enter func172,ntmps172;go_wp2_with fail;go_ret;exact ⟨by rw [hE.out];rfl,hb0⟩
 have d2:decide (7≤k)=false:=by simpa using c2
 rw [if_neg (by omega)] at hR;by_cases c3:f<1
 ·have d3:decide (f<1)=true:=by simpa using c3
  have hE:Hid (R=7):=ae (by rw [←hR,if_pos (by omega)]);clear hR;go_enter func172,ntmps172;go_wp2_with fail;go_ret;exact ⟨by rw [hE.out];rfl,hb0⟩
 have d3:decide (f<1)=false:=by simpa using c3
 by_cases c4:10000<f
 ·have d4:decide (10000<f)=true:=by simpa using c4
  have hE:Hid (R=7):=ae (by rw [←hR,if_pos (by omega)]);clear hR;go_enter func172,ntmps172;go_wp2_with fail;go_ret;exact ⟨by rw [hE.out];rfl,hb0⟩
 have d4:decide (10000<f)=false:=by simpa using c4
 by_cases c5:e<0
 ·have d5:decide (e<0)=true:=by simpa using c5
  have hE:Hid (R=7):=ae (by rw [←hR,if_pos (by omega)]);clear hR;go_enter func172,ntmps172;go_wp2_with fail;go_ret;exact ⟨by rw [hE.out];rfl,hb0⟩
 have d5:decide (e<0)=false:=by simpa using c5
 by_cases c6:12<e
 ·have d6:decide (12<e)=true:=by simpa using c6
  have hE:Hid (R=7):=ae (by rw [←hR,if_pos (by omega)]);clear hR;go_enter func172,ntmps172;go_wp2_with fail;go_ret;exact ⟨by rw [hE.out];rfl,hb0⟩
 have d6:decide (12<e)=false:=by simpa using c6
 by_cases c7:t<0
 ·have d7:decide (t<0)=true:=by simpa using c7
  have hE:Hid (R=7):=ae (by rw [←hR,if_pos (by omega)]);clear hR;go_enter func172,ntmps172;go_wp2_with fail;go_ret;exact ⟨by rw [hE.out];rfl,hb0⟩
 have d7:decide (t<0)=false:=by simpa using c7
 by_cases c8:1000<t
 ·have d8:decide (1000<t)=true:=by simpa using c8
  have hE:Hid (R=7):=ae (by rw [←hR,if_pos (by omega)]);clear hR;go_enter func172,ntmps172;go_wp2_with fail;go_ret;exact ⟨by rw [hE.out];rfl,hb0⟩
 have d8:decide (1000<t)=false:=by simpa using c8
 rw [if_neg (by omega)] at hR;by_cases c9:e=0
 ·have d9:(e==0)=true:=by simpa using c9
  by_cases c10:t=1
  ·have d10:(t != 1)=false:=by simpa using c10
   have hE:Hid (R=0):=ae (by rw [←hR,if_neg (by omega)]);clear c9 c10;clear hR;go_enter func172,ntmps172;go_wp2_with fail;go_ret;exact ⟨by rw [hE.out];rfl,hb0⟩
  ·have d10:(t != 1)=true:=by simpa using c10
   have hE:Hid (R=6):=ae (by rw [←hR,if_pos (by omega)]);clear c9;clear hR;go_enter func172,ntmps172;go_wp2_with fail;go_ret;exact ⟨by rw [hE.out];rfl,hb0⟩
 ·have d9:(e==0)=false:=by simpa using c9
  have hE:Hid (R=0):=ae (by rw [←hR,if_neg (by omega)]);clear hR;go_enter func172,ntmps172;go_wp2_with fail;go_ret;exact ⟨by rw [hE.out];rfl,hb0⟩
theorem FX (l:List Ru) (i:Nat) (h:i<l.length):xG i (l.drop i)=if eT (l.getD i oW)≠0 then ((i:Int),eT (l.getD i oW)) else xG (i+1) (l.drop (i+1)):=by
 rw [Go.Pol.drop_cons oW l i h,xG]
theorem yl (A:Option Addr) (n cap:Nat) (l:List Ru) (w:World) (hn:l.length=n) (hr:Rd w w.heap.size A (fl iN l)) :
  Calls prog 113 #[.agg #[.slice A n cap]] w fun e w'=>e= .returned (.tuple #[.int .i64 (ic l).1,.int .i64 (ic l).2])∧Below w.heap.size w w':=by
 have hb0:=aV w (.cells #[.slice A n cap] 28);have k0:=ag.new w 28 #[.slice A n cap];have c0:=k0.cell;have r0:=hr.fw hb0;obtain ⟨R,hR⟩:=aj (ic l);rw [hR];obtain ⟨ri,re⟩:=R;unfold ic at hR;have hn':=ae hn;by_cases h50:50<n
 ·have d1:decide (50<(n:Int))=true:=by rw [decide_eq_true_eq];omega
  have hE:Hid ((ri,re)=(0,3)):=ae (by rw [←hR,if_pos (by omega)]);clear hR hr r0 k0 hn h50;go_enter func113,ntmps113;go_wp2_with fail;go_ret2;have h:=hE.out;simp only [Prod.mk.injEq] at h;exact ⟨by rw [h.1,h.2];rfl,hb0⟩
 ·have d1:decide (50<(n:Int))=false:=by rw [decide_eq_false_iff_not];omega
  rw [if_neg (by omega)] at hR;have hR':=ae hR;clear hR hr hn;obtain ⟨s,hs⟩:=aj (w.heap.size);have HR:=ae (fun x W=>Vy x W);have hs':=ae hs;go_enter func113,ntmps113;go_upto_region 3 with fail
  generalize w.alloc (.cells #[.slice A n cap] 28)=w0 at *;rw [hs] at hb0 k0 c0;try simp only [hs]
  clear hs;go_wp2_with fail
  go_loopw [14] (fun u wr=>∃i:Nat,i≤n∧u= .int .i64 i∧Hid (xG i (l.drop i)=(ri,re))∧Below w0.heap.size w0 wr) (fun u _=>n - (intOf u).toNat)
  case atStart=>exact ⟨0,by omega,rfl,ae hR'.out,Below.refl _ _⟩
  case round =>
   clear hR';obtain ⟨i,hi,rfl,hR,hB⟩:=hrel;by_cases hlt:i<n
   ·have hlt':decide ((i:Int)<(n:Int))=true:=by simpa using hlt
    have hst:=FX l i (by have:=hn'.out;omega);rw [hR.out] at hst;obtain ⟨b,o,rfl,hb,hc⟩:=(r0.fw hB).elem jJ (by omega) oW (k:=i) (by have:=hn'.out;omega);generalize l.getD i oW=x at *;have hcl:=HR.out x;obtain ⟨k,f,e,t⟩:=x;have x0:=hc 0 _ rfl;have x1:=hc 1 _ rfl;have x2:=hc 2 _ rfl;have x3:=hc 3 _ rfl;simp only [Nat.add_zero] at x0;generalize eT (k,f,e,t)=er at *;have hst':=ae hst;have hcl':=ae hcl;have hin:(i:Int)<(n:Int):=by omega
    clear hc hst hcl;have bx:=ag.new wr 164 #[.int .i64 k,.int .i64 f,.int .i64 e,.int .i64 t];have hbx:=hB.alloc hB.size (.cells #[.int .i64 k,.int .i64 f,.int .i64 e,.int .i64 t] 164);have cx:=bx.cell;by_cases he:er=0
    ·subst he
     have df:Hid (xG (i+1) (l.drop (i+1))=(ri,re)):=ae (by rw [hst'.out,if_neg (by simp)]);clear hst';go_wp2_with fail;refine (hcl'.out _).mono ?_;rintro e9 w1 ⟨rfl,hb1⟩;go_wp2_with fail;go_roundw
     case rel=>exact ⟨i+1,by omega,by go_num,df,hbx.trans (hb1.mono hbx.size)⟩
     case measure=>simp [intOf];omega
    ·have he':(er != 0)=true:=by simpa using he
     have df:Hid ((ri,re)=((i:Int),er)):=ae (by rw [hst'.out,if_pos he]);clear hst' he;go_wp2_with fail;refine (hcl'.out _).mono ?_;rintro e9 w1 ⟨rfl,hb1⟩;go_wp2_with fail;go_ret2;have h:=df.out;simp only [Prod.mk.injEq] at h;exact ⟨by rw [h.1,h.2];rfl,by rw [hs'.out];exact hb0.trans ((hbx.trans (hb1.mono hbx.size)).mono (by have:=hb0.size;have:=hs'.out;omega))⟩
   ·obtain rfl:i=n:=by omega
    have hlt':decide ((i:Int)<(i:Int))=false:=by simp
    have hE:(0,0)=(ri,re):=by
     have:=hR.out;rw [List.drop_of_length_le (by have:=hn'.out;omega)] at this;exact this
    simp only [Prod.mk.injEq] at hE;obtain ⟨rfl,rfl⟩:=hE;go_wp2_with fail;go_ret2;exact ⟨rfl,by rw [hs'.out];exact hb0.trans (hB.mono (by have:=hb0.size;have:=hs'.out;omega))⟩
theorem aaR:(prog.info? 164).map (fun i=>(i.zero,i.size,i.bytes))=some (some (.agg #[.int .i64 0,.int .i64 0,.int .i64 0,.int .i64 0]),4,32):=by kernel_rfl
theorem dM:(prog.info? 69).map (·.size)=some 15:=by kernel_rfl
theorem zT:∃i0,prog.info? 164=some i0∧i0.zero=some (.agg #[.int .i64 0,.int .i64 0,.int .i64 0,.int .i64 0])∧i0.size=4∧i0.bytes=32:=by
 obtain ⟨i0,h⟩:=info_parts aaR;exact ⟨i0,h⟩
theorem Vz (A:Option Addr) (n c:Nat) (w:World):(binOp .eql 26 (.slice A n c) (.slice none 0 0)).run prog w= .ok (.bool A.isNone) w:=by
 simp only [binOp];simp [Op.equal,Op.maxDepth,run_equalIn_slice_nil w 9999 _ _ A n c underlying26]
theorem ym (A:Option Addr) (n cap:Nat) (l:List Ru) (w:World) (hn:l.length=n) (hm:n≤1000) (hz:A=none→cap=0) (hr:Rd w w.heap.size A (fl iN l)) :
  Calls prog 79 #[.slice A n cap] w fun e w'=>∃v,e= .returned v∧BQ l w v w':=by
 obtain ⟨i0,hi,hz0,hz1,hz2⟩:=zT;have heq:=Vz;cases A with
 | none =>
  have hc:=hz rfl;subst hc;have hl:l=[]:=by
   cases l with
   | nil=>rfl
   | cons x r =>
    obtain ⟨b,o,e,_⟩:=hr 0 (by rw [lT jJ];simp);cases e
  subst hl;subst hn;go_enter func79,ntmps79;go_wp2_with fail;go_ret;exact ⟨_,rfl,none,0,rfl,fun k hk=>absurd hk (by simp [fl]),Nat.le_refl _,by unfold maxLen;omega,fun b o e=>(by cases e),⟨fun _=>rfl,fun g o e=>(by cases e)⟩,Below.refl _ _⟩
 | some ad =>
  have hnews:=hr.src ad rfl;have hb1:=aV w (.cells #[] 164);have hnews':∀(j:Nat) (u:Value),(fl iN l)[j]? = some u→(w.alloc (.cells #[] 164)).cell? (ad.add j)=some u:=fun j u hu=>by rw [World.cell?_alloc_some _ _ _ (by rw [hnews j u hu];rfl)];exact hnews j u hu
  go_enter func79,ntmps79
  go_wp2_with (refine wpList_append_own _ rfl (.tmp 5) (.tmp 6) 26 rfl w.heap.size 164 i0 (.agg #[.int .i64 0,.int .i64 0,.int .i64 0,.int .i64 0]) 4 32 underlying26 hi hz0 hz1 hz2 rfl (by decide) _ 0 [] rfl (World.ownsRow_made w _ _ (Nat.le_refl _) (by unfold maxLen;omega) rfl) ad n cap (fl iN l) rfl (by rw [lT jJ,hn]) hnews' (NG l) (by unfold maxLen;omega) (by omega) (by simp) ?_;intro v' w3 hown' hgrow _)
  go_ret;have hown2:w3.ownsRow w.heap.size 164 4 v' l.length (fl iN l):=by rw [hn];simpa using hown'
  obtain ⟨A',cap',rfl,h1,h2,h3,h4,h5,h6⟩:=XP hown2;exact ⟨_,rfl,A',cap',rfl,h1,h2,h3,h4,⟨h5,fun g o e _=>h6 g o e⟩,hb1.grown hgrow (by simp) (fun j hj=>by cases hj;exact Nat.le_refl _)⟩
def BR (l:List Ru) (w:World) (e:Ending) (w':World):Prop :=
 ((ic l).2≠0∧e= .returned (.tuple #[gK (.slice none 0 0) (fun _=>0) (fun _=>0),.int .i64 (ic l).2])∧Below w.heap.size w w') ∨
 ((ic l).2=0∧∃v,e= .returned (.tuple #[gK v (fun _=>0) (fun _=>0),.int .i64 0])∧BQ l w v w')
theorem FY (A:Option Addr) (n cap:Nat) (l:List Ru) (w:World) (hn:l.length=n) (hm:n≤1000) (hz:A=none→cap=0) (hr:Rd w w.heap.size A (fl iN l)) :
  Calls prog 47 #[.agg #[.slice A n cap]] w (BR l w):=by
 have HC:=ae (fun W h=>yl A n cap l W hn h);have HK:=ae (fun W h=>ym A n cap l W hn hm hz h);have hb0:=aV w (.cells #[.slice A n cap] 28);have k0:=ag.new w 28 #[.slice A n cap];have hdef:∀e w',BR l w e w'↔BR l w e w':=fun _ _=>Iff.rfl
 unfold BR at hdef;obtain ⟨S,hS⟩:=aj (BR l w);rw [hS];have hS1:Hid (∀(h:(ic l).2≠0) w',Below w.heap.size w w'→S (.returned (.tuple #[gK (.slice none 0 0) (fun _=>0) (fun _=>0),.int .i64 (ic l).2])) w'):=ae (fun h w' hb=>by rw [←hS];exact .inl ⟨h,rfl,hb⟩);have hS2:Hid (∀(h:(ic l).2=0) v w',BQ l w v w'→S (.returned (.tuple #[gK v (fun _=>0) (fun _=>0),.int .i64 0])) w'):=ae (fun h v w' hb=>by rw [←hS];exact .inr ⟨h,v,rfl,hb⟩);clear hS hdef;generalize hR:ic l=R at *;obtain ⟨ri,re⟩:=R;simp only at HC hS1 hS2;clear hR hn hz;obtain ⟨s,hs⟩:=aj (w.heap.size);have hs':=ae hs;have hb1:=hb0.alloc (by simp) (.cells (aM (.slice none 0 0) (fun _=>0) (fun _=>0)).toArray 69);have k1:=k0.alloc (.cells (aM (.slice none 0 0) (fun _=>0) (fun _=>0)).toArray 69);have b1:=ag.new (w.alloc (.cells #[.slice A n cap] 28)) 69 (aM (.slice none 0 0) (fun _=>0) (fun _=>0)).toArray;rw [World.size_alloc,hs] at b1;rw [hs] at k1;unfold aM at b1 k1 hb1;go_enter func47,ntmps47;go_upto_region 1 with fail
 generalize (w.alloc (.cells #[.slice A n cap] 28)).alloc _=w1 at *;have r1:=hr.fw hb1;have c1:=k1.cell;clear k0 hb0 hr hs;go_wp2_with fail;refine (HC.out _ r1).mono ?_;rintro e w2 ⟨rfl,hb2⟩;have r2:=r1.fw hb2;have k2:=k1.call hb2;have c2:=k2.cell;have b2:=b1.call hb2;have B2:=hb1.trans (hb2.mono hb1.size);clear r1 c1 k1 b1 hb1 hb2;by_cases he:re=0
 ·subst he
  go_wp2_with fail;refine (HK.out _ r2).mono ?_;rintro e w3 ⟨v,rfl,hv⟩;obtain ⟨A3,c3,rfl,d1,d2,d3,d4,d5,hb3⟩:=hv;have b3:=b2.call hb3
  go_wp2_with (refine wpList_store_mid rfl 69 (.tmp 2) (.tmp 19) rfl (s+1) 0 (aM (.slice A3 l.length c3) (fun _=>0) (fun _=>0)).toArray rfl rfl (dP b3 0 15 (by simp)) dM (Go.all_oneCell_toArray (jK rfl _ _)) ?_)
  have k4:=ag.puts (g:=s+1) (t:=69) (w:=w3) (cs:=#[]) (aM (.slice A3 l.length c3) (fun _=>0) (fun _=>0)) 0 w3 _ b3;rw [eB (by rfl)] at k4;have iI:=af.puts (T:=fun k=>k=s+1) rfl (aM (.slice A3 l.length c3) (fun _=>0) (fun _=>0)) 0 w3 w3 (af.refl _ _);generalize (w3).setCells (s+1) 0 (aM (.slice A3 l.length c3) (fun _=>0) (fun _=>0))=w4 at *;have hl4:=run_loadVar_mid (P:=prog) w4 (s+1) 0 69 (aM (.slice A3 l.length c3) (fun _=>0) (fun _=>0)) _ (fun j v hj=>by rw [Nat.zero_add,k4.cell];simpa using hj) underlying69 rfl dM;have anw:s+1<w2.heap.size:=b2.lt;have hd4:Rd w4 w4.heap.size A3 (fl iN l):=by
   intro k hk;obtain ⟨b,o,e,hb,hc⟩:=d1 k hk;have hw2:=d4 b o e;exact ⟨b,o,e,by have:=iI.size;omega,iI.cell hc (by show ¬b=s+1;omega)⟩
  have hB4:Below w.heap.size w2 w4:=(hb3.mono (by have:=B2.size;exact this)).trans (iI.below (by have:=hb3.size;have:=B2.size;omega) (fun k hk e=>by have:=hs'.out;omega));refine bodyPost_ret (v:=.tuple #[gK (.slice A3 l.length c3) (fun _=>0) (fun _=>0),.int .i64 0]) ?_ rfl ?_
  ·exact fZ results47 rfl hl4
  exact hS2.out (by simp) _ _ ⟨A3,c3,rfl,hd4,d2,d3,fun b o e=>by have:=d4 b o e;have:=B2.size;omega,⟨d5.1,fun g o e h=>(d5.2 g o e h).imp fun cr hcr=>iI.blk hcr (by have:=d4 g o e;show ¬g=s+1;omega)⟩,B2.trans hB4⟩
 ·have he':(re != 0)=true:=by simpa using he
  have hS3:=ae (hS1.out he)
  go_wp2_with (refine wpList_store_mid rfl 69 (.tmp 2) (.tmp 13) rfl (s+1) 0 (aM (.slice none 0 0) (fun _=>0) (fun _=>0)).toArray rfl rfl (dP b2 0 15 (by simp)) dM (Go.all_oneCell_toArray (jK rfl _ _)) ?_)
  have k4:=ag.puts (g:=s+1) (t:=69) (w:=w2) (cs:=#[]) (aM (.slice none 0 0) (fun _=>0) (fun _=>0)) 0 w2 _ b2;rw [eB (by rfl)] at k4;have iI:=af.puts (T:=fun k=>k=s+1) rfl (aM (.slice none 0 0) (fun _=>0) (fun _=>0)) 0 w2 w2 (af.refl _ _);generalize (w2).setCells (s+1) 0 (aM (.slice none 0 0) (fun _=>0) (fun _=>0))=w4 at *;have hl4:=run_loadVar_mid (P:=prog) w4 (s+1) 0 69 (aM (.slice none 0 0) (fun _=>0) (fun _=>0)) _ (fun j v hj=>by rw [Nat.zero_add,k4.cell];simpa using hj) underlying69 rfl dM;have hB4:Below w.heap.size w2 w4:=iI.below (by have:=B2.size;omega) (fun k hk e=>by have:=hs'.out;omega);refine bodyPost_ret (v:=.tuple #[gK (.slice none 0 0) (fun _=>0) (fun _=>0),.int .i64 re]) ?_ rfl ?_
  ·exact fZ results47 rfl hl4
  exact hS3.out _ (B2.trans hB4)
open Go.Shelf
theorem QT (x:Ru) (lim:Int) (w:World) :
  Calls prog 220 #[NF x,.int .i64 lim] w fun e w'=>e= .returned (.func (.func 237) #[] #[.pointer (some ⟨w.heap.size,0,none⟩),.pointer (some ⟨w.heap.size+1,0,none⟩)]) ∧
   w'=(w.alloc (.cells #[.int .i64 x.1,.int .i64 x.2.1,.int .i64 x.2.2.1,.int .i64 x.2.2.2] 164)).alloc (.cells #[.int .i64 lim] 3):=by
 obtain ⟨k,f,e,t⟩:=x;go_enter func220,ntmps220
 go_wp2
 go_ret;exact ⟨rfl,rfl⟩
theorem Jh:∀args w,(callFunc 237 args).run prog w= .ok (.enter 237 args) w:=enters_of func237 (by kernel_rfl) rfl
theorem NJ (k f e t lim:Int) (B1 B2:Nat) (w:World) (hx:eT (k,f,e,t)=0) (hl:0≤lim∧lim≤1000000) (hB1:ag w B1 164 #[.int .i64 k,.int .i64 f,.int .i64 e,.int .i64 t]) (hB2:ag w B2 3 #[.int .i64 lim]) :
  xX prog 237 #[.pointer (some ⟨B1,0,none⟩),.pointer (some ⟨B2,0,none⟩)] (fun v:Int=>#[.int .i64 v]) (fun _=>False) (fun k=>k=B1∨k=B2) (zg (k,f,e,t) lim) w:=by
 intro m l J Jx W hW hJ hJx hY h0;have kB1:=hW.blk hB1 (by simp);have kB2:=hW.blk hB2 (by simp);obtain ⟨_,h1,h2,h3,h4⟩:=jv.1 hx;simp only at h1 h2 h3 h4;have hx':=ae hx;have h4':=ae h4;have hC0:Hid (zg (k,f,e,t) lim=[]++lV (k,f,e,t) lim (lim.toNat+2) 0):=ae rfl;generalize zg (k,f,e,t) lim=CL at *;clear h4 hx hB1 hB2 hW;refine callsIn_of_wp func237 rfl trivial ?_ rfl;simp only [ntmps237,List.size_toArray,List.length_cons,List.length_nil,Nat.reduceAdd,Nat.reduceSub,Array.replicate_succ,Array.replicate_zero,List.push_toArray,List.append_toArray,List.nil_append,List.cons_append];have c1:=kB1.cell;have c2:=kB2.cell
 gi_wp2
 clear c1 c2
 gi_loopw [4,5] (fun u v wr=>∃(i d:Nat) (nv:Int) (pre:List Int),u= .int .i64 nv∧v= .int .i64 i∧0≤nv∧Hid (nv=f+(i:Int)*e)∧Hid (lim+2≤(d:Int)+i)∧(i:Int)≤lim+1∧J pre wr∧ag wr B1 164 #[.int .i64 k,.int .i64 f,.int .i64 e,.int .i64 t]∧ag wr B2 3 #[.int .i64 lim]∧Hid (CL=pre++lV (k,f,e,t) lim d i)) (fun _ v _=>(lim+2 - intOf v).toNat)
 case atStart=>exact ⟨0,lim.toNat+2,f,[],rfl,rfl,by omega,ae (by omega),ae (by omega),by omega,h0,kB1,kB2,hC0⟩
 case round =>
  clear hC0 kB1 kB2 h0;obtain ⟨i,d,nv,pre,rfl,rfl,anx,XR,hd,hil,hJs,kB1,kB2,hL⟩:=hrel;have c1:=kB1.cell;have c2:=kB2.cell;by_cases g1:nv≤lim
  ·have d1:decide (nv≤lim)=true:=by simpa using g1
   by_cases g2:t=0
   ·have d2:(t==0)=true:=by simpa using g2
    have hgo:=FW (x:=(k,f,e,t)) hx'.out hd.out (by have:=XR.out;rw [←this];exact g1) (.inl g2);clear g2;simp only at hgo;rw [←XR.out] at hgo;obtain ⟨hd0,hcf,hnx,agZ⟩:=hgo;have hL2:Hid (CL=pre++nv::lV (k,f,e,t) lim (d - 1) (i+1)):=ae (by rw [hL.out,hcf]);have XT:=ae hnx;clear hcf hnx;have hwn:IntKind.i64.wrap (nv+e)=nv+e:=by rw [IntKind.wrap_i64];omega
    obtain ⟨fn,tmps,assign,body,hy,qA⟩:=hY (m - 1) pre nv wr hJs (zi hL2.out);clear hL hY
    gi_wp2
    refine qA.mono ?_;rintro e9 W3 (⟨rfl,hJ3,ma⟩|⟨rfl,hJx3⟩)
    ·have XU:=ma.blk kB1 (by simp)
     have kC2:=ma.blk kB2 (by simp);have c3:=XU.cell
     gi_wp2
     go_roundw
     case rel=>exact ⟨i+1,d - 1,nv+e,pre++[nv],by go_num,by go_num,by omega,ae XT.out,ae (by have:=hd.out;omega),by omega,hJ3,XU,kC2,ae (by rw [hL2.out];simp)⟩
     case measure=>simp [intOf];omega
    ·gi_wp2
     refine bodyPost_ret (results_none rfl _ _ _) rfl ?_;exact ⟨⟨_,rfl⟩,.inr ⟨pre++[nv],zi hL2.out,hJx3⟩⟩
   ·have d2:(t==0)=false:=by simpa using g2
    by_cases g3:(i:Int)<t
    ·have d3:decide ((i:Int)<t)=true:=by simpa using g3
     have hgo:=FW (x:=(k,f,e,t)) hx'.out hd.out (by have:=XR.out;rw [←this];exact g1) (.inr g3);simp only at hgo;rw [←XR.out] at hgo;obtain ⟨hd0,hcf,hnx,agZ⟩:=hgo;have hL2:Hid (CL=pre++nv::lV (k,f,e,t) lim (d - 1) (i+1)):=ae (by rw [hL.out,hcf]);have XT:=ae hnx;clear hcf hnx;have hwn:IntKind.i64.wrap (nv+e)=nv+e:=by rw [IntKind.wrap_i64];omega
     obtain ⟨fn,tmps,assign,body,hy,qA⟩:=hY (m - 1) pre nv wr hJs (zi hL2.out);clear hL hY
     gi_wp2
     refine qA.mono ?_;rintro e9 W3 (⟨rfl,hJ3,ma⟩|⟨rfl,hJx3⟩)
     ·have XU:=ma.blk kB1 (by simp)
      have kC2:=ma.blk kB2 (by simp);have c3:=XU.cell
      gi_wp2
      go_roundw
      case rel=>exact ⟨i+1,d - 1,nv+e,pre++[nv],by go_num,by go_num,by omega,ae XT.out,ae (by have:=hd.out;omega),by omega,hJ3,XU,kC2,ae (by rw [hL2.out];simp)⟩
      case measure=>simp [intOf];omega
     ·gi_wp2
      refine bodyPost_ret (results_none rfl _ _ _) rfl ?_;exact ⟨⟨_,rfl⟩,.inr ⟨pre++[nv],zi hL2.out,hJx3⟩⟩
    ·have d3:decide ((i:Int)<t)=false:=by simpa using g3
     have hE:=D8 (x:=(k,f,e,t)) (lim:=lim) (d:=d) (i:=i) (by rintro ⟨_,h|h⟩ <;> simp only at h <;> omega);have hL2:Hid (pre=CL):=ae (by rw [hL.out,hE,List.append_nil]);clear hE
     gi_wp2
     go_end0
     exact ⟨⟨_,rfl⟩,.inl (by rw [←hL2.out];exact hJs)⟩
  ·have d1:decide (nv≤lim)=false:=by simpa using g1
   have hE:=D8 (x:=(k,f,e,t)) (lim:=lim) (d:=d) (i:=i) (by rintro ⟨h,_⟩;simp only at h;rw [←XR.out] at h;omega);have hL2:Hid (pre=CL):=ae (by rw [hL.out,hE,List.append_nil]);clear hE
   gi_wp2
   go_end0
   exact ⟨⟨_,rfl⟩,.inl (by rw [←hL2.out];exact hJs)⟩
theorem aaS:(prog.info? 4).map (fun i=>(i.zero,i.size,i.bytes))=some (some (.bool false),1,1):=by kernel_rfl
theorem Jj:∃i0,prog.info? 4=some i0∧i0.zero=some (.bool false)∧i0.size=1∧i0.bytes=1:=by
 obtain ⟨i0,h⟩:=info_parts aaS;exact ⟨i0,h⟩
theorem aeo (lim:Nat) (hl:lim≤1000000) (W:World):(Instr.makeSlice 259 (.int .i64 ((lim:Int)+1)) (.int .i64 ((lim:Int)+1))).run prog W= .ok (.slice (some ⟨W.heap.size,0,none⟩) (lim+1) (lim+1)) (W.alloc (.cells (Array.replicate (lim+1) (.bool false)) 4)):=by
 obtain ⟨i0,hi0,hz0,hz1,hz2⟩:=Jj;have h:=Qz (P:=prog) 259 4 i0 (.bool false) underlying259 hi0 hz0 rfl hz1 .i64 .i64 (lim+1) (by rw [hz2];omega) (by omega) W
 rwa [show ((lim+1:Nat):Int)=(lim:Int)+1 by omega] at h
theorem Jk (A:Option Addr) (n cap:Nat) (l:List Ru) (k:Int) (lim:Nat) (w:World) (hn:l.length=n) (hn1:n≤1000) (hok:∀x∈l,eT x=0) (hl:lim≤1000000) (hr:Rd w w.heap.size A (fl iN l)) :
  Calls prog 202 #[.agg #[.slice A n cap],.int .i64 k,.int .i64 lim] w (Ui l k lim w):=by
 refine bM func202 rfl ?_;simp only [ntmps202,List.size_toArray,List.length_cons,List.length_nil,Nat.reduceAdd,Nat.reduceSub,Array.replicate_succ,Array.replicate_zero,List.push_toArray,List.append_toArray,List.nil_append,List.cons_append];have k0:=ag.new w 28 #[.slice A n cap];have c0:=k0.cell;have hw1:IntKind.i64.wrap ((lim:Int)+1)=((lim+1:Nat):Int):=by rw [IntKind.wrap_i64];omega
 have hmk:=aeo lim hl;go_upto_region 2 with fail
 obtain ⟨s,hs⟩:=aj (w.heap.size);have hb2:Below s w (((w.alloc (.cells #[.slice A n cap] 28)).alloc (.cells (Array.replicate (lim+1) (.bool false)) 4)).alloc (.cells #[.slice (some ⟨w.heap.size+1,0,none⟩) (lim+1) (lim+1)] 259)):=by
  rw [←hs];exact ((aV w _).alloc (by simp) _).alloc (by simp;omega) _
 have kP:=(k0.alloc (.cells (Array.replicate (lim+1) (.bool false)) 4)).alloc (.cells #[.slice (some ⟨w.heap.size+1,0,none⟩) (lim+1) (lim+1)] 259);have kM:=(ag.new (w.alloc (.cells #[.slice A n cap] 28)) 4 (Array.replicate (lim+1) (.bool false))).alloc (.cells #[.slice (some ⟨w.heap.size+1,0,none⟩) (lim+1) (lim+1)] 259);have kO:=ag.new ((w.alloc (.cells #[.slice A n cap] 28)).alloc (.cells (Array.replicate (lim+1) (.bool false)) 4)) 259 #[.slice (some ⟨w.heap.size+1,0,none⟩) (lim+1) (lim+1)];simp only [World.size_alloc,hs] at hb2 kP kM kO ⊢;generalize ((w.alloc (.cells #[.slice A n cap] 28)).alloc (.cells (Array.replicate (lim+1) (.bool false)) 4)).alloc (.cells #[.slice (some ⟨s+1,0,none⟩) (lim+1) (lim+1)] 259)=W2 at *;have r0:Rd w s A (fl iN l):=by rw [←hs];exact hr
 have hs':=ae hs;have hn':=ae hn;have hok':=ae hok;have hI0:mY s lim A n cap (fun m=>nT (l.take 0) k m) [] w W2:=⟨_,kM,by simp,fun m hm=>by rw [Array.getElem?_replicate,if_pos (by omega)];simp [nT],kP,kO,fun D h=>(by cases h),List.Pairwise.nil,fun D h=>(by cases h),hb2⟩;have c2:=kP.cell;clear k0 c0 hr hs hmk hw1 kP kM kO hb2 hn hok;go_wp2_with fail;refine wp_loop (fun a wr=>∃(j:Nat) (Ds:List Nat) (u9 u10 u18 u19 u20 u21 u22 u23 u24 u25 u26 u27 u28 u29 u30 u31 u32 u33:Value),a={ tmps:=#[.agg #[.slice A n cap],.int .i64 k,.int .i64 lim,.pointer (some ⟨s,0,none⟩),undef,undef,.slice none 0 0,.pointer (some ⟨s+2,0,none⟩),undef,u9,u10,.int .i64 lim,.int .i64 ((lim:Int)+1),.slice (some ⟨s+1,0,none⟩) (lim+1) (lim+1),.pointer (some ⟨s,0,none⟩),.slice A n cap,.int .i64 n,.int .i64 j,u18,u19,u20,u21,u22,u23,u24,u25,u26,u27,u28,u29,u30,u31,u32,u33],defers:=Ds.map eX }∧j≤n∧mY s lim A n cap (fun m=>nT (l.take j) k m) Ds w wr) (fun a _=>n - (intOf (a.tmps.getD 17 undef)).toNat) ?_ ?_
 ·refine ⟨0,[],_,_,_,_,_,_,_,_,_,_,_,_,_,_,_,_,_,_,rfl,by omega,hI0⟩
 ·rintro a wr ⟨j,Ds,u9,u10,u18,u19,u20,u21,u22,u23,u24,u25,u26,u27,u28,u29,u30,u31,u32,u33,rfl,hj,hI⟩
  by_cases hlt:j<n
  ·have hlt':decide ((j:Int)<(n:Int))=true:=by simpa using hlt
   have hI':=hI;obtain ⟨cs,kM,hcs,hcm,kP,kO,hDs,Ji,hDl,hB⟩:=hI;have hsw:=kO.lt;have hPc:=kP.cell;obtain ⟨b,o,rfl,hbl,hc⟩:=(r0.below hB).elem jJ (by omega) oW (k:=j) (by have:=hn'.out;omega);have hmem:l.getD j oW∈l:=by rw [List.getD_eq_getElem?_getD,List.getElem?_eq_getElem (by have:=hn'.out;omega)];exact List.getElem_mem _
   have ab6:=hok'.out _ hmem;have hts:l.take (j+1)=l.take j++[l.getD j oW]:=by rw [List.take_add_one,List.getElem?_eq_getElem (by have:=hn'.out;omega),List.getD_eq_getElem?_getD,List.getElem?_eq_getElem (by have:=hn'.out;omega)];rfl
   have hsn:=ae (fun m:Int=>by have:=Vx (l.take j) (l.getD j oW) k m;rw [←hts] at this;exact this);generalize l.getD j oW=x at *;obtain ⟨xk,f,e,t⟩:=x;have x0:=hc 0 _ rfl;have x1:=hc 1 _ rfl;have x2:=hc 2 _ rfl;have x3:=hc 3 _ rfl;simp only [Nat.add_zero] at x0;have hin:(j:Int)<(n:Int):=by omega
   have kx:=ag.new wr 164 #[.int .i64 xk,.int .i64 f,.int .i64 e,.int .i64 t];have FZ:af (fun _=>False) wr (wr.alloc (.cells #[.int .i64 xk,.int .i64 f,.int .i64 e,.int .i64 t] 164)):=(af.refl _ _).alloc _;have cx:=kx.cell;have hIx:=hI'.far FZ (fun _ h=>h.elim);have QU:=ae ab6;have hI2:=ae hIx;have ag0:=ae hDl;clear hc hmem hts hcs hcm hDs Ji hDl hB kM kO hI' ab6 hIx;by_cases hk:xk=k
   ·subst hk
    have hk':(xk != xk)=false:=by simp
    have HC:=ae (fun W=>QT (xk,f,e,t) (lim:Int) W);simp only at HC;go_wp2_with fail;refine (HC.out _).mono ?_;rintro e9 w3 ⟨rfl,rfl⟩;go_wp2_with fail;obtain ⟨q,hq⟩:=aj (wr.heap.size);have kB1:=(ag.new (wr.alloc (.cells #[.int .i64 xk,.int .i64 f,.int .i64 e,.int .i64 t] 164)) 164 #[.int .i64 xk,.int .i64 f,.int .i64 e,.int .i64 t]).alloc (.cells #[.int .i64 lim] 3);have kB2:=ag.new ((wr.alloc (.cells #[.int .i64 xk,.int .i64 f,.int .i64 e,.int .i64 t] 164)).alloc (.cells #[.int .i64 xk,.int .i64 f,.int .i64 e,.int .i64 t] 164)) 3 #[.int .i64 lim];have ma:af (fun _=>False) (wr.alloc (.cells #[.int .i64 xk,.int .i64 f,.int .i64 e,.int .i64 t] 164)) (((wr.alloc (.cells #[.int .i64 xk,.int .i64 f,.int .i64 e,.int .i64 t] 164)).alloc (.cells #[.int .i64 xk,.int .i64 f,.int .i64 e,.int .i64 t] 164)).alloc (.cells #[.int .i64 lim] 3)):=((af.refl _ _).alloc _).alloc _;have hI3:=hI2.out.far ma (fun _ h=>h.elim);have NK:(((wr.alloc (.cells #[.int .i64 xk,.int .i64 f,.int .i64 e,.int .i64 t] 164)).alloc (.cells #[.int .i64 xk,.int .i64 f,.int .i64 e,.int .i64 t] 164)).alloc (.cells #[.int .i64 lim] 3)).heap.size=q+3:=by simp [hq]
    simp only [World.size_alloc,hq] at kB1 kB2 ⊢;generalize ((wr.alloc (.cells #[.int .i64 xk,.int .i64 f,.int .i64 e,.int .i64 t] 164)).alloc (.cells #[.int .i64 xk,.int .i64 f,.int .i64 e,.int .i64 t] 164)).alloc (.cells #[.int .i64 lim] 3)=W3 at *;have hDq:∀D∈Ds,D<q:=fun D hD=>by have:=ag0.out D hD;omega
    have hsq:s+2<q:=by omega
    have hseq:=NJ xk f e t lim (q+1) (q+2) W3 QU.out ⟨by omega,by omega⟩ kB1 kB2;have XV:=ae (fun m:Int=>NI (x:=(xk,f,e,t)) QU.out (lim:=lim) (by omega) m);have hpos:=ae (fun (m:Int) h=>NH (x:=(xk,f,e,t)) QU.out (n:=m) h);clear HC hI2 FZ kx cx x0 x1 x2 x3 c2 hq hsw hin;refine Fj (gf:=237) (lb:=#[.pointer (some ⟨q+1,0,none⟩),.pointer (some ⟨q+2,0,none⟩)]) rfl Jh hseq (fun _=>rfl) (fun k h=>h.elim) (fun k h=>by rw [NK];rcases h with rfl|rfl <;> omega)
     (fun pre W=>mY s lim (some ⟨b,o,none⟩) n cap (fun m=>nT (l.take j) xk m||decide ((m:Int)∈pre)) Ds w W) (fun _ _ _=>False)
     (fun pre A B h hf=>h.far hf (fun k h=>by rw [NK] at h;rcases h with h|h|h;exact h.elim;exact ⟨by omega,fun hD=>by have:=hDq _ hD;omega⟩;exact ⟨by omega,fun hD=>by have:=hDq _ hD;omega⟩))
     (fun _ _ _ _ h _=>h.elim) (hI3.congr (fun q _=>by simp))
     (fun _ v a' W=>a'={ tmps:=#[.agg #[.slice (some ⟨b,o,none⟩) n cap],.int .i64 xk,.int .i64 lim,.pointer (some ⟨s,0,none⟩),undef,undef,.slice none 0 0,.pointer (some ⟨s+2,0,none⟩),undef,.pointer (some ⟨q,0,none⟩),.int .i64 v,.int .i64 lim,.int .i64 ((lim:Int)+1),.slice (some ⟨s+1,0,none⟩) (lim+1) (lim+1),.pointer (some ⟨s,0,none⟩),.slice (some ⟨b,o,none⟩) n cap,.int .i64 n,.int .i64 j,.bool true,.pointer (some ⟨b,o+j*4,none⟩),.agg #[.int .i64 xk,.int .i64 f,.int .i64 e,.int .i64 t],.pointer (some ⟨q,0,none⟩),.int .i64 xk,.int .i64 xk,.bool false,.agg #[.int .i64 xk,.int .i64 f,.int .i64 e,.int .i64 t],.int .i64 lim,.func (.func 237) #[] #[.pointer (some ⟨q+1,0,none⟩),.pointer (some ⟨q+1+1,0,none⟩)],.int .i64 v,u29,u30,u31,u32,u33],defers:=[] })
     (fun _ _ _ _ _ h _=>h) ?assign ?body ?done ?stop
    case assign =>
     intro m l' v W C hs hC
     gi_wp2
     exact hC _ _ (af.refl _ _) rfl
    case body =>
     rintro m l' pre v a' _ W hs hI rfl hpre _ _;have wO:v∈zg (xk,f,e,t) lim:=hpre.subset (by simp);obtain ⟨hv1,hv2⟩:=(XV.out v).1 wO;have hv3:=hpos.out v hv2;obtain ⟨vn,rfl⟩:∃vn:Nat,v=(vn:Int):=⟨v.toNat,by omega⟩;have hvl:vn≤lim:=by omega
     have hI':=hI.mark hvl (g:=fun m=>nT (l.take j) xk m||decide ((m:Int)∈pre++[(vn:Int)])) (fun q _=>by
      by_cases e:q=vn
      ·subst e;simp
      ·have:¬(q:Int)=(vn:Int):=by omega
       rw [if_neg e];simp [this])
     have ag1:=ae hI';obtain ⟨cs,kM,hcs,hcm,kP,kO,_,_,_,_⟩:=hI;have cO:=kO.cell;have fM:=kM.frozen;have cM:=(kM.cell vn).trans (hcm vn hvl);have anz:(vn:Int)<(lim:Int)+1:=by omega
     generalize (nT (l.take j) xk vn||decide ((vn:Int)∈pre))=B0 at cM;clear hI' hcm wO hpre hcs kP hv2
     gi_wp2
     exact ⟨af.setCell (T:=fun k=>¬((k=q+1∨k=q+2)∨k=q+3∨k=q+3+1)) (p:=⟨s+1,vn,none⟩) (af.refl _ _) (fun _=>by show ¬((s+1=q+1∨s+1=q+2)∨s+1=q+3∨s+1=q+3+1);omega) _,ag1.out⟩
    case done =>
     rintro W hs hI hd;rw [NK] at hd ⊢;have hI4:=(hI.more hd (by omega) (fun hD=>by have:=hDq _ hD;omega)).congr (g:=fun m:Nat=>nT (l.take (j+1)) xk m) (fun q hq=>by
      rw [hsn.out];congr 1;rw [Bool.eq_iff_iff,decide_eq_true_eq,XV.out];simp;omega)
     have hI5:=ae hI4;clear hI4 hI hd;go_wp2_with fail;rw [show ((j:Int)+1)=((j+1:Nat):Int) by omega];refine ⟨⟨j+1,(q+3)::Ds,_,_,_,_,_,_,_,_,_,_,_,_,_,_,_,_,_,_,rfl,by omega,hI5.out⟩,?_⟩;simp [intOf];omega
    case stop=>exact fun _ _ _ _ _ h _=>h.elim
   ·have hk':(xk != k)=true:=by simpa using hk
    have hI3:=hI2.out.congr (g:=fun m:Nat=>nT (l.take (j+1)) k m) (fun q _=>by rw [hsn.out];simp [hk]);have ag3:=ae hI3;clear hI3 hk;go_wp2_with fail;refine ⟨⟨j+1,Ds,⟨by go_num,rfl⟩,by omega,ag3.out⟩,?_⟩;simp only [intOf];omega
  ·obtain rfl:j=n:=by omega
   have hlt':decide ((j:Int)<(j:Int))=false:=by simp
   obtain ⟨cs,kM,hcs,hcm,kP,kO,hDs,Ji,hDl,hB⟩:=hI;have cO:=kO.cell;have hl':l.take j=l:=List.take_of_length_le (by have:=hn'.out;omega);rw [hl'] at hcm;have hsw:=kO.lt;have hfin:=ae (And.intro hDs (And.intro Ji hDl));have hM:=ae (And.intro kM (And.intro hcs hcm));clear hl' hDs Ji hDl kM hcs hcm;go_wp2_with fail;refine BS Ds wr (fun D hD=>(hfin.out.1 D hD).2) hfin.out.2.1 (fun w9 hF=>⟨by simp [results,results202,go_sem];rfl,?_⟩);exact ⟨s+1,cs,rfl,hF.blk hM.out.1 (fun h=>by have:=(hfin.out.1 _ h).1;omega),hM.out.2.1,hM.out.2.2,by rw [hs'.out];exact hB.trans (hF.below (by omega) (fun k hk h=>by have:=(hfin.out.1 _ h).1;omega))⟩
theorem VB (A:Option Addr) (n cap:Nat) (l:List Ru) (k:Int) (lim:Nat) (w:World) (hn:l.length=n) (hn1:n≤1000) (hok:∀x∈l,eT x=0) (hl:lim≤1000000) (hr:Rd w w.heap.size A (fl iN l)) :
  Calls prog 169 #[.agg #[.slice A n cap],.int .i64 k,.int .i64 lim] w fun e w'=>e= .returned (.int .i64 (nI l k lim))∧Below w.heap.size w w':=by
 have hb0:=aV w (.cells #[.slice A n cap] 28);have k0:=ag.new w 28 #[.slice A n cap];have c0:=k0.cell;have r0:=hr.fw hb0;have HM:=Jk A n cap l k lim _ hn hn1 hok hl r0;have hz:=ae (Kn hok k lim);have hbd:=ae (D9 l k);generalize nI l k lim=R at *;unfold Ui at HM;have HM':=ae HM;clear HM r0 hr hok hn k0;go_enter func169,ntmps169;go_wp2_with fail;refine HM'.out.mono ?_;rintro e w1 ⟨g,cs,rfl,kM,hcs,hcm,hb1⟩;have B1:=hb0.trans (hb1.mono hb0.size);have hcm':=ae hcm;clear HM' hb0 hb1 c0 hcm hcs;go_wp2_with fail
 go_loopw [6,14] (fun u v wr=>∃(i:Nat) (c:Int),i≤lim+1∧u= .int .i64 c∧v= .int .i64 i∧Hid (c=vK l k i)∧wr=w1) (fun _ v _=>lim+1 - (intOf v).toNat)
 case atStart=>exact ⟨0,0,by omega,rfl,rfl,ae rfl,rfl⟩
 case round =>
  obtain ⟨i,c,hi,rfl,rfl,hc,hw⟩:=hrel;have hw':=hw.symm;clear hw;subst hw';have hbc:=hbd.out i;rw [←hc.out] at hbc;by_cases hlt:i<lim+1
  ·have hlt':decide ((i:Int)<(lim:Int)+1)=true:=by simp;omega
   have hin:(i:Int)<(lim:Int)+1:=by omega
   have cM:=(kM.cell i).trans (hcm'.out i (by omega));have hst:Hid (vK l k (i+1)=c+if nT l k (i:Int)=true then 1 else 0):=ae (by rw [vK,hc.out]);cases hv:nT l k (i:Int) with
   | true =>
    rw [hv] at cM;have df:Hid (c+1=vK l k (i+1)):=ae (by rw [hst.out,hv];simp);clear hst hv;go_wp2_with fail;go_roundw
    case rel=>exact ⟨i+1,c+1,by omega,rfl,by go_num,df,trivial⟩
    case measure=>simp [intOf];omega
   | false =>
    rw [hv] at cM;have df:Hid (c=vK l k (i+1)):=ae (by rw [hst.out,hv];simp);clear hst hv;go_wp2_with fail;go_roundw
    case rel=>exact ⟨i+1,c,by omega,rfl,by go_num,df,trivial⟩
    case measure=>simp [intOf];omega
  ·obtain rfl:i=lim+1:=by omega
   have hlt':decide (((lim+1:Nat):Int)<(lim:Int)+1)=false:=by simp
   have hcR:c=R:=by rw [hc.out,hz.out]
   subst hcR;go_wp2_with fail;go_ret;exact ⟨rfl,B1⟩
theorem VC (x:Ru) (n:Int) (w:World) (hx:eT x=0) (hn:0≤n∧n≤1000000):Calls prog 240 #[NF x,.int .i64 n] w fun e w'=>e= .returned (.int .i64 (Vw x n))∧Below w.heap.size w w':=by
 obtain ⟨k,f,e,t⟩:=x;obtain ⟨_,h1,h2,h3,h4⟩:=jv.1 hx;simp only at h1 h2 h3 h4;have hb0:=aV w (.cells #[.int .i64 k,.int .i64 f,.int .i64 e,.int .i64 t] 164);have k0:=ag.new w 164 #[.int .i64 k,.int .i64 f,.int .i64 e,.int .i64 t];have c0:=k0.cell;clear k0 h4 hx;obtain ⟨R,hR⟩:=aj (Vw (k,f,e,t) n);rw [hR];unfold Vw at hR;simp only at hR;by_cases c1:n<f
 ·have d1:decide (n<f)=true:=by simpa using c1
  have hE:Hid (R=f):=ae (by rw [←hR,if_pos c1]);clear hR;go_enter func240,ntmps240;go_wp2_with fail;go_ret;exact ⟨by rw [hE.out];rfl,hb0⟩
 have d1:decide (n<f)=false:=by simpa using c1
 rw [if_neg c1] at hR;by_cases c2:e=0
 ·have d2:(e==0)=true:=by simpa using c2
  have hE:Hid (R=0):=ae (by rw [←hR,if_pos c2]);clear c2;clear hR;go_enter func240,ntmps240;go_wp2_with fail;go_ret;exact ⟨by rw [hE.out];rfl,hb0⟩
 have d2:(e==0)=false:=by simpa using c2
 rw [if_neg c2] at hR;have he:0<e:=by omega
 obtain ⟨q,hq⟩:=aj ((n - f) / e);have hq0:0≤q:=by rw [←hq];exact Int.ediv_nonneg (by omega) (by omega)
 have hq1:q≤1000000:=by rw [←hq];have:=Int.ediv_le_self e (show 0≤n - f by omega);omega
 have hqt:Int.tdiv (n - f) e=q:=by rw [Int.tdiv_eq_ediv_of_nonneg (by omega)];exact hq
 have hw1:IntKind.i64.wrap (n - f)=n - f:=by rw [IntKind.wrap_i64];omega
 have hw2:IntKind.i64.wrap (q+1)=q+1:=by rw [IntKind.wrap_i64];omega
 rw [hq] at hR;have hm0:0≤(q+1)*e:=Int.mul_nonneg (by omega) (by omega);have hm1:(q+1)*e≤12000012:=by
  have h5:(q+1)*e≤1000001*e:=Int.mul_le_mul_of_nonneg_right (by omega) (by omega);omega
 obtain ⟨p,hp⟩:=aj ((q+1)*e);rw [hp] at hR hm0 hm1;have hw3:IntKind.i64.wrap ((q+1)*e)=p:=by rw [hp,IntKind.wrap_i64];omega
 have hw4:IntKind.i64.wrap (f+p)=f+p:=by rw [IntKind.wrap_i64];omega
 clear hq hp;by_cases c3:0<t
 ·have d3:decide (0<t)=true:=by simpa using c3
  by_cases c4:t≤q+1
  ·have d4:decide (t≤q+1)=true:=by simpa using c4
   have hE:Hid (R=0):=ae (by rw [←hR,if_pos ⟨c3,c4⟩]);clear hR;go_enter func240,ntmps240;go_wp2_with fail;go_ret;exact ⟨by rw [hE.out];rfl,hb0⟩
  ·have d4:decide (t≤q+1)=false:=by simpa using c4
   have hE:Hid (R=f+p):=ae (by rw [←hR,if_neg (by omega)]);clear hR;go_enter func240,ntmps240;go_wp2_with fail;go_ret;exact ⟨by rw [hE.out];rfl,hb0⟩
 ·have d3:decide (0<t)=false:=by simpa using c3
  have hE:Hid (R=f+p):=ae (by rw [←hR,if_neg (by omega)]);clear hR;go_enter func240,ntmps240;go_wp2_with fail;go_ret;exact ⟨by rw [hE.out];rfl,hb0⟩
theorem NL (p:Ru→Bool) (g:Nat) (lb:Array Value) (A:Option Addr) (n cap:Nat) (bs:List Ru) (w:World) (hn:bs.length=n) (hm:n≤1000) (hr:Rd w w.heap.size A (fl iN bs))
  (eg:∀args w,(callFunc g args).run prog w= .ok (.enter g args) w)
  (hp:∀x∈bs,∀W,Below w.heap.size w W→Calls prog g (#[NF x]++lb) W fun e W'=>e= .returned (.bool (p x))∧Below W.heap.size W W') :
  Calls prog 246 #[.slice A n cap,.func (.func g) #[] lb] w fun e w'=>e= .returned (.int .i64 (BU p bs 0))∧Below w.heap.size w w':=by
 obtain ⟨R,hR⟩:=aj (BU p bs 0);rw [hR];have hR':=ae hR;have hn':=ae hn;have hp':=ae hp;clear hR hn hp;go_enter func246,ntmps246;go_wp2_with fail
 go_loopw [8] (fun i wr=>∃k:Nat,k≤n∧i= .int .i64 k∧Below w.heap.size w wr∧Hid (BU p (bs.drop k) k=R)) (fun i _=>n - (intOf i).toNat)
 case atStart=>exact ⟨0,by omega,rfl,Below.refl _ _,by simpa using hR'⟩
 case round =>
  obtain ⟨k,hk,rfl,hB,hH⟩:=hrel;by_cases hlt:k<n
  ·have hlt':decide ((k:Int)<(n:Int))=true:=by simpa using hlt
   obtain ⟨b,o,rfl,_,hc⟩:=(hr.fw hB).elem jJ (by omega) oW (k:=k) (by have:=hn'.out;omega);have HP:=ae (hp'.out (bs.getD k oW) (Ea (by have:=hn'.out;omega)) wr hB);have hst:=hH.out;rw [Go.Pol.drop_cons oW bs k (by have:=hn'.out;omega),BU] at hst;generalize bs.getD k oW=x at *;obtain ⟨xk,f,e,t⟩:=x;have x0:=hc 0 _ rfl;have x1:=hc 1 _ rfl;have x2:=hc 2 _ rfl;have x3:=hc 3 _ rfl;simp only [Nat.add_zero] at x0;have hkn:(k:Int)<(n:Int):=by omega
   clear hc;cases hpx:p (xk,f,e,t) with
   | true =>
    rw [hpx] at HP;rw [if_pos hpx] at hst;have hst':=ae hst;clear hst hH hpx;go_wp2_with fail;refine HP.out.mono ?_;rintro e w1 ⟨rfl,hb1⟩;go_wp2_with fail;go_ret;exact ⟨AV hst'.out,hB.trans (hb1.mono hB.size)⟩
   | false =>
    rw [hpx] at HP;rw [if_neg (by simp [hpx])] at hst;have hst':=ae hst;clear hst hH hpx;go_wp2_with fail;refine HP.out.mono ?_;rintro e w1 ⟨rfl,hb1⟩;go_wp2_with fail;go_roundw
    case rel=>exact ⟨k+1,by omega,by go_num,hB.trans (hb1.mono hB.size),hst'⟩
    case measure=>simp [intOf];omega
  ·obtain rfl:k=n:=by omega
   have hlt':decide ((k:Int)<(k:Int))=false:=by simp
   have hst:=hH.out;rw [List.drop_of_length_le (by have:=hn'.out;omega)] at hst;have hst':=ae (show -1=R from hst);clear hst hH;go_wp2_with fail;go_ret;exact ⟨AV hst'.out,hB⟩
theorem Ga (p:Ru→Bool) (g:Nat) (lb:Array Value) (A:Option Addr) (n cap:Nat) (bs:List Ru) (w:World) (hn:bs.length=n) (hm:n≤1000) (hr:Rd w w.heap.size A (fl iN bs))
  (eg:∀args w,(callFunc g args).run prog w= .ok (.enter g args) w)
  (hp:∀x∈bs,∀W,Below w.heap.size w W→Calls prog g (#[NF x]++lb) W fun e W'=>e= .returned (.bool (p x))∧Below W.heap.size W W') :
  Calls prog 238 #[.slice A n cap,.func (.func g) #[] lb] w fun e w'=>e= .returned (.bool (bs.any p))∧Below w.heap.size w w':=by
 have HI:=ae (NL p g lb A n cap bs w hn hm hr eg hp);have hE:=ae (Ko p bs 0);generalize BU p bs 0=R at *;generalize bs.any p=S at *;go_enter func238,ntmps238;go_wp2_with fail;refine HI.out.mono ?_;rintro e w1 ⟨rfl,hb1⟩;go_wp2_with fail;go_ret;exact ⟨dF hE.out,hb1⟩
theorem Jl (x:Ru) (k n:Int) (B4 B5:Nat) (W:World) (hx:eT x=0) (hn:1≤n∧n≤1000000) (h4:ag W B4 3 #[.int .i64 k]) (h5:ag W B5 3 #[.int .i64 n]) :
  Calls prog 239 #[NF x,.pointer (some ⟨B4,0,none⟩),.pointer (some ⟨B5,0,none⟩)] W fun e W'=>e= .returned (.bool (x.1==k&&qg x n))∧Below W.heap.size W W':=by
 have hnx:=XQ hx hn.1;have HN:=ae (fun W=>VC x (n - 1) W hx (by omega));generalize Vw x (n - 1)=q at *;generalize qg x n=R at *;obtain ⟨xk,f,e,t⟩:=x;have hw1:IntKind.i64.wrap (n - 1)=n - 1:=by rw [IntKind.wrap_i64];omega
 have hb0:=aV W (.cells #[.int .i64 xk,.int .i64 f,.int .i64 e,.int .i64 t] 164);have k0:=ag.new W 164 #[.int .i64 xk,.int .i64 f,.int .i64 e,.int .i64 t];have g4:=h4.alloc (.cells #[.int .i64 xk,.int .i64 f,.int .i64 e,.int .i64 t] 164);have g5:=h5.alloc (.cells #[.int .i64 xk,.int .i64 f,.int .i64 e,.int .i64 t] 164);obtain ⟨s,hs⟩:=aj (W.heap.size);clear hx h4 h5;go_enter func239,ntmps239;go_upto_region 1 with fail
 generalize W.alloc (.cells #[.int .i64 xk,.int .i64 f,.int .i64 e,.int .i64 t] 164)=w0 at *;rw [hs] at hb0 k0;try simp only [hs]
 have hs':=ae hs;clear hs;have z0:=fun z:Ext w0=>(z.blk k0).cell
 have z4:=fun z:Ext w0=>(z.blk g4).cell
 have z5:=fun z:Ext w0=>(z.blk g5).cell
 by_cases hk:xk=k
 ·have d1:(xk==k)=true:=by simpa using hk
  have G:=ae (fun z:Ext w0=>Ext.call (x:=z) (HN.out z.w));have hE:Hid ((q==n)=R):=ae hnx;clear hnx hk;refine aF (by kernel_rfl) (by kernel_rfl) ?_
  repeat (go_big_quiet_step ((go_at_call 240;exact G.out _)))
  refine wpQuiet_nil ?_;rintro w1 ⟨⟨_,hw1⟩,rfl⟩;go_wp2_with fail;go_ret;exact ⟨dF (by rw [d1,Bool.true_and];exact hE.out),by rw [hs'.out];exact hb0.trans (hw1.mono (by have:=hb0.size;have:=hs'.out;omega))⟩
 ·have d1:(xk==k)=false:=by simpa using hk
  clear hnx hk;refine aF (by kernel_rfl) (by kernel_rfl) ?_
  repeat (go_big_quiet_step (fail))
  refine wpQuiet_nil ?_;rintro w1 ⟨⟨_,hw1⟩,rfl⟩;go_wp2_with fail;go_ret;exact ⟨dF (by rw [d1,Bool.false_and]),by rw [hs'.out];exact hb0.trans (hw1.mono (by have:=hb0.size;have:=hs'.out;omega))⟩
theorem Dk:∀args w,(callFunc 239 args).run prog w= .ok (.enter 239 args) w:=enters_of func239 (by kernel_rfl) rfl
theorem LF (A:Option Addr) (n cap:Nat) (l:List Ru) (k nn:Int) (w:World) (hn:l.length=n) (hm:n≤1000) (hok:∀x∈l,eT x=0) (hnn:1≤nn∧nn≤1000000) (hr:Rd w w.heap.size A (fl iN l)) :
  Calls prog 221 #[.agg #[.slice A n cap],.int .i64 k,.int .i64 nn] w fun e w'=>e= .returned (.bool (nT l k nn))∧Below w.heap.size w w':=by
 obtain ⟨s,hs⟩:=aj (w.heap.size);have hb0:=((aV w (.cells #[.slice A n cap] 28)).alloc (by simp) (.cells #[.int .i64 k] 3)).alloc (by simp;omega) (.cells #[.int .i64 nn] 3);have kP:=((ag.new w 28 #[.slice A n cap]).alloc (.cells #[.int .i64 k] 3)).alloc (.cells #[.int .i64 nn] 3);have k4:=(ag.new (w.alloc (.cells #[.slice A n cap] 28)) 3 #[.int .i64 k]).alloc (.cells #[.int .i64 nn] 3);have k5:=ag.new ((w.alloc (.cells #[.slice A n cap] 28)).alloc (.cells #[.int .i64 k] 3)) 3 #[.int .i64 nn];simp only [World.size_alloc,hs] at k4 k5 kP;have r0:=hr.fw hb0;generalize hw0:((w.alloc (.cells #[.slice A n cap] 28)).alloc (.cells #[.int .i64 k] 3)).alloc (.cells #[.int .i64 nn] 3)=w0 at *;have HC:=ae (Ga (fun x=>x.1==k&&qg x nn) 239 #[.pointer (some ⟨s+1,0,none⟩),.pointer (some ⟨s+2,0,none⟩)] A n cap l w0 hn hm r0 Dk
  (fun x hx W hW=>Jl x k nn (s+1) (s+2) W (hok x hx) hnn (k4.call hW) (k5.call hW)))
 have hR:l.any (fun x=>x.1==k&&qg x nn)=nT l k nn:=rfl;rw [hR] at HC;generalize nT l k nn=R at *;have ag5:=ae hw0;have hs':=ae hs;have cP:=kP.cell;clear hw0 hs hR r0 hr hok hn k4 k5 kP;go_enter func221,ntmps221;go_upto_region 1 with fail
 rw [ag5.out];simp only [hs'.out];go_wp2_with fail;refine HC.out.mono ?_;rintro e w1 ⟨rfl,hb1⟩;go_wp2_with fail;go_ret;exact ⟨rfl,hb0.trans (hb1.mono hb0.size)⟩
theorem ag6 (cs:Nat→Int) (j:Nat) (hj:j<7) (W:World):(Instr.index 67 (.agg #[.int .i64 (cs 0),.int .i64 (cs 1),.int .i64 (cs 2),.int .i64 (cs 3),.int .i64 (cs 4),.int .i64 (cs 5),.int .i64 (cs 6)]) (.int .i64 j)).run prog W= .ok (.int .i64 (cs j)) W:=by
 have u:=underlying67;have a3:=Tryz.isAgg3;have z3:=Tryz.sizeOf3;have hg:=aeq cs hj;have h1:0≤(j:Int)∧(j:Int)<7:=by omega
 obtain ⟨X,hX⟩:=aj (c7 cs);change (Instr.index 67 (.agg (c7 cs)) (.int .i64 j)).run prog W=_;rw [hX] at hg ⊢;unfold Instr.index;simp only [Sem.run_bind,run_underlying u,Result.andThen_ok];simp [part,asIntOf,a3,Result.andThen,h1,hg]
theorem EI (A:Option Addr) (n cap:Nat) (S:Rf) (w:World) (hS:uC S) (hn:S.rules.length=n) (hr:Rd w w.heap.size A (fl iN S.rules)) :
  Calls prog 101 #[gK (.slice A n cap) S.calls S.hits] w fun e w'=>e= .returned (.int .i64 0)∧Below w.heap.size w w':=by
 obtain ⟨l,cs,hs⟩:=S;obtain ⟨h1,h2,h3⟩:=hS;simp only at h1 h2 h3 hn hr;simp only;obtain ⟨hlen,hok⟩:=mX.1 h1;have NM:n≤50:=by omega
 have HC:=ae (fun W h=>yl A n cap l W hn h);rw [h1] at HC;generalize (ic l).1=ci at *;unfold gK aM;have hb0:=aV w (.cells #[.slice A n cap,.int .i64 (cs 0),.int .i64 (cs 1),.int .i64 (cs 2),.int .i64 (cs 3),.int .i64 (cs 4),.int .i64 (cs 5),.int .i64 (cs 6),.int .i64 (hs 0),.int .i64 (hs 1),.int .i64 (hs 2),.int .i64 (hs 3),.int .i64 (hs 4),.int .i64 (hs 5),.int .i64 (hs 6)] 69);have k0:=ag.new w 69 #[.slice A n cap,.int .i64 (cs 0),.int .i64 (cs 1),.int .i64 (cs 2),.int .i64 (cs 3),.int .i64 (cs 4),.int .i64 (cs 5),.int .i64 (cs 6),.int .i64 (hs 0),.int .i64 (hs 1),.int .i64 (hs 2),.int .i64 (hs 3),.int .i64 (hs 4),.int .i64 (hs 5),.int .i64 (hs 6)];have r0:=hr.fw hb0;obtain ⟨s,hsz⟩:=aj (w.heap.size);have hh2:=ae h2;have hh3:=ae h3;have ag7:=ae (fun j hj W=>ag6 cs j hj W);have hok':=ae hok;have hn':=ae hn;clear hr h1 h2 h3 hok hn;go_enter func101,ntmps101;go_upto_region 1 with fail
 generalize w.alloc (.cells #[.slice A n cap,.int .i64 (cs 0),.int .i64 (cs 1),.int .i64 (cs 2),.int .i64 (cs 3),.int .i64 (cs 4),.int .i64 (cs 5),.int .i64 (cs 6),.int .i64 (hs 0),.int .i64 (hs 1),.int .i64 (hs 2),.int .i64 (hs 3),.int .i64 (hs 4),.int .i64 (hs 5),.int .i64 (hs 6)] 69)=w0 at *;rw [hsz] at hb0 k0;try simp only [hsz]
 have hsz':=ae hsz;clear hsz;have c0:=k0.cell;go_wp2_with fail;refine (HC.out _ r0).mono ?_;rintro e w1 ⟨rfl,hb1⟩;have k1:=k0.call hb1;have c1:=k1.cell;have r1:=r0.fw hb1;have B1:=hb0.trans (hb1.mono (by have:=hb0.size;have:=hsz'.out;omega));clear c0 k0 r0 hb0 hb1 HC;go_wp2_with fail;clear c1
 go_loopw [18] (fun u wr=>∃j:Nat,j≤7∧u= .int .i64 j∧Below w1.heap.size w1 wr) (fun u _=>7 - (intOf u).toNat)
 case atStart=>exact ⟨0,by omega,rfl,Below.refl _ _⟩
 case round =>
  obtain ⟨j,hj,rfl,hB⟩:=hrel;by_cases hlt:j<7
  ·have hlt':decide ((j:Int)<7)=true:=by simp;omega
   have hin:(j:Int)<7:=by omega
   have hix:=ag7.out j hlt;have AR:=hh2.out j hlt;have hhi:=hh3.out j hlt;have kr:=k1.call hB;have hcell:=(kr.cell (8+j)).trans (vL (.slice A n cap) cs hs hlt);rw [hhi] at hcell;obtain ⟨m,hm⟩:∃m:Nat,cs j=(m:Int):=⟨(cs j).toNat,by omega⟩;rw [hm] at hix hcell AR;simp only [Int.toNat_natCast] at hcell;have G:=ae (fun z:Ext wr=>Ext.call (x:=z) (VB A n cap l (j:Int) m z.w hn'.out (by omega) hok'.out (by omega) ((r1.fw hB).fw z.le)));generalize nI l (j:Int) m=H at *;have d1:decide ((m:Int)<0)=false:=by rw [decide_eq_false_iff_not];omega
   have d2:decide ((1000000:Int)<(m:Int))=false:=by rw [decide_eq_false_iff_not];omega
   have d3:(H != H)=false:=by simp
   have z0:=fun z:Ext wr=>((z.blk kr).cell 0)
   have zh:=fun z:Ext wr=>z.cell hcell
   clear hhi hm hcell;go_upto_region 7 with fail
   refine aF (by kernel_rfl) (by kernel_rfl) ?_
   repeat (go_big_quiet_step ((go_at_call 169;exact G.out _)))
   refine wpQuiet_nil ?_;rintro w2 ⟨⟨_,hw2⟩,rfl⟩;clear z0 zh;go_wp2_with fail;go_roundw
   case rel=>exact ⟨j+1,by omega,by go_num,hB.trans (hw2.mono hB.size)⟩
   case measure=>simp [intOf];omega
  ·obtain rfl:j=7:=by omega
   have hlt':decide (((7:Nat):Int)<7)=false:=by simp
   go_wp2_with fail;go_ret;exact ⟨rfl,by rw [hsz'.out];exact B1.trans (hB.mono (by have:=B1.size;have:=hsz'.out;omega))⟩
theorem QV (A:Option Addr) (n cap:Nat) (S:Rf) (k:Nat) (w:World) (hS:uC S) (hk:k<7) (hn:S.rules.length=n) (hz:A=none→cap=0) (hr:Rd w w.heap.size A (fl iN S.rules)) :
  Calls prog 205 #[gK (.slice A n cap) S.calls S.hits,.int .i64 k] w (XW S k w):=by
 obtain ⟨h1,h2,h3⟩:=hS;obtain ⟨hlen,hok⟩:=mX.1 h1;have NM:n≤50:=by omega
 have hck:=h2 k hk;have HC:=ae (fun W h=>EI A n cap S W ⟨h1,h2,h3⟩ hn h);have HK:=ae (fun W h=>ym A n cap S.rules W hn (by omega) hz h);obtain ⟨Q,hQ⟩:=aj (XW S k w);rw [hQ];have Jm:=ae (fun (h:S.calls k=1000000) w' (hb:Below w.heap.size w w')=>show Q (.returned (.tuple #[gK (.slice none 0 0) (fun _=>0) (fun _=>0),.bool false,.int .i64 3])) w' by rw [←hQ];exact .inl ⟨h,rfl,hb⟩);have Gc:=ae (fun (h:S.calls k≠1000000) v w' (hv:BQ S.rules w v w')=>show Q (.returned (.tuple #[gK v (fe S k).calls (fe S k).hits,.bool (qC S k),.int .i64 0])) w' by rw [←hQ];exact .inr ⟨h,v,rfl,hv⟩);unfold fe qC at Gc;have HR:=ae (fun (hc:S.calls k≠1000000) (A':Option Addr) (c':Nat) W h=>LF A' n c' S.rules (k:Int) (S.calls k+1) W hn (by omega) hok ⟨by omega,by omega⟩ h);have hcell:=ae (mZ (.slice A n cap) S.calls S.hits hk);have ak3:=ae (fun v cs=>vL v cs S.hits hk);have hset:=ae (fun v (x:Int)=>Kr v S.calls S.hits hk x);have Gd:=ae (fun v cs (x:Int)=>Ku v cs S.hits hk x);have hhk:0≤S.hits k∧S.hits k≤1000000:=by
  have:=uB S.rules k (S.calls k).toNat;rw [←h3 k hk] at this;omega
 obtain ⟨l,cs,hs⟩:=S;simp only at hcell hset Gd Jm Gc HR HK HC hr hn hck hhk;have hn':=ae hn;clear hQ h1 h2 h3 hlen hok hn;have hb0:=(aV w (.cells (aM (.slice A n cap) cs hs).toArray 69)).alloc (by simp) (.cells (aM (.slice none 0 0) (fun _=>0) (fun _=>0)).toArray 69);have k0:=(ag.new w 69 (aM (.slice A n cap) cs hs).toArray).alloc (.cells (aM (.slice none 0 0) (fun _=>0) (fun _=>0)).toArray 69);have b0:=ag.new (w.alloc (.cells (aM (.slice A n cap) cs hs).toArray 69)) 69 (aM (.slice none 0 0) (fun _=>0) (fun _=>0)).toArray;obtain ⟨s,hsz⟩:=aj (w.heap.size);rw [World.size_alloc,hsz] at b0;rw [hsz] at k0;unfold gK aM at HC ⊢;simp only at HC ⊢;unfold aM at hb0 k0 b0;have r0:=hr.fw hb0;go_enter func205,ntmps205;go_upto_region 1 with fail
 generalize (w.alloc _).alloc _=w0 at *;rw [hsz] at hb0;try simp only [hsz]
 have hsz':=ae hsz;clear hsz hr;have c0:=k0.cell;go_wp2_with fail;refine (HC.out _ r0).mono ?_;rintro e w1 ⟨rfl,hb1⟩;have k1:ag w1 s 69 (aM (.slice A n cap) cs hs).toArray:=k0.call hb1;have b1:=b0.call hb1;have r1:=r0.fw hb1;have B1:=hb0.trans (hb1.mono (by have:=hb0.size;have:=hsz'.out;omega));clear c0 k0 b0 r0 hb0 hb1 HC;have hin:(k:Int)<7:=by omega
 have d1:decide ((k:Int)<0)=false:=by rw [decide_eq_false_iff_not];omega
 have d2:decide ((7:Int)≤(k:Int))=false:=by rw [decide_eq_false_iff_not];omega
 have ck:=(k1.cell (1+k)).trans hcell.out;by_cases hc:cs k=1000000
 ·have Dl:=ae (Jm.out hc)
  rw [hc] at ck;clear Gc HR HK hc;go_upto_region 7 with fail
  go_wp2_with (refine wpList_store_mid rfl 69 (.tmp 4) (.tmp 29) rfl (s+1) 0 (aM (.slice none 0 0) (fun _=>0) (fun _=>0)).toArray rfl rfl (dP b1 0 15 (by simp)) dM (Go.all_oneCell_toArray (jK rfl _ _)) ?_)
  have k4:=ag.puts (g:=s+1) (t:=69) (w:=w1) (cs:=#[]) (aM (.slice none 0 0) (fun _=>0) (fun _=>0)) 0 w1 _ b1;rw [eB (by rfl)] at k4;have iI:=af.puts (T:=fun k=>k=s+1) rfl (aM (.slice none 0 0) (fun _=>0) (fun _=>0)) 0 w1 w1 (af.refl _ _);generalize (w1).setCells (s+1) 0 (aM (.slice none 0 0) (fun _=>0) (fun _=>0))=w4 at *;have hl4:=run_loadVar_mid (P:=prog) w4 (s+1) 0 69 (aM (.slice none 0 0) (fun _=>0) (fun _=>0)) _ (fun j v hj=>by rw [Nat.zero_add,k4.cell];simpa using hj) underlying69 rfl dM;have hB4:Below w.heap.size w1 w4:=iI.below (by have:=B1.size;have:=hsz'.out;omega) (fun k hk e=>by have:=hsz'.out;omega);refine bodyPost_ret (v:=.tuple #[gK (.slice none 0 0) (fun _=>0) (fun _=>0),.bool false,.int .i64 3]) ?_ rfl ?_
  ·exact fC results205 rfl hl4
  rw [←hsz'.out] at B1;exact Dl.out _ (B1.trans hB4)
 ·have d3:(cs k==1000000)=false:=by simpa using hc
  have Dl:=ae (Gc.out hc);have XX:=ae (HR.out hc);have hw1:IntKind.i64.wrap (cs k+1)=cs k+1:=by rw [IntKind.wrap_i64];omega
  have hw2:IntKind.i64.wrap (hs k+1)=hs k+1:=by rw [IntKind.wrap_i64];omega
  have hup:∀(f:Nat→Int) x,qh f k x k=x:=fun f x=>by simp [qh]
  have XY:=ae hup;clear Gc Jm HR hup hc;go_upto_region 8 with fail
  have c0:w1.cell? ⟨s,0,none⟩=some (.slice A n cap):=(k1.cell 0).trans rfl;go_wp2_with fail;refine (HK.out _ r1).mono ?_;rintro e w2 ⟨v,rfl,hv⟩;obtain ⟨A2,c2,rfl,v1,v2,v3,v4,v5,hb2⟩:=hv;have k2:=k1.call hb2;have b2:=b1.call hb2;have hs1:=b1.lt;have B2:=B1.trans (hb2.mono (by have:=B1.size;have:=hsz'.out;omega));have c2':w2.cell? ⟨s,0,none⟩=some (.slice A n cap):=(k2.cell 0).trans rfl;have f2:=k2.frozen;clear k1 b1 r1 B1 c0 hb2 HK;rw [hn'.out] at v2 ⊢;go_upto_region 9 with fail
  have k3:=k2.aO 0 (.slice A2 n c2);rw [VD] at k3;have ma:af (fun k=>k=s) w2 (w2.setCell ⟨s,0,none⟩ (.slice A2 n c2)):=af.setCell (T:=fun k=>k=s) (p:=⟨s,0,none⟩) (af.refl _ _) (fun _=>rfl) _;generalize w2.setCell ⟨s,0,none⟩ (.slice A2 n c2)=w3 at *;have c3:=(k3.cell (1+k)).trans (mZ (.slice A2 n c2) cs hs hk);have f3:=k3.frozen;clear c2' f2 ck;go_upto_region 10 with fail
  have k4:=k3.aO (1+k) (.int .i64 (cs k+1));rw [hset.out] at k4;have iI:af (fun k=>k=s) w2 (w3.setCell ⟨s,1+k,none⟩ (.int .i64 (cs k+1))):=ma.setCell (p:=⟨s,1+k,none⟩) (fun _=>rfl) _;generalize w3.setCell ⟨s,1+k,none⟩ (.int .i64 (cs k+1))=w4 at *;have c4:=(k4.cell (1+k)).trans (mZ (.slice A2 n c2) (qh cs k (cs k+1)) hs hk);rw [XY.out] at c4;have c40:w4.cell? ⟨s,0,none⟩=some (.slice A2 n c2):=(k4.cell 0).trans rfl;have r4:Rd w4 w4.heap.size A2 (fl iN l):=(v1.Gb iI (fun b o e=>by have:=v4 b o e;omega)).more iI.size;have z0:=fun z:Ext w4=>z.cell c40
  have z1:=fun z:Ext w4=>z.cell c4
  have G:=ae (fun z:Ext w4=>Ext.call (x:=z) (XX.out A2 c2 z.w (r4.fw z.le)));have b4:=iI.blk b2 (by omega);generalize nT l (k:Int) (cs k+1)=bb at *;clear c3 f3 c4 c40 XX k3 k2 ma b2;refine aF (by kernel_rfl) (by kernel_rfl) ?_
  repeat (go_big_quiet_step ((go_at_call 221;exact G.out _)))
  refine wpQuiet_nil ?_;rintro w5 ⟨⟨_,mf⟩,rfl⟩;have k5:=k4.call mf;have b5:=b4.call mf;have QW:af (fun k=>k=s) w2 w5:=iI.trans (.of_below mf);clear z0 z1 G r4 k4 b4 mf iI;cases bb with
  | true =>
   simp only [if_true] at Dl;have c5:=(k5.cell (8+k)).trans (vL (.slice A2 n c2) (qh cs k (cs k+1)) hs hk);have f5:=k5.frozen;go_upto_region 13 with fail
   have k6:=k5.aO (8+k) (.int .i64 (hs k+1));rw [Gd.out] at k6;have b6:=b5.far (p:=⟨s,8+k,none⟩) (by show s+1≠s;omega) (.int .i64 (hs k+1));have Gf:af (fun k=>k=s) w2 (w5.setCell ⟨s,8+k,none⟩ (.int .i64 (hs k+1))):=QW.setCell (p:=⟨s,8+k,none⟩) (fun _=>rfl) _;generalize w5.setCell ⟨s,8+k,none⟩ (.int .i64 (hs k+1))=w6 at *;clear c5 f5 k5 b5 QW;generalize qh hs k (hs k+1)=hs2 at *;generalize qh cs k (cs k+1)=cs2 at *;have oK:World.rangeAt w6 s 0 (aM (.slice A2 n c2) cs2 hs2):=fun j v hj=>by rw [Nat.zero_add,(k6).cell];simpa using hj
   go_wp2_with (first
    | (refine wpList_load_mid rfl 69 (.tmp 2) rfl s 0 rfl (aM (.slice A2 n c2) cs2 hs2) _ oK underlying69 rfl dM ?_)
    | (refine wpList_store_mid rfl 69 (.tmp 4) (.tmp 59) rfl (s+1) 0 (aM (.slice A2 n c2) cs2 hs2).toArray rfl rfl (dP b6 0 15 (by simp)) dM (Go.all_oneCell_toArray (jK rfl _ _)) ?_))
   have k7:=ag.puts (g:=s+1) (t:=69) (w:=w6) (cs:=#[]) (aM (.slice A2 n c2) cs2 hs2) 0 w6 _ b6;rw [eB (by rfl)] at k7;have rq:=af.puts (T:=fun k=>k=s∨k=s+1) (.inr rfl) (aM (.slice A2 n c2) cs2 hs2) 0 w2 w6 ((Gf).mono (fun _ _ h=>.inl h));generalize (w6).setCells (s+1) 0 (aM (.slice A2 n c2) cs2 hs2)=w7 at *;have LG:=run_loadVar_mid (P:=prog) w7 (s+1) 0 69 (aM (.slice A2 n c2) cs2 hs2) _ (fun j v hj=>by rw [Nat.zero_add,k7.cell];simpa using hj) underlying69 rfl dM;have BV:Below w.heap.size w2 w7:=rq.below (by have:=B2.size;omega) (fun k hk e=>by have:=hsz'.out;omega);rw [←hsz'.out] at B2;refine bodyPost_ret (v:=.tuple #[gK (.slice A2 n c2) cs2 hs2,.bool true,.int .i64 0]) ?_ rfl ?_
   ·exact fC results205 rfl LG
   refine Dl.out _ _ ⟨A2,c2,by rw [hn'.out],(v1.Gb rq (fun b o e=>by have:=v4 b o e;omega)).more rq.size,by rw [hn'.out];exact v2,v3,fun b o e=>by have:=v4 b o e;have:=B2.size;have:=hsz'.out;omega,⟨v5.1,fun g o e h=>(v5.2 g o e h).imp fun cr hcr=>rq.blk hcr (by have:=v4 g o e;show ¬(g=s∨g=s+1);omega)⟩,B2.trans BV⟩
  | false =>
   simp only [Bool.false_eq_true,if_false] at Dl;generalize qh cs k (cs k+1)=cs2 at *;have oK:World.rangeAt w5 s 0 (aM (.slice A2 n c2) cs2 hs):=fun j v hj=>by rw [Nat.zero_add,(k5).cell];simpa using hj
   go_wp2_with (first
    | (refine wpList_load_mid rfl 69 (.tmp 2) rfl s 0 rfl (aM (.slice A2 n c2) cs2 hs) _ oK underlying69 rfl dM ?_)
    | (refine wpList_store_mid rfl 69 (.tmp 4) (.tmp 59) rfl (s+1) 0 (aM (.slice A2 n c2) cs2 hs).toArray rfl rfl (dP b5 0 15 (by simp)) dM (Go.all_oneCell_toArray (jK rfl _ _)) ?_))
   have k7:=ag.puts (g:=s+1) (t:=69) (w:=w5) (cs:=#[]) (aM (.slice A2 n c2) cs2 hs) 0 w5 _ b5;rw [eB (by rfl)] at k7;have rq:=af.puts (T:=fun k=>k=s∨k=s+1) (.inr rfl) (aM (.slice A2 n c2) cs2 hs) 0 w2 w5 ((QW).mono (fun _ _ h=>.inl h));generalize (w5).setCells (s+1) 0 (aM (.slice A2 n c2) cs2 hs)=w7 at *;have LG:=run_loadVar_mid (P:=prog) w7 (s+1) 0 69 (aM (.slice A2 n c2) cs2 hs) _ (fun j v hj=>by rw [Nat.zero_add,k7.cell];simpa using hj) underlying69 rfl dM;have BV:Below w.heap.size w2 w7:=rq.below (by have:=B2.size;omega) (fun k hk e=>by have:=hsz'.out;omega);rw [←hsz'.out] at B2;refine bodyPost_ret (v:=.tuple #[gK (.slice A2 n c2) cs2 hs,.bool false,.int .i64 0]) ?_ rfl ?_
   ·exact fC results205 rfl LG
   refine Dl.out _ _ ⟨A2,c2,by rw [hn'.out],(v1.Gb rq (fun b o e=>by have:=v4 b o e;omega)).more rq.size,by rw [hn'.out];exact v2,v3,fun b o e=>by have:=v4 b o e;have:=B2.size;have:=hsz'.out;omega,⟨v5.1,fun g o e h=>(v5.2 g o e h).imp fun cr hcr=>rq.blk hcr (by have:=v4 g o e;show ¬(g=s∨g=s+1);omega)⟩,B2.trans BV⟩
theorem uD (b:Nat) (V:Vm) (w:World) (hV:aD w b V):Calls prog 75 #[.pointer (some ⟨b,0,none⟩)] w fun e w'=>e= .returned (.bool true)∧w'=w:=by
 obtain ⟨cs,A,n,cap,hk,hc,_⟩:=hV.ex;have c0:=(hk.cell 0).trans hc.made;go_enter func75,ntmps75;go_wp2_with fail;go_ret;exact ⟨rfl,rfl⟩
theorem X0 (b a n:Nat) (pr:Pg→Bool) (g:Nat) (lb:Array Value) (V:Vm) (w:World) (hn:a+n≤1024) (eg:∀args w,(callFunc g args).run prog w= .ok (.enter g args) w)
  (hp:∀p,p<1024→∀W,Below w.heap.size w W→Calls prog g (#[.pointer (some ⟨b,1+p*66,none⟩)]++lb) W fun e W'=>e= .returned (.bool (pr (V.pg p)))∧Below W.heap.size W W') :
  Calls prog 102 #[.pointer (some ⟨b,0,none⟩),.int .i64 a,.int .i64 n,.func (.func g) #[] lb] w fun e w'=>e= .returned (.bool (qN V a n pr))∧Below w.heap.size w w':=by
 obtain ⟨R,hR⟩:=aj (qN V a n pr);rw [hR];have hR':=ae hR;have hp':=ae hp;clear hp hR;go_enter func102,ntmps102;go_wp2_with fail
 go_loopw [11] (fun u wr=>∃i:Nat,i≤n∧u= .int .i64 i∧Hid (∀j,j<i→pr (V.pg (a+j))=true)∧Below w.heap.size w wr) (fun u _=>n - (intOf u).toNat)
 case atStart=>exact ⟨0,by omega,rfl,ae (fun _ h=>by omega),Below.refl _ _⟩
 case round =>
  obtain ⟨i,hi,rfl,hA,hB⟩:=hrel;by_cases hlt:i<n
  ·have hlt':decide ((i:Int)<(n:Int))=true:=by simpa using hlt
   obtain ⟨p,X5⟩:=aj (a+i);have hw:IntKind.i64.wrap ((a:Int)+(i:Int))=(p:Int):=by rw [IntKind.wrap_i64];omega
   have hpl:(p:Int)<1024:=by omega
   have HP:=ae (hp'.out p (by omega) wr hB);have X6:=ae X5;clear X5;cases hv:pr (V.pg p) with
   | true =>
    rw [hv] at HP;have hA2:Hid (∀j,j<i+1→pr (V.pg (a+j))=true):=ae (fun j hj=>by
     by_cases e:j=i
     ·rw [e,X6.out];exact hv
     ·exact hA.out j (by omega))
    clear hv hA;go_wp2_with fail;refine HP.out.mono ?_;rintro e w1 ⟨rfl,hb1⟩;go_wp2_with fail;go_roundw
    case rel=>exact ⟨i+1,by omega,by go_num,hA2,hB.trans (hb1.mono hB.size)⟩
    case measure=>simp [intOf];omega
   | false =>
    rw [hv] at HP;have hE:Hid (R=false):=ae (by
     cases hx:R with
     | false=>rfl
     | true =>
      rw [hx] at hR';have:=jb.1 hR'.out p (by have:=X6.out;omega) (by have:=X6.out;omega);rw [hv] at this;cases this)
    clear hv hA;go_wp2_with fail;refine HP.out.mono ?_;rintro e w1 ⟨rfl,hb1⟩;go_wp2_with fail;go_ret;exact ⟨dF hE.out.symm,hB.trans (hb1.mono hB.size)⟩
  ·obtain rfl:i=n:=by omega
   have hlt':decide ((i:Int)<(i:Int))=false:=by simp
   have hE:Hid (R=true):=ae (by
    rw [←hR'.out,jb];intro q h1 h2;have:=hA.out (q - a) (by omega)
    rwa [show a+(q - a)=q by omega] at this)
   clear hA;go_wp2_with fail;go_ret;exact ⟨dF hE.out.symm,hB⟩
theorem VE (b a n:Nat) (fd:Pg→Pg) (g:Nat) (lb:Array Value) (V:Vm) (w:World) (hV:aD w b V) (hn:a+n≤1024) (eg:∀args w,(callFunc g args).run prog w= .ok (.enter g args) w)
  (hp:∀p,p<1024→∀V' W,aD W b V'→af (fun k=>k=b) w W→Calls prog g (#[.pointer (some ⟨b,1+p*66,none⟩)]++lb) W fun e W'=>e= .returned (.tuple #[])∧aD W' b (V'.iY p (fd (V'.pg p)))∧af (fun k=>k=b) W W') :
  Calls prog 104 #[.pointer (some ⟨b,0,none⟩),.int .i64 a,.int .i64 n,.func (.func g) #[] lb] w fun e w'=>e= .returned (.tuple #[])∧aD w' b (V.gH a n fd)∧af (fun k=>k=b) w w':=by
 have hp':=ae hp;have hV0:Hid (aD w b (V.gH a 0 fd)):=ae (by rw [Vm.Eb];exact hV);clear hp hV;go_enter func104,ntmps104;go_wp2_with fail
 go_loopw [10] (fun u wr=>∃i:Nat,i≤n∧u= .int .i64 i∧Hid (aD wr b (V.gH a i fd))∧af (fun k=>k=b) w wr) (fun u _=>n - (intOf u).toNat)
 case atStart=>exact ⟨0,by omega,rfl,hV0,af.refl _ _⟩
 case round =>
  clear hV0;obtain ⟨i,hi,rfl,hS,hF⟩:=hrel;by_cases hlt:i<n
  ·have hlt':decide ((i:Int)<(n:Int))=true:=by simpa using hlt
   have HP0:=hp'.out (a+i) (by omega) _ wr hS.out hF;rw [←Vm.Ec] at HP0;obtain ⟨p,X5⟩:=aj (a+i);rw [X5] at HP0;have HP:=ae HP0;have hw:IntKind.i64.wrap ((a:Int)+(i:Int))=(p:Int):=by rw [IntKind.wrap_i64];omega
   have hpl:(p:Int)<1024:=by omega
   clear X5 HP0 hS;go_wp2_with fail;refine HP.out.mono ?_;rintro e w1 ⟨rfl,hS1,hF1⟩;go_wp2_with fail;go_roundw
   case rel=>exact ⟨i+1,by omega,by go_num,ae hS1,hF.trans hF1⟩
   case measure=>simp [intOf];omega
  ·obtain rfl:i=n:=by omega
   have hlt':decide ((i:Int)<(i:Int))=false:=by simp
   go_wp2_with fail
   go_end0
   exact ⟨rfl,hS.out,hF⟩
theorem NN:∀args w,(callFunc 182 args).run prog w= .ok (.enter 182 args) w:=enters_of func182 (by kernel_rfl) rfl
theorem QX:∀args w,(callFunc 183 args).run prog w= .ok (.enter 183 args) w:=enters_of func183 (by kernel_rfl) rfl
theorem Uj:(prog.info? 215).map (·.size)=some 3:=by kernel_rfl
theorem lW (call fr tk:Int) (w:World):Calls prog 127 #[.int .i64 call,.int .i64 fr,.int .i64 tk] w fun e w' =>
  e= .returned (.agg #[.int .i64 call,.func (.func 182) #[] #[.pointer (some ⟨w.heap.size,0,none⟩)],.func (.func 183) #[] #[.pointer (some ⟨w.heap.size+1,0,none⟩)]]) ∧
   ag w' w.heap.size 3 #[.int .i64 fr]∧ag w' (w.heap.size+1) 3 #[.int .i64 tk]∧Below w.heap.size w w':=by
 obtain ⟨s,hs⟩:=aj (w.heap.size);have k0:=((ag.new w 3 #[.int .i64 fr]).alloc (.cells #[.int .i64 tk] 3)).alloc (.cells #[.int .i64 0,Value.nilFunc,Value.nilFunc] 215);have k1:=(ag.new (w.alloc (.cells #[.int .i64 fr] 3)) 3 #[.int .i64 tk]).alloc (.cells #[.int .i64 0,Value.nilFunc,Value.nilFunc] 215);have kz:=ag.new ((w.alloc (.cells #[.int .i64 fr] 3)).alloc (.cells #[.int .i64 tk] 3)) 215 #[.int .i64 0,Value.nilFunc,Value.nilFunc];have hb:=((aV w (.cells #[.int .i64 fr] 3)).alloc (by simp) (.cells #[.int .i64 tk] 3)).alloc (by simp;omega) (.cells #[.int .i64 0,Value.nilFunc,Value.nilFunc] 215);simp only [World.size_alloc] at k1 kz;rw [hs] at k0 k1 kz;rw [hs] at hb;have hs':=ae hs;go_enter func127,ntmps127;go_upto_region 1 with fail
 generalize ((w.alloc (.cells #[.int .i64 fr] 3)).alloc (.cells #[.int .i64 tk] 3)).alloc (.cells #[.int .i64 0,Value.nilFunc,Value.nilFunc] 215)=w3 at *;clear hs
 go_wp2_with (refine wpList_store_mid rfl 215 (.tmp 6) (.tmp 10) rfl (s+1+1) 0 #[.int .i64 call,.func (.func 182) #[] #[.pointer (some ⟨s,0,none⟩)],.func (.func 183) #[] #[.pointer (some ⟨s+1,0,none⟩)]] rfl rfl (dP kz 0 3 (by simp)) Uj (Go.all_oneCell_toArray (aaW rfl rfl rfl)) ?_)
 have k4:=ag.puts (g:=s+1+1) (t:=215) (w:=w3) (cs:=#[]) [.int .i64 call,.func (.func 182) #[] #[.pointer (some ⟨s,0,none⟩)],.func (.func 183) #[] #[.pointer (some ⟨s+1,0,none⟩)]] 0 w3 _ kz;rw [eB (by rfl)] at k4;have iI:=af.puts (T:=fun k=>k=s+1+1) rfl [.int .i64 call,.func (.func 182) #[] #[.pointer (some ⟨s,0,none⟩)],.func (.func 183) #[] #[.pointer (some ⟨s+1,0,none⟩)]] 0 w3 w3 (af.refl _ _);generalize w3.setCells (s+1+1) 0 [.int .i64 call,.func (.func 182) #[] #[.pointer (some ⟨s,0,none⟩)],.func (.func 183) #[] #[.pointer (some ⟨s+1,0,none⟩)]]=w4 at *;have hl4:=run_loadVar_mid (P:=prog) w4 (s+1+1) 0 215 [.int .i64 call,.func (.func 182) #[] #[.pointer (some ⟨s,0,none⟩)],.func (.func 183) #[] #[.pointer (some ⟨s+1,0,none⟩)]] _ (fun j v hj=>by rw [Nat.zero_add,k4.cell];simpa using hj) underlying215 rfl Uj;refine bodyPost_ret (v:=.agg #[.int .i64 call,.func (.func 182) #[] #[.pointer (some ⟨s,0,none⟩)],.func (.func 183) #[] #[.pointer (some ⟨s+1,0,none⟩)]]) ?_ rfl ?_
 ·exact EJ results127 rfl hl4
 rw [hs'.out];exact ⟨rfl,iI.blk k0 (by omega),iI.blk k1 (by omega),hb.trans (iI.below (by have:=kz.lt;omega) (fun k hk e=>by omega))⟩
theorem X7 (fr:Int) (b p B:Nat) (V:Vm) (W:World) (hV:aD W b V) (hp:p<1024) (hB:ag W B 3 #[.int .i64 fr]) :
  Calls prog 182 #[.pointer (some ⟨b,1+p*66,none⟩),.pointer (some ⟨B,0,none⟩)] W fun e W'=>e= .returned (.bool ((V.pg p).kind==fr&&!(V.pg p).dz))∧Below W.heap.size W W':=by
 obtain ⟨cs,A,n,cap,hk,hc,_⟩:=hV.ex;have c0:=(hk.cell (1+p*66)).trans (hc.kind hp);have c1:=(hk.cell (1+p*66+1)).trans (hc.BZ hp);generalize (V.pg p).kind=kd at *;generalize (V.pg p).dz=hg at *;have z0:=fun z:Ext W=>z.cell c0
 have z1:=fun z:Ext W=>z.cell c1
 have z2:=fun z:Ext W=>(z.blk hB).cell
 clear c0 c1 hk hc hV hB;go_enter func182,ntmps182;go_upto_region 1 with fail
 by_cases h:kd=fr
 ·have d1:(kd==fr)=true:=by simpa using h
  clear h;cases hg with
  | true =>
   refine aF (by kernel_rfl) (by kernel_rfl) ?_
   repeat (go_big_quiet_step (fail))
   refine wpQuiet_nil ?_;rintro w1 ⟨⟨_,hw1⟩,rfl⟩;go_wp2_with fail;go_ret;exact ⟨dF (by rw [d1];rfl),hw1⟩
  | false =>
   refine aF (by kernel_rfl) (by kernel_rfl) ?_
   repeat (go_big_quiet_step (fail))
   refine wpQuiet_nil ?_;rintro w1 ⟨⟨_,hw1⟩,rfl⟩;go_wp2_with fail;go_ret;exact ⟨dF (by rw [d1];rfl),hw1⟩
 ·have d1:(kd==fr)=false:=by simpa using h
  clear h;refine aF (by kernel_rfl) (by kernel_rfl) ?_
  repeat (go_big_quiet_step (fail))
  refine wpQuiet_nil ?_;rintro w1 ⟨⟨_,hw1⟩,rfl⟩;go_wp2_with fail;go_ret;exact ⟨dF (by rw [d1];rfl),hw1⟩
theorem aaX:(prog.info? 65).map (·.size)=some 66:=by kernel_rfl
theorem LH (tk:Int):zeroCells65.setIfInBounds 0 (.int .i64 tk)=(uS (iB tk)).toArray:=by
 have h:zeroCells65=(uS (iB 0)).toArray:=by kernel_rfl
 rw [h];rfl
theorem aaY (tk:Int) (b p B:Nat) (V:Vm) (W:World) (hV:aD W b V) (hp:p<1024) (hB:ag W B 3 #[.int .i64 tk]) :
  Calls prog 183 #[.pointer (some ⟨b,1+p*66,none⟩),.pointer (some ⟨B,0,none⟩)] W fun e W'=>e= .returned (.tuple #[])∧aD W' b (V.iY p (iB tk))∧af (fun k=>k=b) W W':=by
 have hput:=hV.iY hp (iB tk);obtain ⟨cs,A,n,cap,hk,hc,_⟩:=hV.ex;have hsz:=hc.size;have ht:=dP hk (1+p*66) 66 (by omega);have cB:=hB.cell;have hz:=LH tk;clear hk hc hV;go_enter func183,ntmps183
 go_wp2_with (refine wpList_store_mid rfl 65 (.tmp 6) (.tmp 5) rfl b (1+p*66) (uS (iB tk)).toArray rfl rfl ht aaX (Go.all_oneCell_toArray (XZ _)) ?_)
 go_end0
 exact ⟨rfl,hput.1,hput.2⟩
theorem EK (b k:Nat) (V:Vm) (w:World) (hV:aD w b V) (hk:k<7) :
  Calls prog 181 #[.pointer (some ⟨b,0,none⟩),.int .i64 k] w fun e w'=>e= .returned (.bool (qO V.rf k))∧aD w' b (V.ref k)∧af (fun k=>k=b) w w':=by
 have hV':=ae hV;obtain ⟨cs,A,n,cap,hk0,hc,hn,hr,hz,hA,hok,_⟩:=hV.ex;have HN:=ae (QV A n cap V.rf k w hok hk hn hz hr);have oK:w.rangeAt b 67585 (aM (.slice A n cap) V.rf.calls V.rf.hits):=fun j v hj=>by
  have Gh:j<15:=(List.getElem?_eq_some_iff.1 hj).1;rw [hk0.cell,hc.rf j Gh];exact hj
 have hok':=ae hok;have hrl:=ae (show qO V.rf k=if V.rf.calls k=1000000 then false else qC V.rf k from rfl);have hrs:=ae (show V.ref k={ V with rf:=if V.rf.calls k=1000000 then V.rf else fe V.rf k } from rfl);generalize qO V.rf k=R at *;generalize V.ref k=V2 at *;clear hc hr hz hA hn hok hV;go_enter func181,ntmps181
 go_wp2_with (first
  | (refine wpList_load_mid rfl 69 (.tmp 11) rfl b 67585 rfl (aM (.slice A n cap) V.rf.calls V.rf.hits) _ oK underlying69 rfl dM ?_))
 clear oK;refine HN.out.mono ?_;rintro e w1 hN;rcases hN with ⟨hc,rfl,hb1⟩|⟨hc,v,rfl,hv⟩
 ·rw [if_pos hc] at hrl hrs
  have hV1:=hV'.out.call hb1;have hE:=ae (And.intro hrl.out hrs.out);clear hrl hrs hc HN hk0 hok';unfold gK aM;go_wp2_with fail;go_ret;obtain ⟨e1,e2⟩:=hE.out;rw [e1,e2];have hbz:=aV w1 (.cells (aM (.slice none 0 0) (fun _=>0) (fun _=>0)).toArray 69);unfold aM at hbz;exact ⟨rfl,hV1.call hbz,.of_below (hb1.trans (hbz.mono hb1.size))⟩
 ·rw [if_neg hc] at hrl hrs
  obtain ⟨A2,c2,rfl,v1,v2,v3,v4,v5,hb1⟩:=hv;have hS2:uC (fe V.rf k):=Kq hok'.out hk hc;have hbz:=aV w1 (.cells (aM (.slice A2 V.rf.rules.length c2) (fe V.rf k).calls (fe V.rf k).hits).toArray 69);have hb2:=hb1.trans (hbz.mono hb1.size);have hput:=hV'.out.AX (fe V.rf k) A2 V.rf.rules.length c2 hb2 rfl (v1.fw hbz) v5.1 v4 hS2 (fun g o e h=>(v5.2 g o e h).imp fun cr hc=>hc.call hbz);have hV2:=hV'.out.call hb2;have hE:=ae (And.intro hrl.out hrs.out);have hsz:=hV2.lt;obtain ⟨cs9,A9,n9,c9,k9,h9,h10⟩:=hV2.ex;have X9:=h9.size;have kz:=ag.new w1 69 (aM (.slice A2 V.rf.rules.length c2) (fe V.rf k).calls (fe V.rf k).hits).toArray;clear h10;clear hrl hrs hc HN hk0 hok' hS2 hb2 hb1 v1 hV2 h9;generalize V.rf.rules.length=n2 at *;generalize (fe V.rf k).calls=cs2 at *;generalize (fe V.rf k).hits=hs2 at *;have j6:=ae hput;clear hput;rw [←hE.out.1];rw [←hE.out.2] at j6;clear hE hV';unfold aM at hbz k9 j6 kz;unfold gK aM;obtain ⟨s,hs⟩:=aj (w1.heap.size);rw [hs] at kz;go_upto_region 3 with fail
  generalize w1.alloc _=w2 at *;clear hs hbz;have cz:=kz.cell;have ht:w2.there b 67585 (aM (.slice A2 n2 c2) cs2 hs2).toArray.size:=dP k9 67585 15 (by omega);have hone:=Go.all_oneCell_toArray (jK (v:=.slice A2 n2 c2) rfl cs2 hs2);clear X9 k9 kz;have uT:Hid (aD (w2.setCells b 67585 (aM (.slice A2 n2 c2) cs2 hs2)) b V2∧af (fun k=>k=b) w (w2.setCells b 67585 (aM (.slice A2 n2 c2) cs2 hs2))):=j6;clear j6;cases R with
  | true =>
   go_wp2_with (refine wpList_store_mid rfl 69 (.tmp 23) (.tmp 21) rfl b 67585 (aM (.slice A2 n2 c2) cs2 hs2).toArray ?hxx ?hyy ht dM hone ?_)
   case hxx=>rfl
   case hyy=>rfl
   generalize w2.setCells b 67585 _=w4 at *;go_ret;exact ⟨rfl,uT.out.1,uT.out.2⟩
  | false =>
   go_wp2_with (refine wpList_store_mid rfl 69 (.tmp 23) (.tmp 21) rfl b 67585 (aM (.slice A2 n2 c2) cs2 hs2).toArray ?hxy ?hyz ht dM hone ?_)
   case hxy=>rfl
   case hyz=>rfl
   generalize w2.setCells b 67585 _=w4 at *;go_ret;exact ⟨rfl,uT.out.1,uT.out.2⟩
end Go.Proofs.YtjmmgoijnhnnaaaGreat
