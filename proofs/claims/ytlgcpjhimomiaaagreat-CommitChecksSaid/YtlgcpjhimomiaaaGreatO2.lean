/- Texts LibT, ZSpecA, ZWalkA, AWalkA, GWalkA, GWalkB, AWalkB, GWalkC, GWalkD. -/
import Derived.OrdersHeld
import Derived.Test.YtlgcpjhimomiaaaGreatChecked
import Derived.Laws.StructEq
import Derived.Sort.CutIn
import Derived.Shelf.Abstract
import Derived.Test.YtlgcpjhimomiaaaGreatO1
set_option maxRecDepth 100000
set_option maxHeartbeats 12800000
namespace Go.Pol
open Go Go.RowKit Go.Proofs.Tryz
section
variable {P:Program} {ops:Array Oper} {Q:Exit->Act->World->Prop} {md:Region.Mode} {S:World->Prop} {tl:List Nat}
def eQ (P:Program) (md:Region.Mode) (ops:Array Oper) (Q:Exit->Act->World->Prop) (S:World->Prop) (tl:List Nat):Nat->Array Bool->Act->World->Prop
 | 0,listed,a,w=>Region.ready md ops listed=[]/\Q .normal a w
 | fuel+1,listed,a,w =>
  (Region.ready md ops listed=[]->Q .normal a w) /\
  ∀i∈Region.ready md ops listed,wpOp P ops Q i (λa' w'=>(tl.contains i=false->S w')/\eQ P md ops Q S tl fuel (listed.setIfInBounds i true) a' w') a w
theorem yZ:∀(fuel:Nat) (listed:Array Bool) (a:Act) (w:World),eQ P md ops Q S tl fuel listed a w->wpAny P md ops Q fuel listed a w
 | 0,_,_,_,h=>h
 | fuel+1,_,_,_,h=>⟨h.1,λi hi=>wpOp_mono (λa' w' h'=>yZ fuel _ a' w' h'.2) (h.2 i hi)⟩
def abG (md:Region.Mode) (ops:Array Oper) (i n:Nat) (l:List Nat):Bool :=
 match ops[n]? with
 | some o=>o.after.any (λe=>Region.binds md e&&(e.on==i||l.contains e.on))
 | none=>false
def nI (md:Region.Mode) (ops:Array Oper) (i:Nat):Nat->List Nat
 | 0=>[]
 | n+1=>if abG md ops i n (nI md ops i n)=true then n::nI md ops i n else nI md ops i n
def Closed (md:Region.Mode) (ops:Array Oper) (listed:Array Bool):Prop :=
 ∀j oj,ops[j]? = some oj->listed.getD j false=true->∀e∈oj.after,Region.binds md e=true->listed.getD e.on false=true
def y9 (md:Region.Mode) (ops:Array Oper) (listed:Array Bool):Bool :=
 (List.range ops.size).all λj=>!listed.getD j false||(match ops[j]? with|some oj=>oj.after.all (λe=>!Region.binds md e||listed.getD e.on false)|none=>true)
theorem IJ {listed:Array Bool} (h:y9 md ops listed=true):Closed md ops listed:=by
 intro j oj hj hl e he hb;have hjs:=(Array.getElem?_eq_some_iff.1 hj).1;have h1:=List.all_eq_true.1 h j (List.mem_range.2 hjs);simp only [hl,Bool.not_true,Bool.false_or,hj] at h1;have h2:=Array.all_eq_true'.1 h1 e he;simpa [hb] using h2
theorem Closed.set {listed:Array Bool} {i:Nat} (h:Closed md ops listed) (hi:i∈Region.ready md ops listed):Closed md ops (listed.setIfInBounds i true):=by
 obtain ⟨_,oi,hoi,hall⟩:=mem_ready.1 hi;intro j oj hj hl e he hb;by_cases hij:i=j
 ·subst hij
  have:oj=oi:=Option.some.inj (hj.symm.trans hoi);subst this;exact getD_set_true (hall e he hb)
 ·rw [getD_set_ne false hij] at hl
  exact getD_set_true (h j oj hj hl e he hb)
theorem tK {listed:Array Bool} {i:Nat} (hc:Closed md ops listed) (hun:listed.getD i false=false):∀n,∀t∈nI md ops i n,listed.getD t false=false/\t∉Region.ready md ops listed
 | 0,t,ht=>by simp [nI] at ht
 | n+1,t,ht=>by
  unfold nI at ht;split at ht
  ·rename_i hw
   rcases List.mem_cons.1 ht with e|e
   ·subst e
    unfold abG at hw;split at hw
    ·rename_i o ho
     obtain ⟨e,he,hb⟩:=Array.any_eq_true'.1 hw;simp only [Bool.and_eq_true,Bool.or_eq_true,beq_iff_eq] at hb;have hno:listed.getD e.on false=false:=by
      rcases hb.2 with h|h
      ·rw [h];exact hun
      ·exact (tK hc hun t e.on (by simpa using h)).1
     refine ⟨?_,λhr=>?_⟩
     ·cases hl:listed.getD t false with
      | false=>rfl
      | true=>have:=hc t o ho hl e he hb.1;rw [hno] at this;cases this
     ·obtain ⟨_,o',ho',hall⟩:=mem_ready.1 hr
      have:o'=o:=Option.some.inj (ho'.symm.trans ho);subst this;have:=hall e he hb.1;rw [hno] at this;cases this
    ·cases hw
   ·exact tK hc hun n t e
  ·exact tK hc hun n t ht
theorem aid {P:Prop} (h:P:=by
 refine ⟨λh=>(by rw [h] at hr;cases hr),λj hj=>?_⟩;by_cases hji:j=i
 ·subst hji;exact hy.wpOp hi hS ⟨λ_=>hS,H⟩
 ·have:=ready_mono hj hji
  rw [H.1] at this;cases this):P:=h
theorem UL {P:Prop} (h:P:=by
 refine hfree k ok hk hki ?_ hno;by_cases hjk:j=k
 ·subst hjk;exact hjun
 ·rw [getD_set_ne true hjk] at hun;exact hun):P:=h
theorem UM {P:Prop} (h:P:=by
 rw [Array.setIfInBounds_comm _ _ hji];exact h3.2.2):P:=h
theorem UN {P:Prop} (h:P:=by
 have h1:=hall e he hb;rw [heq,hun] at h1;cases h1):P:=h
theorem LQ {i:Nat} {oi:Oper} {v:Value} (hi:ops[i]? = some oi) (hsel:∀(j:Nat) (o:Oper) cs b,ops[j]? = some o->o.op≠.select cs b)
  (hQ:∀c a w,Q (.panic c) (a.put oi.dst v) w->Q (.panic c) a w) (htl:∀t∈tl,t∈nI md ops i ops.size) :
  ∀(fuel:Nat) (listed:Array Bool) (a:Act) (w:World),Closed md ops listed ->
   (∀j oj,ops[j]? = some oj->j≠i->listed.getD j true=false->(∀e∈oj.after,Region.binds md e=true->e.on≠i)->oi.apart ops oj=true) ->
   i∈Region.ready md ops listed->YieldsIf P ops S oi v a->S w ->
   eQ P md ops Q S tl fuel (listed.setIfInBounds i true) (a.put oi.dst v) w->eQ P md ops Q S tl (fuel+1) listed a w:=by
 intro fuel;induction fuel with
 | zero =>
  intro listed a w hcl _ hr hy hS H;exact aid
 | succ fuel ih =>
  intro listed a w hcl hfree hr hy hS H;refine ⟨λh=>(by rw [h] at hr;cases hr),λj hj=>?_⟩;by_cases hji:j=i
  ·subst hji;exact hy.wpOp hi hS ⟨λ_=>hS,H⟩
  ·have h1:=H.2 j (ready_mono hj hji)
   obtain ⟨hjun,oj,hoj,hall⟩:=mem_ready.1 hj;have hun:listed.getD i false=false:=getD_both (mem_ready.1 hr).1;have abH:tl.contains j=false:=by
    cases h:tl.contains j with
    | false=>rfl
    | true=>exact absurd hj (tK hcl hun _ j (htl j (by simpa using h))).2
   have hnot:∀e∈oj.after,Region.binds md e=true->e.on≠i:=λe he hb heq=>by
    exact UN
   have h2:=wpOp_putIf hoj (hfree j oj hoj hji hjun hnot) (λcs b=>hsel i oi cs b hi) (λcs b=>hsel j oj cs b hoj) hQ hy h1;have hfree':∀k ok,ops[k]? = some ok->k≠i->(listed.setIfInBounds j true).getD k true=false ->
     (∀e∈ok.after,Region.binds md e=true->e.on≠i)->oi.apart ops ok=true:=λk ok hk hki hun hno=>by
    exact UL
   refine wpOp_mono (λa' w' h3=>⟨h3.2.1,ih (listed.setIfInBounds j true) a' w' (hcl.set hj) hfree' (ready_mono hr (Ne.symm hji)) h3.1 (h3.2.1 abH) ?_⟩) h2;exact UM
theorem xB {i:Nat} {oi:Oper} {v:Value} {fuel:Nat} {listed:Array Bool} {a:Act} {w:World} (hi:ops[i]? = some oi)
  (hB:(Region.noSelect ops&&Region.free md ops listed i&&(Region.ready md ops listed).contains i&&y9 md ops listed&&tl.all (λt=>(nI md ops i ops.size).contains t))=true)
  (hQ:∀c a w,Q (.panic c) (a.put oi.dst v) w->Q (.panic c) a w) (hy:YieldsIf P ops S oi v a) (hS:S w)
  (h:eQ P md ops Q S tl fuel (listed.setIfInBounds i true) (a.put oi.dst v) w):eQ P md ops Q S tl (fuel+1) listed a w:=by
 simp only [Bool.and_eq_true] at hB;obtain ⟨⟨⟨⟨h1,h2⟩,h3⟩,h4⟩,h5⟩:=hB;exact LQ hi (Region.noSelect_spec h1) hQ (λt ht=>by simpa using List.all_eq_true.1 h5 t ht) fuel listed a w (IJ h4) (Region.free_spec hi h2) (by simpa using h3) hy hS h
theorem aW (i:Nat) {oi:Oper} {v:Value} {fuel:Nat} {listed:Array Bool} {a b:Act} {w:World} (hS:S w) (h:eQ P md ops Q S tl fuel (listed.setIfInBounds i true) b w) (hi:ops[i]? = some oi:=by (simp only [List.getElem?_toArray,List.getElem?_cons_succ,List.getElem?_cons_zero];rfl)) (hB:(Region.noSelect ops&&Region.free md ops listed i&&(Region.ready md ops listed).contains i&&y9 md ops listed&&tl.all (λt=>(nI md ops i ops.size).contains t))=true:=by kernel_rfl) (hQ:∀c a w,Q (.panic c) (a.put oi.dst v) w->Q (.panic c) a w:=by exact λ_ _ _ h=>h) (hy:YieldsIf P ops S oi v a:=by (refine Or.inl ⟨rfl,?_⟩;intro wS hSw;obtain ⟨_,_⟩:=hSw;go_simp;(try with_reducible rfl))) (hb:a.put oi.dst v=b:=by (try simp only [Act.put,iE,iF,iG]);exact rfl):eQ P md ops Q S tl (fuel+1) listed a w:=xB hi hB hQ hy hS (hb ▸ h)
def lY (P:Program) (md:Region.Mode) (ops:Array Oper) (Q:Exit->Act->World->Prop) (S:World->Prop) (tl:List Nat) (fuel:Nat) (listed:Array Bool) (a:Act) (w:World) (rs:List Nat):Prop :=
 ∀i∈rs,wpOp P ops Q i (λa' w'=>(tl.contains i=false->S w')/\eQ P md ops Q S tl fuel (listed.setIfInBounds i true) a' w') a w
theorem lY.nil {fuel:Nat} {listed:Array Bool} {a:Act} {w:World}:lY P md ops Q S tl fuel listed a w []:=λ_ h=>by cases h
theorem lY.cons {fuel:Nat} {listed:Array Bool} {a:Act} {w:World} {i:Nat} {o:Oper} {rs:List Nat} (ho:ops[i]? = some o)
  (h:∀K':Act->World->Prop,Hid (∀a w,(tl.contains i=false->S w)->((tl.contains i=false->S w)->eQ P md ops Q S tl fuel (listed.setIfInBounds i true) a w)->K' a w)->if Region.wanted o (yielded ops a.tmps)=true then Oper.wp P o a w K' Q else K' (a.put o.dst undef) w)
  (hs:lY P md ops Q S tl fuel listed a w rs):lY P md ops Q S tl fuel listed a w (i::rs):=λj hj=>by
 rcases List.mem_cons.1 hj with rfl|hj
 ·exact wpOp_step ho (λK' hK=>h K' (λa w hS hW=>hK a w ⟨hS,hW hS⟩))
 ·exact hs j hj
theorem LU {rs:List Nat} {fuel:Nat} {listed:Array Bool} {a:Act} {w:World} (hr:Region.ready md ops listed=rs) (hne:rs≠[])
  (h:lY P md ops Q S tl fuel listed a w rs):eQ P md ops Q S tl (fuel+1) listed a w :=
 ⟨λh0=>absurd (hr ▸ h0) hne,hr ▸ h⟩
theorem gD (i:Nat) {o:Oper} {fuel:Nat} {listed:Array Bool} {a:Act} {w:World} (h:∀K':Act->World->Prop,Hid (∀a w,(tl.contains i=false->S w)->((tl.contains i=false->S w)->eQ P md ops Q S tl fuel (listed.setIfInBounds i true) a w)->K' a w)->if Region.wanted o (yielded ops a.tmps)=true then Oper.wp P o a w K' Q else K' (a.put o.dst undef) w) (hi:ops[i]? = some o:=by (simp only [List.getElem?_toArray,List.getElem?_cons_succ,List.getElem?_cons_zero];rfl)) (hr:Region.ready md ops listed=[i]:=by kernel_rfl):eQ P md ops Q S tl (fuel+1) listed a w:=LU hr zs (lY.cons hi h lY.nil)
theorem bE {listed:Array Bool} {a:Act} {w:World} (hr:Region.ready md ops listed=[]) (h:Q .normal a w):∀fuel,eQ P md ops Q S tl fuel listed a w
 | 0=>⟨hr,h⟩
 | _+1=>⟨λ_=>h,by rw [hr];simp⟩
theorem bM {id:Nat} {a:Act} {w:World} (S:World->Prop) (tl:List Nat) (hm:P.follows .mixedOrders=true) (h:eQ P .any ops Q S tl ops.size (Array.replicate ops.size false) a w.drew):(Code.region id ops true).wp P Q a w :=
 wp_region_any hm (yZ _ _ _ _ h)
end
abbrev Ru:=Int×Int×Int×Int
def qa:Ru:=(0,0,0,0)
def iU (x:Ru):List Value:=[zI x.1,zI x.2.1,zI x.2.2.1,zI x.2.2.2]
theorem jY (x:Ru):(iU x).length=4:=rfl
abbrev QM (x:Ru):Value:=.agg #[zI x.1,zI x.2.1,zI x.2.2.1,zI x.2.2.2]
theorem QN (us:List Ru):∀u∈fl iU us,u.oneCell'=true:=by
 intro u hu;simp only [fl,List.mem_flatMap,iU,List.mem_cons,List.not_mem_nil,or_false] at hu;obtain ⟨x,_,rfl|rfl|rfl|rfl⟩:=hu <;> rfl
def fo (x:Ru):Int :=
 if x.1<0\/7<=x.1 then 2 else if x.2.1<1\/10000<x.2.1\/x.2.2.1<0\/12<x.2.2.1\/x.2.2.2<0\/1000<x.2.2.2 then 7 else if x.2.2.1=0/\x.2.2.2≠1 then 6 else 0
def yn:Nat->List Ru->Int×Int
 | _,[]=>(0,0)
 | i,x::r=>if fo x≠0 then ((i:Int),fo x) else yn (i+1) r
def iy (l:List Ru):Int×Int:=if 50<l.length then (0,3) else yn 0 l
theorem IK:∀(l:List Ru) (i:Nat),(yn i l).2=0↔∀x∈l,fo x=0
 | [],i=>by simp [yn]
 | x::r,i=>by
  rw [yn];by_cases h:fo x=0
  ·rw [if_neg (by simp [h]),IK r (i+1)];simp [h]
  ·rw [if_pos h];simp [h]
theorem lZ {l:List Ru}:(iy l).2=0↔l.length<=50/\∀x∈l,fo x=0:=by
 unfold iy;by_cases h:50<l.length
 ·rw [if_pos h];simp;omega
 ·rw [if_neg h,IK];simp;omega
theorem jI {x:Ru}:fo x=0↔(0<=x.1/\x.1<7)/\(1<=x.2.1/\x.2.1<=10000)/\(0<=x.2.2.1/\x.2.2.1<=12)/\(0<=x.2.2.2/\x.2.2.2<=1000)/\(x.2.2.1=0->x.2.2.2=1):=by
 unfold fo;by_cases h1:x.1<0\/7<=x.1
 ·rw [if_pos h1];simp;omega
 ·rw [if_neg h1]
  by_cases h2:x.2.1<1\/10000<x.2.1\/x.2.2.1<0\/12<x.2.2.1\/x.2.2.2<0\/1000<x.2.2.2
  ·rw [if_pos h2];simp;omega
  ·rw [if_neg h2]
   by_cases h3:x.2.2.1=0/\x.2.2.2≠1
   ·rw [if_pos h3];simp;omega
   ·rw [if_neg h3];simp;omega
def qL (x:Ru) (n:Int):Bool:=decide (x.2.1<=n)&&(if x.2.2.1=0 then decide (n=x.2.1) else decide ((n - x.2.1) % x.2.2.1=0)&&(decide (x.2.2.2=0)||decide ((n - x.2.1) / x.2.2.1<x.2.2.2)))
def oP (l:List Ru) (k n:Int):Bool:=l.any λx=>x.1==k&&qL x n
def oh (l:List Ru) (k:Int):Nat->Int
 | 0=>0
 | n+1=>oh l k n+if oP l k ((n:Int)+1)=true then 1 else 0
def ZJ (x:Ru) (n:Int):Int :=
 if n<x.2.1 then x.2.1 else if x.2.2.1=0 then 0 else
 if 0<x.2.2.2/\x.2.2.2<=(n - x.2.1) / x.2.2.1+1 then 0 else x.2.1+((n - x.2.1) / x.2.2.1+1)*x.2.2.1
theorem abI {x:Ru} (h:fo x=0) {n:Int} (hn:1<=n):(ZJ x (n - 1)==n)=qL x n:=by
 obtain ⟨_,h1,h2,h3,h4⟩:=jI.1 h;obtain ⟨k,f,e,t⟩:=x;simp only at h1 h2 h3 h4;unfold ZJ qL;simp only;rw [Bool.eq_iff_iff,beq_iff_eq];by_cases c1:n - 1<f
 ·rw [if_pos c1]
  constructor
  ·rintro rfl
   by_cases c2:e=0
   ·simp [c2]
   ·have:0<t\/t=0:=zo
    rw [if_neg c2];simp;omega
  ·intro h
   by_cases c2:e=0
   ·rw [if_pos c2] at h;simp at h;omega
   ·simp at h;omega
 ·rw [if_neg c1]
  have hfn:f<=n:=zo;by_cases c2:e=0
  ·rw [if_pos c2,if_pos c2];simp;omega
  ·rw [if_neg c2,if_neg c2]
   have he:0<e:=zo;obtain ⟨q,hq⟩:=ah ((n - 1 - f) / e);obtain ⟨r,hr⟩:=ah ((n - 1 - f) % e);have hd:=Int.emod_add_mul_ediv (n - 1 - f) e;have hr0:=Int.emod_nonneg (n - 1 - f) c2;have hr1:=Int.emod_lt_of_pos (n - 1 - f) he;rw [hq,hr] at hd;rw [hr] at hr0 hr1;rw [hq];by_cases c3:r+1=e
   ·have e1:n - f=e*(q+1):=by rw [Int.mul_add];omega
    have e2:(n - f) % e=0:=by rw [e1];exact Int.mul_emod_right e (q+1)
    have e3:(n - f) / e=q+1:=by rw [e1];exact Int.mul_ediv_cancel_left (q+1) c2
    have e4:(q+1)*e=n - f:=by rw [e1,Int.mul_comm]
    rw [e2,e3];by_cases c4:0<t/\t<=q+1
    ·rw [if_pos c4]
     simp;omega
    ·rw [if_neg c4,e4]
     simp;omega
   ·have e1:n - f=(r+1)+e*q:=zo
    have e2:(n - f) % e=r+1:=by
     rw [e1,Int.add_mul_emod_self_left,Int.emod_eq_of_lt zo zo]
    have e4:(q+1)*e=e*q+e:=by rw [Int.add_mul,Int.one_mul,Int.mul_comm]
    rw [e2];constructor
    ·intro h
     by_cases c4:0<t/\t<=q+1
     ·rw [if_pos c4] at h;omega
     ·rw [if_neg c4,e4] at h;omega
    ·intro h
     simp at h;omega
theorem QO {x:Ru} (h:fo x=0) {n:Int} (hr:qL x n=true):1<=n:=by
 obtain ⟨_,h1,_⟩:=jI.1 h;unfold qL at hr;simp at hr;omega
def nJ (x:Ru) (lim:Int):Nat->Nat->List Int
 | 0,_=>[]
 | d+1,i=>if x.2.1+(i:Int)*x.2.2.1<=lim/\(x.2.2.2=0\/(i:Int)<x.2.2.2) then (x.2.1+(i:Int)*x.2.2.1)::nJ x lim d (i+1) else []
def AO (x:Ru) (lim:Int):List Int:=nJ x lim (lim.toNat+2) 0
theorem IL {i j:Nat} {e:Int} (he:0<=e) (h:i<=j):(i:Int)*e<=(j:Int)*e:=Int.mul_le_mul_of_nonneg_right zo he
theorem YI {i:Nat} {e:Int} (he:1<=e):(i:Int)<=(i:Int)*e:=by
 have:=Int.mul_le_mul_of_nonneg_left he (show (0:Int)<=i by omega);rw [Int.mul_one] at this;exact this
theorem FW {x:Ru} (h:fo x=0) (lim:Int):∀(d i:Nat),lim+2<=(d:Int)+i->∀m,m∈nJ x lim d i↔∃j:Nat,i<=j/\m=x.2.1+(j:Int)*x.2.2.1/\m<=lim/\(x.2.2.2=0\/(j:Int)<x.2.2.2)
 | 0,i,hd,m=>by
  obtain ⟨_,h1,h2,h3,h4⟩:=jI.1 h;constructor
  ·intro hm;cases hm
  ·rintro ⟨j,hij,rfl,hl,ht⟩
   by_cases he:x.2.2.1=0
   ·have:=h4 he
    rw [he,Int.mul_zero] at hl;omega
   ·have:=YI (i:=j) (e:=x.2.2.1) zo
    omega
 | d+1,i,hd,m=>by
  obtain ⟨_,h1,h2,h3,h4⟩:=jI.1 h;rw [nJ];by_cases hc:x.2.1+(i:Int)*x.2.2.1<=lim/\(x.2.2.2=0\/(i:Int)<x.2.2.2)
  ·rw [if_pos hc,List.mem_cons,FW h lim d (i+1) zo m]
   constructor
   ·rintro (rfl|⟨j,h5,h6⟩)
    ·exact ⟨i,Nat.le_refl _,rfl,hc.1,hc.2⟩
    ·exact ⟨j,zo,h6⟩
   ·rintro ⟨j,h5,h6,h7⟩
    by_cases e:j=i
    ·subst e;exact .inl h6
    ·exact .inr ⟨j,zo,h6,h7⟩
  ·rw [if_neg hc]
   constructor
   ·intro hm;cases hm
   ·rintro ⟨j,hij,rfl,hl,ht⟩
    refine absurd ⟨?_,?_⟩ hc
    ·have:=IL (e:=x.2.2.1) h2.1 hij;omega
    ·omega
theorem QP {x:Ru} (h:fo x=0) {lim:Int} (hl:0<=lim) (m:Int):m∈AO x lim↔m<=lim/\qL x m=true:=by
 obtain ⟨_,h1,h2,h3,h4⟩:=jI.1 h;unfold AO;rw [FW h lim _ 0 zo m];unfold qL;constructor
 ·rintro ⟨j,_,rfl,hl,ht⟩
  refine ⟨hl,?_⟩;have h5:=IL (e:=x.2.2.1) h2.1 (Nat.zero_le j);have e1:x.2.1+(j:Int)*x.2.2.1 - x.2.1=(j:Int)*x.2.2.1:=zo;rw [e1];by_cases he:x.2.2.1=0
  ·rw [if_pos he,he];simp
  ·rw [if_neg he,Int.mul_emod_left,Int.mul_ediv_cancel _ he]
   simp;omega
 ·rintro ⟨hm,hr⟩
  rw [Bool.and_eq_true,decide_eq_true_eq] at hr;obtain ⟨hr1,hr2⟩:=hr;by_cases he:x.2.2.1=0
  ·rw [if_pos he,decide_eq_true_eq] at hr2
   have:=h4 he;refine ⟨0,Nat.le_refl _,?_,hm,?_⟩
   ·rw [he];omega
   ·omega
  ·rw [if_neg he,Bool.and_eq_true,decide_eq_true_eq,Bool.or_eq_true,decide_eq_true_eq,decide_eq_true_eq] at hr2
   have hq:=Int.ediv_nonneg (a:=m - x.2.1) (b:=x.2.2.1) zo zo;have hd:=Int.emod_add_mul_ediv (m - x.2.1) x.2.2.1;rw [hr2.1,Int.mul_comm] at hd;refine ⟨((m - x.2.1) / x.2.2.1).toNat,Nat.zero_le _,?_,hm,?_⟩
   ·rw [Int.toNat_of_nonneg hq];omega
   ·rw [Int.toNat_of_nonneg hq];exact hr2.2
theorem IM {x:Ru} (h:fo x=0) {lim:Int} {d i:Nat} (hd:lim+2<=(d:Int)+i) (h1:x.2.1+(i:Int)*x.2.2.1<=lim) (h2:x.2.2.2=0\/(i:Int)<x.2.2.2) :
  0<d/\nJ x lim d i=(x.2.1+(i:Int)*x.2.2.1)::nJ x lim (d - 1) (i+1)/\(x.2.1+(i:Int)*x.2.2.1)+x.2.2.1=x.2.1+((i+1:Nat):Int)*x.2.2.1/\(i:Int)<=lim:=by
 obtain ⟨_,k1,k2,k3,k4⟩:=jI.1 h;have hil:(i:Int)<=lim:=by
  by_cases he:x.2.2.1=0
  ·have:=k4 he
   rw [he,Int.mul_zero] at h1;omega
  ·have:=YI (i:=i) (e:=x.2.2.1) zo
   omega
 have hd0:0<d:=zo;refine ⟨hd0,?_,?_,hil⟩
 ·obtain ⟨d',rfl⟩:∃d',d=d'+1:=⟨d - 1,zo⟩
  rw [nJ,if_pos ⟨h1,h2⟩];rfl
 ·rw [show ((i+1:Nat):Int)=(i:Int)+1 by omega,Int.add_mul,Int.one_mul];omega
theorem FX {x:Ru} {lim:Int} {d i:Nat} (h:¬(x.2.1+(i:Int)*x.2.2.1<=lim/\(x.2.2.2=0\/(i:Int)<x.2.2.2))):nJ x lim d i=[]:=by
 cases d with
 | zero=>rfl
 | succ d=>rw [nJ,if_neg h]
theorem ZK (l:List Ru) (x:Ru) (k n:Int):oP (l++[x]) k n=(oP l k n||(x.1==k&&qL x n)):=by simp [oP]
theorem uY (l:List Ru) (k:Int):∀n,0<=oh l k n/\oh l k n<=n
 | 0=>by simp [oh]
 | n+1=>by
  have:=uY l k n;rw [oh];split <;> omega
structure Rf where
 rules:List Ru
 calls:Nat->Int
 hits:Nat->Int
def qM (f:Nat->Int) (k:Nat) (v:Int) (q:Nat):Int:=if q=k then v else f q
def lD (b:Nat) (w:World) (k:Nat):Prop:=b<=k+1/\∃cs,af w k 142 cs
structure bz (w:World) (b:Nat) (L:List Nd):Prop where
 ex:∃(A:Option Addr) (cap:Nat),af w b 145 #[.bool true,.slice A L.length cap]/\w.ownsRow (b - 1) 142 6 (.slice A L.length cap) L.length (fl UJ L)
theorem bz.lt {w:World} {b:Nat} {L:List Nd} (h:bz w b L):b<w.heap.size:=by
 obtain ⟨A,cap,k,_⟩:=h.ex;exact k.lt
theorem bz.far {w w':World} {b:Nat} {L:List Nd} {T:Nat->Prop} (h:bz w b L) (hF:ag T w w') (hb:¬T b) (hN:∀k,lD b w k->¬T k):bz w' b L:=by
 obtain ⟨A,cap,k,r⟩:=h.ex;refine ⟨A,cap,hF.blk k hb,aN r hF (λg hg ht=>?_)⟩;rcases r.2 with ⟨hv,_⟩|⟨g',cap',cur,hv,hbs,hk,_⟩
 ·rw [hv] at hg;cases hg
 ·rw [hv] at hg
  have e':g'=g:=by injection hg
  subst e';exact hN g' ⟨zo,cur,hk⟩ ht
theorem bz.call {w w':World} {b:Nat} {L:List Nd} (h:bz w b L) (hb:Below w.heap.size w w'):bz w' b L :=
 h.far (T:=λ_=>False) (ag.of_below hb) id (λ_ _ h=>h)
instance {w w':World} {b:Nat} {L:List Nd}:ZC w w' (bz w b L) (bz w' b L):=⟨λh k=>k.call h⟩
theorem OC {P:Prop} (h:P:=by
 rw [dM,Nat.zero_add] at this;exact this):P:=h
theorem bz.node {w:World} {b:Nat} {L:List Nd} (h:bz w b L) {i:Nat} (hi:i<L.length) :
  ∃(g cap:Nat),L.length<=cap/\cap<=maxLen/\af w b 145 #[.bool true,.slice (some ⟨g,0,none⟩) L.length cap]/\lD b w g/\g<w.heap.size/\(∀j,j<L.length->∀(q:Nat) (v:Value),(UJ (L.getD j nd0))[q]? = some v->w.cell? ⟨g,j*6+q,none⟩=some v)/\(∀o,w.frozen? ⟨g,o,none⟩=false):=by
 obtain ⟨A,cap,k,r⟩:=h.ex;rcases r.2 with ⟨hv,h0⟩|⟨g,cap',cur,hv,hbs,hk,hn,hm,_,ht⟩
 ·omega
 ·cases hv
  refine ⟨g,cap,hn,hm,k,⟨zo,cur,hk⟩,af.lt hk,λj hj q v hq=>?_,λo=>af.frozen hk o⟩;have He:q<6:=by rw [<-yX (L.getD j nd0)];exact (List.getElem?_eq_some_iff.1 hq).1
  have h1:=yV yX nd0 L j hj q He;rw [hq] at h1;have:=r.cells (g:=g) rfl (j*6+q) v h1;exact OC
def gU (size en:Int):Nat->Int->List Sp
 | 0,_=>[]
 | k+1,at_=>if at_<en then (at_,min size (en - at_))::gU size en k (at_+size+1) else []
def ay (pg n f b ev:Int):List Sp:=gU (if ev=0 then 1024 else ev) (pg+n - b) 1025 (pg+f)
def lenOf:Option Value->Nat
 | some (.slice _ n _)=>n
 | _=>0
structure dO (pg n f b ev:Int):Prop where
 Cv:0<=pg
 pg1:pg<1024
 n0:1<=n
 n1:n<=1024 - pg
 f0:0<=f
 f1:f<=16
 b0:0<=b
 b1:b<=16
 e0:0<=ev
 e1:ev<=1024
 fb:f+b<n
def ab0 (b n:Nat) (w:World):Prop:=∃L,bz w b L/\jP L/\L.length=n
theorem UZ (n j:Nat) (h:j<=n):(List.range (n+1)).reverse.take (n - j)++[j]=(List.range (n+1)).reverse.take (n - j+1):=by
 rw [List.take_add_one];congr 1;rw [List.getElem?_reverse (by simp;omega),List.getElem?_range (by simp;omega)];simp;omega
def kL (f b ev:Int):Bool:=!(decide (0<=f)&&decide (f<=16)&&decide (0<=b)&&decide (b<=16)&&decide (0<=ev)&&decide (ev<=1024))
theorem ve {f b ev:Int}:kL f b ev=false↔(0<=f/\f<=16)/\(0<=b/\b<=16)/\0<=ev/\ev<=1024:=by simp [kL,and_assoc]
def bQ (pg n f b ev:Int):Int:=if bF (pg,n)=false\/kL f b ev=true then 7 else if n<=f+b then 4 else 0
theorem bR {pg n f b ev:Int}:bQ pg n f b ev=0↔dO pg n f b ev:=by
 unfold bQ;constructor
 ·intro h
  split at h
  ·cases h
  ·rename_i h1
   split at h
   ·cases h
   ·have h2:bF (pg,n)=true:=by cases hv:bF (pg,n) with|true=>rfl|false=>exact absurd (.inl hv) h1
    have h3:kL f b ev=false:=by cases hv:kL f b ev with|false=>rfl|true=>exact absurd (.inr hv) h1
    have h2':=av.1 h2;have h3':=ve.1 h3;simp only at h2';exact ⟨h2'.1,h2'.2.1,h2'.2.2.1,h2'.2.2.2,h3'.1.1,h3'.1.2,h3'.2.1.1,h3'.2.1.2,h3'.2.2.1,h3'.2.2.2,zo⟩
 ·intro h
  have h1:bF (pg,n)=true:=av.2 ⟨h.Cv,h.pg1,h.n0,h.n1⟩;have h2:kL f b ev=false:=ve.2 ⟨⟨h.f0,h.f1⟩,⟨h.b0,h.b1⟩,h.e0,h.e1⟩;rw [h1,h2];have:=h.fb;simp;omega
def tN (pg n f b ev page:Int):Int :=
 if page - pg<0\/n<=page - pg then 4 else if page - pg<f then 1 else if n - b<=page - pg then 2 else if 0<ev/\(page - pg - f+1) % (ev+1)=0 then 3 else 0
theorem ZR (x:Sp):eG [x]=if bF x=true then 0 else 7:=by
 by_cases h:bF x=true
 ·rw [if_pos h];exact bI.2 (Can.one h)
 ·rw [if_neg h];simp [eG,h]
theorem QW {w:World} {B:Nat} {t:TypeId} {p n:Int} (h:af w B t #[zI p,zI n]):RU w w.heap.size (some ⟨B,0,none⟩) [(p,n)]:=λk hk=>by
 obtain rfl:k=0:=by simp at hk;omega
 exact ⟨B,0,rfl,h.lt,h.cell 0,h.cell 1⟩
end Go.Pol
namespace Go.Proofs.YtlgcpjhimomiaaaGreat
open Go Go.Proofs Go.RowKit Go.Pol Tryz
attribute [local go_sem] Oper.semAt_some aC au aB ai
abbrev zK (f:FuncId) (a:Array Value) (w:World) (v:Value):Prop:=Calls prog f a w λe w'=>e= .returned v/\Below w.heap.size w w'
theorem aie {P:Prop} (h:P:=by
 have hE:Hid (R=2):=ae (by rw [<-hR,if_pos zo]);clear hR;go_enter func169,ntmps169;go_wp2_with fail;go_ret;exact ⟨by rw [hE.out];rfl,hb0⟩):P:=h
theorem Nc {P:Prop} (h:P:=by
 have hE:Hid (R=7):=ae (by rw [<-hR,if_pos zo]);clear hR;go_enter func169,ntmps169;go_wp2_with fail;go_ret;exact ⟨by rw [hE.out];rfl,hb0⟩):P:=h
theorem UO {P:Prop} (h:P:=by
 clear hR;go_enter func169,ntmps169;go_wp2_with fail;go_ret;exact ⟨by rw [hE.out];rfl,hb0⟩):P:=h
theorem ZL (x:Ru) (w:World):zK 169 #[QM x] w (zI (fo x)):=by
 obtain ⟨k,f,e,t⟩:=x;have hb0:=aQ w (.cells #[zI k,zI f,zI e,zI t] 108);have k0:=af.new w 108 #[zI k,zI f,zI e,zI t];have c0:=k0.cell;clear k0;obtain ⟨R,hR⟩:=ah (fo (k,f,e,t));rw [hR];unfold fo at hR;simp only at hR;by_cases c1:k<0
 ·have d1:=bU c1
  exact aie
 have d1:=bV c1;by_cases c2:7<=k
 ·have d2:=bU c2
  exact aie
 have d2:=bV c2;rw [if_neg zo] at hR;by_cases c3:f<1
 ·have d3:=bU c3
  exact Nc
 have d3:=bV c3;by_cases c4:10000<f
 ·have d4:=bU c4
  exact Nc
 have d4:=bV c4;by_cases c5:e<0
 ·have d5:=bU c5
  exact Nc
 have d5:=bV c5;by_cases c6:12<e
 ·have d6:=bU c6
  exact Nc
 have d6:=bV c6;by_cases c7:t<0
 ·have d7:=bU c7
  exact Nc
 have d7:=bV c7;by_cases c8:1000<t
 ·have d8:=bU c8
  exact Nc
 have d8:=bV c8;rw [if_neg zo] at hR;by_cases c9:e=0
 ·have d9:=Hd c9
  by_cases c10:t=1
  ·have d10:=Ha c10
   have hE:Hid (R=0):=ae (by rw [<-hR,if_neg zo]);clear c9 c10;exact UO
  ·have d10:=gJ c10
   have hE:Hid (R=6):=ae (by rw [<-hR,if_pos zo]);clear c9;exact UO
 ·have d9:=lV c9
  have hE:Hid (R=0):=ae (by rw [<-hR,if_neg zo]);exact UO
theorem IP (l:List Ru) (i:Nat) (h:i<l.length):yn i (l.drop i)=if fo (l.getD i qa)≠0 then ((i:Int),fo (l.getD i qa)) else yn (i+1) (l.drop (i+1)):=by
 rw [Go.Pol.drop_cons qa l i h,yn]
theorem aif {P:Prop} (h:P:=by
 obtain rfl:i=n:=zo;have hlt':decide ((i:Int)<(i:Int))=false:=by simp
 have hE:(0,0)=(ri,re):=by
  have:=hR.out;rw [List.drop_of_length_le (by have:=hn'.out;omega)] at this;exact this
 simp only [Prod.mk.injEq] at hE;obtain ⟨rfl,rfl⟩:=hE;go_wp2_with fail;go_ret2;exact ⟨rfl,by rw [hs'.out];exact hb0.trans (hB.mono (by have:=hb0.size;have:=hs'.out;omega))⟩):P:=h
theorem abJ {P:Prop} (h:P:=by
 go_wp2_with fail;go_ret2;have h:=hE.out;simp only [Prod.mk.injEq] at h;exact ⟨by rw [h.1,h.2];rfl,hb0⟩):P:=h
theorem za (A:Option Addr) (n cap:Nat) (l:List Ru) (w:World) (hn:l.length=n) (hr:Rd w w.heap.size A (fl iU l)) :
  zK 127 #[.agg #[.slice A n cap]] w (.tuple #[zI (iy l).1,zI (iy l).2]):=by
 have hb0:=aQ w (.cells #[.slice A n cap] 31);have k0:=af.new w 31 #[.slice A n cap];have c0:=k0.cell;have r0:=hr.fB hb0;obtain ⟨R,hR⟩:=ah (iy l);rw [hR];obtain ⟨ri,re⟩:=R;unfold iy at hR;have hn':=ae hn;by_cases h50:50<n
 ·have d1:decide (50<(n:Int))=true:=by rw [decide_eq_true_eq];omega
  have hE:Hid ((ri,re)=(0,3)):=ae (by rw [<-hR,if_pos zo]);clear hR hr r0 k0 hn h50;go_enter func127,ntmps127;exact abJ
 ·have d1:decide (50<(n:Int))=false:=by rw [decide_eq_false_iff_not];omega
  rw [if_neg zo] at hR;have hR':=ae hR;clear hR hr hn;obtain ⟨s,hs⟩:=ah (w.heap.size);have HR:=ae (λx W=>ZL x W);have hs':=ae hs;go_enter func127,ntmps127;go_upto_region 3 with fail
  generalize w.alloc (.cells #[.slice A n cap] 31)=w0 at *;rw [hs] at hb0 k0 c0;try simp only [hs]
  clear hs;go_wp2_with fail
  go_loopw [14] (λu wr=>∃i:Nat,i<=n/\u = zI i/\Hid (yn i (l.drop i)=(ri,re))/\Below w0.heap.size w0 wr) (λu _=>n - (intOf u).toNat)
  case atStart=>exact ⟨0,zo,rfl,ae hR'.out,Below.refl _ _⟩
  case round =>
   clear hR';obtain ⟨i,hi,rfl,hR,hB⟩:=hrel;by_cases hlt:i<n
   ·have hlt':decide ((i:Int)<(n:Int))=true:=by simpa using hlt
    have hst:=IP l i (by have:=hn'.out;omega);rw [hR.out] at hst;obtain ⟨b,o,rfl,hb,hc⟩:=(r0.fB hB).elem jY zo qa (k:=i) (by have:=hn'.out;omega);generalize l.getD i qa=x at *;have hcl:=HR.out x;obtain ⟨k,f,e,t⟩:=x;have x0:=hc 0 _ rfl;have x1:=hc 1 _ rfl;have x2:=hc 2 _ rfl;have x3:=hc 3 _ rfl;simp only [Nat.add_zero] at x0;generalize fo (k,f,e,t)=er at *;have hst':=ae hst;have hcl':=ae hcl;have hin:(i:Int)<(n:Int):=zo;clear hc hst hcl;have bx:=af.new wr 108 #[zI k,zI f,zI e,zI t];have hbx:=hB.alloc hB.size (.cells #[zI k,zI f,zI e,zI t] 108);have cx:=bx.cell;by_cases he:er=0
    ·subst he
     have dx:Hid (yn (i+1) (l.drop (i+1))=(ri,re)):=ae (by rw [hst'.out,if_neg zs]);clear hst';go_wp2_with fail;refine (hcl'.out _).zr λw1 hb1=>?_
     go_wp2_with fail;go_roundw
     case rel=>exact ⟨i+1,zo,by go_num,dx,hbx.zt hb1⟩
     case measure=>exact zm
    ·have he':=gJ he
     have dx:Hid ((ri,re)=((i:Int),er)):=ae (by rw [hst'.out,if_pos he]);clear hst' he;go_wp2_with fail;refine (hcl'.out _).zr λw1 hb1=>?_
     go_wp2_with fail;go_ret2;have h:=dx.out;simp only [Prod.mk.injEq] at h;exact ⟨by rw [h.1,h.2];rfl,by rw [hs'.out];exact hb0.trans ((hbx.zt hb1).mono (by have:=hb0.size;have:=hs'.out;omega))⟩
   ·exact aif
theorem abK {P:Prop} (h:P:=by
 rw [h'];go_enter func61,ntmps61;go_wp2_with fail;go_ret;exact ⟨rfl,rfl⟩):P:=h
theorem lK (n m:Int) (w:World):Calls prog 61 #[zI n,zI m] w λe w'=>e= .returned (.bool (decide (n<0\/m<n)))/\w'=w:=by
 by_cases h:n<0
 ·have d1:=bU h
  have h':decide (n<0\/m<n)=true:=by simp [h]
  exact abK
 ·have d1:=bV h
  have h':decide (n<0\/m<n)=decide (m<n):=by simp [h]
  exact abK
theorem abL {P:Prop} (h:P:=by
 rw [h'];go_enter func149,ntmps149;go_wp2_with fail;go_ret;exact ⟨rfl,rfl⟩):P:=h
theorem xC (b:Nat) (n:Int) (L:List Nd) (w:World) (hB:bz w b L) (hO:jP L) :
  Calls prog 149 #[zP b,zI n] w λe w'=>e= .returned (.bool (decide (0<=n/\n<(L.length:Int))))/\w'=w:=by
 obtain ⟨g,cap,hc1,hc2,kb,hg,hgl,hcell,hfz⟩:=hB.node hO.pos;have cb:=kb.cell;obtain ⟨m,hm⟩:=ah (L.length);have hmm:=hO.few;rw [hm] at cb hmm ⊢;by_cases h1:0<=n
 ·have d1:=bU h1
  by_cases h2:n<(m:Int)
  ·have d2:=bU h2
   have h':decide (0<=n/\n<(m:Int))=true:=by simp [h1,h2]
   obtain ⟨i,rfl⟩:∃i:Nat,n=(i:Int):=⟨n.toNat,zo⟩;have hi:i<L.length:=zo;have c4:=hcell i hi 4 (.bool (L.getD i nd0).cl) rfl;rw [(hO.chain i hi).1] at c4;rw [h'];clear h1 h2 h';have h2:i<m:=zo;go_enter func149,ntmps149;go_wp2_with fail;go_ret;exact ⟨rfl,rfl⟩
  ·have d2:=bV h2
   have h':decide (0<=n/\n<(m:Int))=false:=by simp [h2]
   exact abL
 ·have d1:=bV h1
  have h':decide (0<=n/\n<(m:Int))=false:=by simp [h1]
  exact abL
theorem Nf (b:Nat) (n:Int) (A:Option Addr) (cap:Nat) (L:List Nd) (w:World) (hB:bz w b L) (hO:jP L) (hr:RI w w.heap.size A [n]) :
  Calls prog 80 #[zP b,.slice A 1 cap] w λe w'=>e= .returned (zI (if 0<=n/\n<(L.length:Int) then 0 else 4))/\w'=w:=by
 have HO:=ae (xC b n L w hB hO);obtain ⟨g,cap2,hc1,hc2,kb,hg,hgl,hcell,hfz⟩:=hB.node hO.pos;have cb:=kb.cell;obtain ⟨p,o,rfl,_,c0⟩:=hr 0 zs;simp only [Nat.add_zero] at c0;obtain ⟨R,hR⟩:=ah (decide (0<=n/\n<(L.length:Int)));have hR2:Hid ((if 0<=n/\n<(L.length:Int) then (0:Int) else 4)=if R=true then 0 else 4):=ae (by rw [<-hR];simp);rw [hR] at HO;rw [hR2.out];generalize L.length=m at *;clear hR hc1 hcell hB hO hr;cases R with
 | true =>
  go_enter func80,ntmps80;go_wp2_with fail
  go_loopw [18] (λi wr=>∃k:Nat,k<=1/\i = zI k/\wr=w) (λi _=>1 - (intOf i).toNat)
  case atStart=>exact ⟨0,zo,rfl,rfl⟩
  case round =>
   obtain ⟨k,hk,rfl,hw⟩:=hrel;replace hw:=hw.symm;subst hw;by_cases h0:k=0
   ·subst h0
    go_wp2_with fail;refine HO.out.zr λw2 hw2=>?_
    replace hw2:=hw2.symm;subst hw2;go_wp2_with fail;go_roundw
    case rel=>exact ⟨1,zo,by go_num,trivial⟩
    case measure=>simp [intOf]
   ·have h1:k=1:=zo
    subst h1;go_wp2_with fail;go_ret;exact ⟨rfl,rfl⟩
 | false =>
  go_enter func80,ntmps80;go_wp2_with fail
  go_loopw [18] (λi wr=>i = zI 0/\wr=w) (λi _=>1)
  case atStart=>exact ⟨rfl,rfl⟩
  case round =>
   obtain ⟨rfl,hw⟩:=hrel;replace hw:=hw.symm;subst hw;go_wp2_with fail;refine HO.out.zr λw2 hw2=>?_
   replace hw2:=hw2.symm;subst hw2;go_wp2_with fail;go_ret;exact ⟨rfl,rfl⟩
theorem ZM (b:Nat) (L:List Nd) (w:World) (hB:bz w b L) (hO:jP L) :
  Calls prog 80 #[zP b,zN] w λe w'=>e= .returned (zI 0)/\w'=w:=by
 obtain ⟨g,cap2,hc1,hc2,kb,hg,hgl,hcell,hfz⟩:=hB.node hO.pos;have cb:=kb.cell;generalize L.length=m at *;clear hcell hB hO hc1;go_enter func80,ntmps80;go_wp2_with fail
 go_loopw [18] (λi wr=>i = zI 0/\wr=w) (λi _=>1)
 case atStart=>exact ⟨rfl,rfl⟩
 case round =>
  obtain ⟨rfl,hw⟩:=hrel;replace hw:=hw.symm;subst hw;go_wp2_with fail;go_ret;exact ⟨rfl,rfl⟩
theorem Cs (b i:Nat) (L:List Nd) (w:World) (hB:bz w b L) (hO:bf L) (hi:i<L.length) :
  zK 178 #[zP b,zI i] w (zI (bX L i)):=by
 obtain ⟨g,cap2,hc1,hc2,kb,hg,hgl,hcell,hfz⟩:=hB.node hO.pos;have c1:=hcell i hi 1 _ rfl;have c5:=hcell i hi 5 _ rfl;have hx:=hO.get hi;unfold bX;generalize (L.getD i nd0).lim=x at *;generalize (L.getD i nd0).all=y at *;have e1:=λz:Ext w=>z.cell c1
 have e5:=λz:Ext w=>z.cell c5
 have eb:=λz:Ext w=>(z.blk kb).cell
 generalize L.length=m at *;have hwr:IntKind.i64.wrap (x - y)=x - y:=by rw [IntKind.wrap_i64];omega
 clear hcell hB hO;go_enter func178,ntmps178;go_upto_region 1 with fail
 refine aD zk zk ?_
 repeat (go_big_quiet_step (fail))
 refine wpQuiet_nil ?_;rintro w2 ⟨⟨_,hw2⟩,rfl⟩;go_wp2_with fail;go_ret;exact ⟨rfl,hw2⟩
theorem UQ {P:Prop} (h:P:=by
 go_enter func89,ntmps89
 go_wp2
 go_ret;exact ⟨jF (by simp [bF];omega),hb0⟩):P:=h
theorem Ct (p n:Int) (w:World) :
  zK 89 #[.agg #[zI p,zI n]] w (.bool (!bF (p,n))):=by
 have hb0:=aQ w (.cells #[zI p,zI n] 85);by_cases h1:p<0
 ·have h1':=bU h1
  exact UQ
 have h1':=bV h1;by_cases h2:1024<=p
 ·have h2':=bU h2
  exact UQ
 have h2':=bV h2;by_cases h3:n<1
 ·have h3':=bU h3
  exact UQ
 have h3':=bV h3;go_enter func89,ntmps89
 go_wp2
 go_ret;exact ⟨jF (by rw [Bool.eq_iff_iff];simp [bF];omega),hb0⟩
theorem UR {P:Prop} (h:P:=by
 go_enter func93,ntmps93
 go_wp2
 go_ret;exact ⟨jF (by simp [bF];omega),hb0⟩):P:=h
theorem Cu (p n:Int) (w:World) :
  zK 93 #[.agg #[zI p,zI n]] w (.bool (bF (p,n))):=by
 have hb0:=aQ w (.cells #[zI p,zI n] 85);by_cases h1:0<=p
 case neg =>
  have h1':=bV h1;exact UR
 have h1':=bU h1;by_cases h2:p<1024
 case neg =>
  have h2':=bV h2;exact UR
 have h2':=bU h2;by_cases h3:1<=n
 case neg =>
  have h3':=bV h3;exact UR
 have h3':=bU h3;go_enter func93,ntmps93
 go_wp2
 go_ret;exact ⟨jF (by rw [Bool.eq_iff_iff];simp [bF];omega),hb0⟩
theorem iJ (p n:Int) (w:World) (hp : -100000<=p/\p<=100000) (hn : -100000<=n/\n<=100000) :
  zK 90 #[.agg #[zI p,zI n]] w (zI (p+n)):=by
 have hb0:=aQ w (.cells #[zI p,zI n] 85);go_enter func90,ntmps90
 go_wp2
 go_ret;exact ⟨rfl,hb0⟩
def kF:List Sp->Nat
 | []=>0
 | x::r=>if bF x=true then kF r+1 else 0
theorem tL:∀(s:List Sp),(kF s=s.length↔s.all bF=true)
 | []=>by simp [kF]
 | x::r=>by
  have:=tL r;simp only [kF,List.length_cons,List.all_cons];by_cases h:bF x=true
  ·rw [if_pos h];simp [h,this]
  ·rw [if_neg h];simp [h]
theorem EI:∀(s:List Sp) (k:Nat),(∀j,j<k->j<s.length->bF (s.getD j (0,0))=true)->k<s.length->bF (s.getD k (0,0))=false->kF s=k
 | [],k,_,h,_=>by simp at h
 | x::r,0,_,_,h=>by simp at h;simp [kF,h]
 | x::r,k+1,hj,hk,h=>by
  have h0:=hj 0 zo zs;simp at h0;rw [kF,if_pos h0,EI r k (λj h1 h2=>by simpa using hj (j+1) zo (by simp;omega)) (by simpa using hk) (by simpa using h)]
theorem IQ (s:List Sp) (h:∀j,j<s.length->bF (s.getD j (0,0))=true):kF s=s.length:=by
 rw [tL,List.all_eq_true];intro x hx;obtain ⟨j,hj,rfl⟩:=List.getElem_of_mem hx;simpa [List.getD_eq_getElem?_getD,hj] using h j hj
theorem aih {P:Prop} (h:P:=by
 have hB1:=hB.zt hq;go_roundw
 case rel =>
  refine ⟨k+1,zo,zo,rfl,hB1,ae (λj hj hl=>?_)⟩;by_cases hjk:(j:Int)<k
  ·exact hL.out j hjk hl
  ·obtain rfl:j=k.toNat:=zo
   rw [hu'.out];exact hv
 case measure=>exact zm):P:=h
theorem IU (A:Option Addr) (n cap:Nat) (us:List Sp) (w:World) (hn:us.length=n) (hm:n<=maxLen) (hr:RU w w.heap.size A us) :
  zK 154 #[.slice A n cap,.func (.func 89) #[] #[]] w (zI (if kF us=n then -1 else (kF us:Nat))):=by
 unfold maxLen at hm;have hn':=ae hn;clear hn;obtain ⟨R,hR0⟩:∃R:Int,(if kF us=n then -1 else ((kF us:Nat):Int))=R:=⟨_,rfl⟩;rw [hR0];have hR:=ae hR0;clear hR0;go_enter func154,ntmps154
 go_wp2
 go_loopw [8] (λi wr=>∃(k:Int),0<=k/\k<=n/\i = zI k/\Below w.heap.size w wr/\Hid (∀j:Nat,(j:Int)<k->j<us.length->bF (us.getD j (0,0))=true)) (λi _=>n - (intOf i).toNat)
 case atStart=>exact ⟨0,zo,zo,rfl,Below.refl _ _,ae (λj hj=>absurd hj zo)⟩
 case round =>
  obtain ⟨k,hk0,hk,rfl,hB,hL⟩:=hrel;by_cases hlt:k<n
  ·obtain ⟨b,o,rfl,_,hc,hd⟩:=RU.at_' (hr.below hB) (k:=k.toNat) (by have:=hn'.out;omega)
   have hX:Hid (us.getD k.toNat (0,0)=us.getD k.toNat (0,0)):=ae rfl;generalize hu:us.getD k.toNat (0,0)=u at *;have hu':=ae hu;clear hu hX;obtain ⟨x,y⟩:=u;dsimp only at hc hd;by_cases hv:bF (x,y)=true
   ·have hv':(!bF (x,y))=false:=by simp [hv]
    go_wp2_with (go_at_call 89;refine (Ct _ _ _).mono ?_;rintro e w1 ⟨rfl,hq⟩)
    exact aih
   ·have hv':(!bF (x,y))=true:=by simpa using hv
    have hE:Hid (kF us=k.toNat):=ae (EI us k.toNat (λj h1 h2=>hL.out j zo h2) (by have:=hn'.out;omega) (by rw [hu'.out];simpa using hv));clear hv
    go_wp2_with (go_at_call 89;refine (Ct _ _ _).mono ?_;rintro e w1 ⟨rfl,hq⟩)
    go_ret;exact ⟨eT (by rw [<-hR.out,hE.out,if_neg zo];omega),hB.zt hq⟩
  ·have hE:Hid (kF us=n):=ae (by rw [<-hn'.out];exact IQ us (λj h2=>hL.out j (by have:=hn'.out;omega) h2))
   go_wp2
   go_ret;exact ⟨eT (by rw [<-hR.out,if_pos hE.out]),hB⟩
theorem uZ (A:Option Addr) (n cap:Nat) (us:List Sp) (w:World) (hn:us.length=n) (hm:n<=maxLen) (hr:RU w w.heap.size A us) :
  zK 88 #[.slice A n cap,.func (.func 89) #[] #[]] w (.bool (!us.all bF)):=by
 have HI:=ae (IU A n cap us w hn hm hr);have hR:Hid (decide (0<=(if kF us=n then (-1:Int) else ((kF us:Nat):Int)))=!us.all bF):=ae (by
  have h:=tL us;rw [hn] at h;by_cases hb:kF us=n
  ·rw [if_pos hb,h.1 hb];rfl
  ·have:us.all bF=false:=by rw [Bool.eq_false_iff];exact λhh=>hb (h.2 hh)
   rw [if_neg hb,this];simp)
 generalize (if kF us=n then (-1:Int) else ((kF us:Nat):Int))=R at *;clear hn hr;go_enter func88,ntmps88
 go_wp2_with (go_at_call 154;refine (HI.out).mono ?_;rintro e w1 ⟨rfl,hq⟩)
 go_ret;exact ⟨jF hR.out,hq⟩
theorem IV (us:List Sp) (e:Int) (k:Nat) (hk:k+1<us.length) (h:aV e us=true↔aV ((us.getD k (0,0)).1+(us.getD k (0,0)).2) (us.drop (k+1))=true) :
  aV e us=true↔(us.getD k (0,0)).1+(us.getD k (0,0)).2<(us.getD (k+1) (0,0)).1/\aV ((us.getD (k+1) (0,0)).1+(us.getD (k+1) (0,0)).2) (us.drop (k+2))=true:=by
 rw [h,drop_cons (0,0) us (k+1) hk,aJ]
theorem FY (us:List Sp) (h0:0<us.length) (hv:us.all bF=true):aV (-1) us=true↔aV ((us.getD 0 (0,0)).1+(us.getD 0 (0,0)).2) (us.drop 1)=true:=by
 cases us with
 | nil=>simp at h0
 | cons x r =>
  have:=av.1 ((by simpa using hv:bF x=true/\_).1);rw [aJ];simp;intro;omega
theorem Im {us:List Sp} (hv:us.all bF=true) {k:Nat} (hk:k<us.length):bF (us.getD k (0,0))=true:=by
 have:=List.all_eq_true.1 hv us[k] (List.getElem_mem hk);simpa [List.getD_eq_getElem?_getD,hk] using this
theorem aii {P:Prop} (h:P:=by
 have hlt':decide ((k:Int)+1<(n:Int))=false:=by simp;omega
 have hE:Hid (R=0):=ae (by
  rw [hR2.out,if_pos];by_cases h0:0<n
  ·rw [hL.out h0,List.drop_of_length_le (by have:=hn'.out;omega)];rfl
  ·rw [List.eq_nil_of_length_eq_zero (by have:=hn'.out;omega:us.length=0)];rfl)
 clear hR2;go_wp2_with fail;go_ret;exact ⟨eT hE.out.symm,hB⟩):P:=h
theorem aij {P:Prop} (h:P:=by
 refine wpQuiet_nil ?_;rintro w2 ⟨⟨_,hw2⟩,rfl⟩;go_wp2_with fail;go_roundw
 case rel=>exact ⟨k+1,zo,zs,hB.zt hw2,ae (λ_=>by rw [hv'.out];exact hst'.out)⟩
 case measure=>exact zm):P:=h
theorem abM {P:Prop} (h:P:=by
 refine wpQuiet_nil ?_;rintro w2 ⟨⟨_,hw2⟩,rfl⟩;go_wp2_with fail;go_ret;exact ⟨eT hE.out.symm,hB.zt hw2⟩):P:=h
theorem abN {P:Prop} (h:P:=by
 go_wp2
 go_ret;exact ⟨eT (by rw [<-hR.out,eG,if_pos (by rw [hn'.out];exact hlen)]),Below.refl _ _⟩):P:=h
theorem gM (A:Option Addr) (n cap:Nat) (us:List Sp) (w:World) (hn:us.length=n) (hm:n<=maxLen) (hr:RU w w.heap.size A us) :
  zK 26 #[.slice A n cap] w (zI (eG us)):=by
 have HC:=ae (uZ A n cap us w hn hm hr);unfold maxLen at hm;have hn':=ae hn;clear hn;obtain ⟨R,hR0⟩:∃R:Int,eG us=R:=⟨_,rfl⟩;rw [hR0];have hR:=ae hR0;clear hR0;by_cases hlen:512<n
 ·have hlen':decide (512<(n:Int))=true:=by simp;omega
  go_enter func26,ntmps26;exact abN
 have hlen':decide (512<(n:Int))=false:=by simp;omega
 by_cases hall:us.all bF=true
 case neg =>
  have zb:(!us.all bF)=true:=by simpa using hall
  have hE:Hid (R=7):=ae (by rw [<-hR.out,eG,if_neg (by rw [hn'.out];exact hlen),if_pos (by simpa using hall)]);rw [zb] at HC;clear hall zb hr;go_enter func26,ntmps26
  go_wp2_with (go_at_call 88;refine (HC.out).mono ?_;rintro e w1 ⟨rfl,hq⟩)
  go_ret;exact ⟨eT hE.out.symm,hq⟩
 have zb:(!us.all bF)=false:=by rw [hall];rfl
 have hR2:Hid (R=if aV (-1) us=true then 0 else 6):=ae (by rw [<-hR.out,eG,if_neg (by rw [hn'.out];exact hlen),if_neg (by rw [hall];decide)]);have hA:=ae hall;rw [zb] at HC;clear hall zb hR;go_enter func26,ntmps26
 go_wp2_with (go_at_call 88;refine (HC.out).mono ?_;rintro e w1 ⟨rfl,hq⟩)
 go_loopw [3] (λi wr=>∃(k:Nat),(k+1<=n\/n=0/\k=0)/\i = zI ((k:Int)+1)/\Below w.heap.size w wr/\Hid (0<n->(aV (-1) us=true↔aV ((us.getD k (0,0)).1+(us.getD k (0,0)).2) (us.drop (k+1))=true))) (λi _=>n+1 - (intOf i).toNat)
 case atStart=>exact ⟨0,zo,zs,hq,ae (λh=>FY us (by rw [hn'.out];exact h) hA.out)⟩
 case round =>
  obtain ⟨k,hk,rfl,hB,hL⟩:=hrel;by_cases hlt:k+1<n
  ·have hlt':decide ((k:Int)+1<(n:Int))=true:=by simp;omega
   obtain ⟨b,o,rfl,hbl,hc,hd⟩:=RU.at_' (hr.below hB) (k:=k) (by have:=hn'.out;omega);obtain ⟨b',o',had,_,hc2,hd2⟩:=RU.at_' (hr.below hB) (k:=k+1) (by have:=hn'.out;omega);obtain ⟨rfl,rfl⟩:b=b'/\o=o':=by simpa using had
   clear had;have hst:=ae (IV us (-1) k (by have:=hn'.out;omega) (hL.out zo));have hv1:=av.1 (Im hA.out (k:=k) (by have:=hn'.out;omega));have hv2:=av.1 (Im hA.out (k:=k+1) (by have:=hn'.out;omega));generalize hu:us.getD k (0,0)=u at *;generalize hv:us.getD (k+1) (0,0)=v at *;have hv':=ae hv;clear hu hv hL;obtain ⟨x,y⟩:=u;obtain ⟨x2,y2⟩:=v;dsimp only at hc hd hc2 hd2 hst hv1 hv2;have q1:=λy:Ext wr=>y.cell hc
   have q2:=λy:Ext wr=>y.cell hd
   have q3:=λy:Ext wr=>y.cell hc2
   have q4:=λy:Ext wr=>y.cell hd2
   have HEC:Hid (∀z:Ext wr,Calls prog 90 #[.agg #[zI x,zI y]] z.w λe w''=>e= .returned (zI (x+y))/\∃t:Ext wr,w''=t.w):=ae (λz=>Ext.call (iJ x y _ zo zo));by_cases hle:x2<=x+y
   ·have QR:=bU hle
    have hE:Hid (R=6):=ae (by rw [hR2.out,if_neg (by rw [hst.out];omega)]);clear hst hR2 hv1 hv2;go_upto_region 8 with fail
    refine aD zk zk ?_
    repeat (go_big_quiet_step ((go_at_call 90;exact HEC.out _)))
    exact abM
   ·have QR:=bV hle
    have hst':Hid (aV (-1) us=true↔aV (x2+y2) (us.drop (k+1+1))=true):=ae (by rw [hst.out];exact ⟨λh=>h.2,λh=>⟨zo,h⟩⟩);clear hst hv1 hv2;go_upto_region 8 with fail
    refine aD zk zk ?_
    repeat (go_big_quiet_step ((go_at_call 90;exact HEC.out _)))
    exact aij
  ·exact aii
theorem lF (A:Option Addr) (n cap:Nat) (us:List Sp) (w:World) (hn:us.length=n) (hm:n<=maxLen) (hr:RU w w.heap.size A us) :
  zK 28 #[.slice A n cap] w (zI (eG us)):=by
 unfold maxLen at hm;have hn':=ae hn;clear hn;obtain ⟨R,hR0⟩:∃R:Int,eG us=R:=⟨_,rfl⟩;rw [hR0];have hR:=ae hR0;clear hR0;by_cases hlen:512<n
 ·have hlen':decide (512<(n:Int))=true:=by simp;omega
  go_enter func28,ntmps28;exact abN
 have hlen':decide (512<(n:Int))=false:=by simp;omega
 go_enter func28,ntmps28;go_wp2_with fail
 go_loopw [3] (λi wr=>∃(k:Int),0<=k/\k<=n/\i = zI k/\Below w.heap.size w wr/\Hid (∀j:Nat,(j:Int)<k->j<us.length->bF (us.getD j (0,0))=true)) (λi _=>n - (intOf i).toNat)
 case atStart=>exact ⟨0,zo,zo,rfl,Below.refl _ _,ae (λj hj=>absurd hj zo)⟩
 case round =>
  obtain ⟨k,hk0,hk,rfl,hB,hL⟩:=hrel;by_cases hlt:k<n
  ·have hlt':decide (k<(n:Int))=true:=by simpa using hlt
   obtain ⟨b,o,rfl,_,hc,hd⟩:=RU.at_' (hr.below hB) (k:=k.toNat) (by have:=hn'.out;omega);generalize hu:us.getD k.toNat (0,0)=u at *;have hu':=ae hu;clear hu;obtain ⟨x,y⟩:=u;dsimp only at hc hd;by_cases hv:bF (x,y)=true
   ·have hv':(!bF (x,y))=false:=by simp [hv]
    go_wp2_with (go_at_call 93;refine (Cu _ _ _).mono ?_;rintro e w1 ⟨rfl,hq⟩)
    exact aih
   ·have hv':(!bF (x,y))=true:=by simpa using hv
    have hE:Hid (R=7):=ae (by
     have hb:=EI us k.toNat (λj h1 h2=>hL.out j zo h2) (by have:=hn'.out;omega) (by rw [hu'.out];simpa using hv);rw [<-hR.out,eG,if_neg (by rw [hn'.out];exact hlen),if_pos];rw [Bool.eq_false_iff];intro hh;have:=(tL us).2 hh;have:=hn'.out;omega)
    clear hv
    go_wp2_with (go_at_call 93;refine (Cu _ _ _).mono ?_;rintro e w1 ⟨rfl,hq⟩)
    go_ret;exact ⟨eT hE.out.symm,hB.zt hq⟩
  ·have hlt':decide (k<(n:Int))=false:=by simp;omega
   have hA:Hid (us.all bF=true):=ae (by rw [<-tL];exact IQ us (λj h2=>hL.out j (by have:=hn'.out;omega) h2));have hR2:Hid (R=if aV (-1) us=true then 0 else 6):=ae (by rw [<-hR.out,eG,if_neg (by rw [hn'.out];exact hlen),if_neg (by rw [hA.out];decide)]);clear hL hR;go_wp2_with fail
   go_loopw [4] (λi wr=>∃(k:Nat),(k+1<=n\/n=0/\k=0)/\i = zI ((k:Int)+1)/\Below w.heap.size w wr/\Hid (0<n->(aV (-1) us=true↔aV ((us.getD k (0,0)).1+(us.getD k (0,0)).2) (us.drop (k+1))=true))) (λi _=>n+1 - (intOf i).toNat)
   case atStart=>exact ⟨0,zo,zs,hB,ae (λh=>FY us (by rw [hn'.out];exact h) hA.out)⟩
   case round =>
    obtain ⟨k,hk,rfl,hB,hL⟩:=hrel;by_cases hlt:k+1<n
    ·have hlt':decide ((k:Int)+1<(n:Int))=true:=by simp;omega
     obtain ⟨b,o,rfl,hbl,hc,hd⟩:=RU.at_' (hr.below hB) (k:=k) (by have:=hn'.out;omega);obtain ⟨b',o',had,_,hc2,hd2⟩:=RU.at_' (hr.below hB) (k:=k+1) (by have:=hn'.out;omega);obtain ⟨rfl,rfl⟩:b=b'/\o=o':=by simpa using had
     clear had;have hst:=ae (IV us (-1) k (by have:=hn'.out;omega) (hL.out zo));have hv1:=av.1 (Im hA.out (k:=k) (by have:=hn'.out;omega));have hv2:=av.1 (Im hA.out (k:=k+1) (by have:=hn'.out;omega));generalize hu:us.getD k (0,0)=u at *;generalize hv:us.getD (k+1) (0,0)=v at *;have hv':=ae hv;clear hu hv hL;obtain ⟨x,y⟩:=u;obtain ⟨x2,y2⟩:=v;dsimp only at hc hd hc2 hd2 hst hv1 hv2;have q1:=λy:Ext wr=>y.cell hc
     have q2:=λy:Ext wr=>y.cell hd
     have q3:=λy:Ext wr=>y.cell hc2
     have q4:=λy:Ext wr=>y.cell hd2
     by_cases hle:x2<=x+y
     ·have QR:=bU hle
      have hE:Hid (R=6):=ae (by rw [hR2.out,if_neg (by rw [hst.out];omega)]);clear hst hR2;go_upto_region 11 with fail
      refine aD zk zk ?_
      repeat (go_big_quiet_step (fail))
      exact abM
     ·have QR:=bV hle
      have hst':Hid (aV (-1) us=true↔aV (x2+y2) (us.drop (k+1+1))=true):=ae (by rw [hst.out];exact ⟨λh=>h.2,λh=>⟨zo,h⟩⟩);clear hst;go_upto_region 11 with fail
      refine aD zk zk ?_
      repeat (go_big_quiet_step (fail))
      exact aij
    ·exact aii
def jR (s:List Sp) (x:Sp):Int:=if eG s=0 then (if bF x=true then 0 else 7) else eG s
theorem aik {P:Prop} (h:P:=by
 clear hv hc;go_enter func132,ntmps132
 go_wp2_with (first
  | (go_at_call 26;refine (HC.out _ hr0).mono ?_;rintro e w1 ⟨rfl,hq⟩;have k1:=k0.call hq;have c1:=k1.cell)
  | (go_at_call 89;refine (Ct _ _ _).mono ?_;rintro e w2 ⟨rfl,hq2⟩))
 go_ret;have hB1:=hb0.zt hq;exact ⟨eT hE.out.symm,hB1.zt hq2⟩):P:=h
theorem QS (A:Option Addr) (n cap:Nat) (us:List Sp) (p q:Int) (w:World) (hn:us.length=n) (hm:n<=maxLen) (hr:RU w w.heap.size A us) :
  zK 132 #[.slice A n cap,.agg #[zI p,zI q]] w (zI (jR us (p,q))):=by
 have HC:=ae (λW (h:RU W W.heap.size A us)=>gM A n cap us W hn hm h);obtain ⟨R,hR0⟩:∃R:Int,jR us (p,q)=R:=⟨_,rfl⟩;rw [hR0];have hR:=ae hR0;clear hR0;have hb0:=aQ w (.cells #[zI p,zI q] 85);have k0:=af.new w 85 #[zI p,zI q];have hr0:RU _ _ A us:=(hr.below hb0).more hb0.size;clear hr hn;by_cases hc:eG us=0
 ·rw [hc] at HC
  by_cases hv:bF (p,q)=true
  ·have hv':(!bF (p,q))=false:=by simp [hv]
   have hE:Hid (R=0):=ae (by rw [<-hR.out,jR,if_pos hc,if_pos hv]);exact aik
  ·have hv':(!bF (p,q))=true:=by simpa using hv
   have hE:Hid (R=7):=ae (by rw [<-hR.out,jR,if_pos hc,if_neg hv]);exact aik
 ·have hE:Hid (R=eG us):=ae (by rw [<-hR.out,jR,if_neg hc])
  generalize eG us=c at *;have hc':(c != 0)=true:=by simpa using hc
  clear hc;go_enter func132,ntmps132
  go_wp2_with (first
   | (go_at_call 26;refine (HC.out _ hr0).mono ?_;rintro e w1 ⟨rfl,hq⟩;have k1:=k0.call hq;have c1:=k1.cell))
  go_ret;exact ⟨eT hE.out.symm,hb0.zt hq⟩
theorem aoc (x1 x2 y1 y2:Int) (w:World):(Op.equalIn 10000 85 (.agg #[zI x1,zI x2]) (.agg #[zI y1,zI y2])).run prog w= .ok (decide (x1=y1/\x2=y2)) w:=by
 have u3:=underlying3;have a3:=Tryz.isAgg3;have z3:=Tryz.sizeOf3;rw [show (10000:Nat)=9999+1 from rfl];by_cases h1:x1=y1 <;> by_cases h2:x2=y2 <;> go_simp <;> simp [h1,h2]
theorem ZO (A B:Option Addr) (n m cap cap':Nat) (xs ys:List Sp) (w:World) (hn:xs.length=n) (hm:n<=maxLen) (hn2:ys.length=m) (hm2:m<=maxLen) (hr:RU w w.heap.size A xs) (hs:RU w w.heap.size B ys) :
  zK 85 #[.slice A n cap,.slice B m cap'] w (.bool (decide (xs=ys))):=by
 unfold maxLen at hm hm2;have hn':=ae hn;have hm':=ae hn2;clear hn hn2;by_cases hnm:n=m
 case neg =>
  have hne:((n:Int) != m)=true:=by rw [bne_iff_ne];omega
  have H:Hid (decide (xs=ys)=false):=ae (by rw [decide_eq_false_iff_not];rintro rfl;exact hnm (hn'.out.symm.trans hm'.out));go_enter func85,ntmps85
  go_wp2
  go_ret;exact ⟨jF H.out.symm,Below.refl _ _⟩
 case pos =>
  subst hnm;have hne:((n:Int) != n)=false:=by simp
  go_enter func85,ntmps85
  go_wp2
  go_loopw [5] (λi wr=>∃(k:Int),0<=k/\k<=n/\i = zI k/\Below w.heap.size w wr/\Hid (xs=ys↔xs.drop k.toNat=ys.drop k.toNat)) (λi _=>n - (intOf i).toNat)
  case atStart=>exact ⟨0,zo,zo,rfl,Below.refl _ _,ae zs⟩
  case round =>
   obtain ⟨k,hk1,hk,rfl,hB,hL⟩:=hrel;have hr1:=hr.below hB;have hs1:=hs.below hB;by_cases hlt:k<n
   ·have hlt':decide (k<(n:Int))=true:=by simpa using hlt
    obtain ⟨b,o,rfl,_,hc,hd⟩:=RU.at_' hr1 (k:=k.toNat) (by have:=hn'.out;omega);obtain ⟨b2,o2,rfl,_,hc2,hd2⟩:=RU.at_' hs1 (k:=k.toNat) (by have:=hm'.out;omega);have hd1:=ae (drop_cons (0,0) xs k.toNat (by have:=hn'.out;omega));have ail:=ae (drop_cons (0,0) ys k.toNat (by have:=hm'.out;omega));have hsucc:Hid ((k+1).toNat=k.toNat+1):=ae zo;generalize xs.getD k.toNat (0,0)=x at *;generalize ys.getD k.toNat (0,0)=y at *;obtain ⟨x1,x2⟩:=x;obtain ⟨y1,y2⟩:=y;dsimp only at hc hd hc2 hd2;have hcx:=λy:Ext wr=>y.cell hc
    have hcy:=λy:Ext wr=>y.cell hc2
    have hdx:=λy:Ext wr=>y.cell hd
    have hdy:=λy:Ext wr=>y.cell hd2
    have hq:=λ(W:World)=>aoc x1 x2 y1 y2 W
    by_cases hxy:x1=y1/\x2=y2
    ·have hxy':=bU hxy
     have hst:Hid (xs=ys↔xs.drop (k+1).toNat=ys.drop (k+1).toNat):=ae (by rw [hL.out,hd1.out,ail.out,hsucc.out];simp [hxy]);rw [hxy'] at hq;clear hxy hxy';go_upto_region 6 with fail
     refine aD zk zk ?_
     repeat (go_big_quiet_step (fail))
     refine wpQuiet_nil ?_;rintro w1 ⟨⟨_,hw1⟩,rfl⟩;go_wp2_with fail;go_roundw
     case rel=>exact ⟨k+1,zo,zo,rfl,hB.zt hw1,hst⟩
     case measure=>exact zm
    ·have hxy':=bV hxy
     have hE:Hid (decide (xs=ys)=false):=ae (by
      rw [decide_eq_false_iff_not,hL.out,hd1.out,ail.out];intro h
      injection h with h1 _
      exact hxy (by simpa using h1))
     rw [hxy'] at hq;clear hxy hxy';go_upto_region 6 with fail
     refine aD zk zk ?_
     repeat (go_big_quiet_step (fail))
     refine wpQuiet_nil ?_;rintro w1 ⟨⟨_,hw1⟩,rfl⟩;go_wp2_with fail;go_ret;exact ⟨jF hE.out.symm,hB.zt hw1⟩
   ·have hlt':decide (k<(n:Int))=false:=by simp;omega
    go_wp2_with fail;go_ret;have:decide (xs=ys)=true:=by rw [decide_eq_true_eq,hL.out,List.drop_of_length_le (by have:=hn'.out;omega),List.drop_of_length_le (by have:=hm'.out;omega)]
    exact ⟨jF this.symm,hB⟩
abbrev ek (pg n f b ev:Int):Value:=.agg #[zI pg,zI n,zI f,zI b,zI ev]
abbrev bg (pg n f b ev:Int):Array Value:=#[zI pg,zI n,zI f,zI b,zI ev]
abbrev ZQ (x:Sp):Array Value:=#[.agg #[zI x.1,zI x.2]]
theorem UT (pg n f b ev:Int) (w:World) (hp:dO pg n f b ev) :
  zK 153 #[ek pg n f b ev] w (.tuple #[zI (pg+f),zI (pg+n - b)]):=by
 obtain ⟨h1,h2,h3,h4,h5,h6,h7,h8,h9,h10,h11⟩:=hp;have hb0:=aQ w (.cells (bg pg n f b ev) 25);have k0:=af.new w 25 (bg pg n f b ev);have q:=λ(x:Ext (w.alloc (.cells (bg pg n f b ev) 25)))=>(x.blk k0).cell
 go_enter func153,ntmps153;go_upto_region 1 with fail
 refine aD zk zk ?_
 repeat (go_big_quiet_step (fail))
 refine wpQuiet_nil ?_;rintro w2 ⟨⟨_,hw2⟩,rfl⟩;go_wp2_with fail;go_ret2;exact ⟨rfl,hb0.zt hw2⟩
theorem kJ {α:Type} {pre rest xs:List α} {x:α} (h:xs=pre++x::rest):pre++[x] <+: xs:=⟨rest,by simp [h]⟩
theorem aim {P:Prop} (h:P:=by
 gi_wp2
 refine bodyPost_ret (results_none rfl _ _ _) rfl ?_;exact ⟨⟨_,rfl⟩,.inr ⟨pre++[(a,pg+n - b - a)],kJ hL2.out,hJx3⟩⟩):P:=h
theorem abP {P:Prop} (h:P:=by
 gi_wp2
 go_end0
 exact ⟨⟨_,rfl⟩,.inl (by rw [<-hL2.out];exact hJs)⟩):P:=h
theorem Cw (pg n f b ev:Int) (B:Nat) (w:World) (hp:dO pg n f b ev) (hB:af w B 25 (bg pg n f b ev)) :
  yR prog 152 #[zP B] ZQ (λ_=>False) (λk=>k=B) (ay pg n f b ev) w:=by
 intro m l J Jx W hW hJ hJx hY h0;have kB:=hW.blk hB zs;have HI:=ae (UT pg n f b ev · hp);obtain ⟨h1,h2,h3,h4,h5,h6,h7,h8,h9,h10,h11⟩:=hp;refine callsIn_of_wp func152 rfl trivial ?_ rfl;simp only [ntmps152,List.size_toArray,List.length_cons,List.length_nil,Nat.reduceAdd,Nat.reduceSub,Array.replicate_succ,Array.replicate_zero,List.push_toArray,List.append_toArray,List.nil_append,List.cons_append];have cB:=kB.cell;by_cases he:ev=0
 ·subst he
  have hR:Hid (ay pg n f b 0=gU 1024 (pg+n - b) 1025 (pg+f)):=ae rfl
  gi_wp2_with (gi_at_call 153;refine (callsIn_wide.2 (HI.out W)).mono ?_;rintro e w1 ⟨rfl,hq⟩;have k1:=kB.call hq;have c1:=k1.cell;have EJ:=hJ [] W w1 h0 (.of_below hq))
  gi_loopw [6] (λi wr=>∃(k:Nat) (a:Int) (pre:List Sp),i = zI a/\0<=a/\a<=4096/\pg+n - b - a<k/\J pre wr/\Hid (ay pg n f b 0=pre++gU 1024 (pg+n - b) k a)) (λi _=>(pg+n - b - intOf i).toNat)
  case atStart=>exact ⟨1025,pg+f,[],rfl,zo,zo,zo,EJ,ae (by rw [hR.out];rfl)⟩
  case round =>
   obtain ⟨k,a,pre,rfl,ha0,ha1,hk,hJs,hL⟩:=hrel;by_cases hlt:a<pg+n - b
   ·have hlt':=bU hlt
    obtain ⟨k',rfl⟩:∃k',k=k'+1:=⟨k - 1,zo⟩;by_cases hmi:1024<=pg+n - b - a
    ·have hL2:Hid (ay pg n f b 0=pre++(a,1024)::gU 1024 (pg+n - b) k' (a+1024+1)):=ae (by rw [hL.out,gU,if_pos hlt,show min 1024 (pg+n - b - a)=1024 by omega])
     obtain ⟨fn,tmps,assign,body,hy,qc⟩:=hY (m - 1) pre (a,1024) wr hJs (kJ hL2.out);clear hL hY
     gi_wp2
     refine qc.mono ?_;rintro e W3 (⟨rfl,hJ3,_⟩|⟨rfl,hJx3⟩)
     ·gi_wp2
      go_roundw
      case rel=>exact ⟨k',a+1024+1,pre++[(a,1024)],by go_num,zo,zo,zo,hJ3,ae (by rw [hL2.out];simp)⟩
      case measure=>exact zm
     ·gi_wp2
      refine bodyPost_ret (results_none rfl _ _ _) rfl ?_;exact ⟨⟨_,rfl⟩,.inr ⟨pre++[(a,1024)],kJ hL2.out,hJx3⟩⟩
    ·have hL2:Hid (ay pg n f b 0=pre++(a,pg+n - b - a)::gU 1024 (pg+n - b) k' (a+1024+1)):=ae (by rw [hL.out,gU,if_pos hlt,show min 1024 (pg+n - b - a)=pg+n - b - a by omega])
     obtain ⟨fn,tmps,assign,body,hy,qc⟩:=hY (m - 1) pre (a,pg+n - b - a) wr hJs (kJ hL2.out);clear hL hY
     gi_wp2
     refine qc.mono ?_;rintro e W3 (⟨rfl,hJ3,_⟩|⟨rfl,hJx3⟩)
     ·gi_wp2
      go_roundw
      case rel=>exact ⟨k',a+1024+1,pre++[(a,pg+n - b - a)],by go_num,zo,zo,zo,hJ3,ae (by rw [hL2.out];simp)⟩
      case measure=>exact zm
     ·exact aim
   ·have hlt':=bV hlt
    have hL2:Hid (pre=ay pg n f b 0):=ae (by
     rw [hL.out];cases k with
     | zero=>simp [gU]
     | succ k=>rw [gU,if_neg hlt];simp)
    exact abP
 ·have he':=lV he
  have hR:Hid (ay pg n f b ev=gU ev (pg+n - b) 1025 (pg+f)):=ae (by unfold ay;rw [if_neg he])
  gi_wp2_with (gi_at_call 153;refine (callsIn_wide.2 (HI.out W)).mono ?_;rintro e w1 ⟨rfl,hq⟩;have k1:=kB.call hq;have c1:=k1.cell;have EJ:=hJ [] W w1 h0 (.of_below hq))
  gi_loopw [6] (λi wr=>∃(k:Nat) (a:Int) (pre:List Sp),i = zI a/\0<=a/\a<=4096/\pg+n - b - a<k/\J pre wr/\Hid (ay pg n f b ev=pre++gU ev (pg+n - b) k a)) (λi _=>(pg+n - b - intOf i).toNat)
  case atStart=>exact ⟨1025,pg+f,[],rfl,zo,zo,zo,EJ,ae (by rw [hR.out];rfl)⟩
  case round =>
   obtain ⟨k,a,pre,rfl,ha0,ha1,hk,hJs,hL⟩:=hrel;by_cases hlt:a<pg+n - b
   ·have hlt':=bU hlt
    obtain ⟨k',rfl⟩:∃k',k=k'+1:=⟨k - 1,zo⟩;by_cases hmi:ev<=pg+n - b - a
    ·have hL2:Hid (ay pg n f b ev=pre++(a,ev)::gU ev (pg+n - b) k' (a+ev+1)):=ae (by rw [hL.out,gU,if_pos hlt,show min ev (pg+n - b - a)=ev by omega])
     obtain ⟨fn,tmps,assign,body,hy,qc⟩:=hY (m - 1) pre (a,ev) wr hJs (kJ hL2.out);clear hL hY
     gi_wp2
     refine qc.mono ?_;rintro e W3 (⟨rfl,hJ3,_⟩|⟨rfl,hJx3⟩)
     ·gi_wp2
      go_roundw
      case rel=>exact ⟨k',a+ev+1,pre++[(a,ev)],by go_num,zo,zo,zo,hJ3,ae (by rw [hL2.out];simp)⟩
      case measure=>exact zm
     ·gi_wp2
      refine bodyPost_ret (results_none rfl _ _ _) rfl ?_;exact ⟨⟨_,rfl⟩,.inr ⟨pre++[(a,ev)],kJ hL2.out,hJx3⟩⟩
    ·have hL2:Hid (ay pg n f b ev=pre++(a,pg+n - b - a)::gU ev (pg+n - b) k' (a+ev+1)):=ae (by rw [hL.out,gU,if_pos hlt,show min ev (pg+n - b - a)=pg+n - b - a by omega])
     obtain ⟨fn,tmps,assign,body,hy,qc⟩:=hY (m - 1) pre (a,pg+n - b - a) wr hJs (kJ hL2.out);clear hL hY
     gi_wp2
     refine qc.mono ?_;rintro e W3 (⟨rfl,hJ3,_⟩|⟨rfl,hJx3⟩)
     ·gi_wp2
      go_roundw
      case rel=>exact ⟨k',a+ev+1,pre++[(a,pg+n - b - a)],by go_num,zo,zo,zo,hJ3,ae (by rw [hL2.out];simp)⟩
      case measure=>exact zm
     ·exact aim
   ·have hlt':=bV hlt
    have hL2:Hid (pre=ay pg n f b ev):=ae (by
     rw [hL.out];cases k with
     | zero=>simp [gU]
     | succ k=>rw [gU,if_neg hlt];simp)
    exact abP
theorem abQ {w:World} {B:Nat} {b o:Nat} {x:Sp} {us:List Sp} (h:RU w B (some ⟨b,o,none⟩) (x::us)):RU w B (some ⟨b,o+2,none⟩) us:=λk hk=>by
 obtain ⟨b',o',e,hb,hc,hd⟩:=h (k+1) (by simp;omega);obtain ⟨rfl,rfl⟩:b=b'/\o=o':=by simpa using e
 refine ⟨b,o+2,rfl,hb,?_,?_⟩
 ·rw [show o+2+k*2=o+(k+1)*2 by omega];simpa using hc
 ·rw [show o+2+k*2+1=o+(k+1)*2+1 by omega];simpa using hd
theorem wG {w:World} {B:Nat} {A:Option Addr} {x:Sp} {us:List Sp} (h:RU w B A (x::us)):∃b o,A=some ⟨b,o,none⟩/\b<B/\w.cell? ⟨b,o,none⟩=some (zI x.1)/\w.cell? ⟨b,o+1,none⟩=some (zI x.2):=by
 obtain ⟨b,o,e,hb,hc,hd⟩:=h 0 zs;exact ⟨b,o,e,hb,by simpa using hc,by simpa using hd⟩
theorem tail_at {w:World} {N:Nat} {p o d:Nat} {x:Sp} {us:List Sp} (h:RU w N (some ⟨p,o,none⟩) (x::us)) (hd:us.length+1<=d) :
  ∃q,(if d=1 then (some ⟨p,o,none⟩:Option Addr) else some ⟨p,o+2,none⟩)=some ⟨p,q,none⟩/\RU w N (some ⟨p,q,none⟩) us:=by
 by_cases h1:d=1
 ·obtain rfl:us=[]:=List.eq_nil_of_length_eq_zero zo
  exact ⟨o,by rw [if_pos h1],RU.nil⟩
 ·exact ⟨o+2,by rw [if_neg h1],abQ h⟩
structure Left (w:World) (N:Nat) (K:Nat->Prop) (B1 B2:Nat) (P:Option Addr) (m d:Nat) (us:List Sp):Prop where
 len:us.length=m
 cap:m<=d
 max:d<=9223372036854775807
 ru:RU w N P us
 own:us≠[]->∀b o,P=some ⟨b,o,none⟩->K b/\b≠B1/\b≠B2
 vl:∀x∈us,bF x=true
theorem Left.far {T:Nat->Prop} {w w':World} {N:Nat} {K:Nat->Prop} {B1 B2:Nat} {P:Option Addr} {m d:Nat} {us:List Sp} (h:Left w N K B1 B2 P m d us) (hf:ag T w w') (hT:∀k,K k->k≠B1->k≠B2->¬T k):Left w' N K B1 B2 P m d us :=
 ⟨h.len,h.cap,h.max,by
  by_cases h0:us=[]
  ·subst h0;exact RU.nil
  ·exact hf.ru h.ru (λb o e=>by have:=h.own h0 b o e;exact hT b this.1 this.2.1 this.2.2),h.own,h.vl⟩
theorem ain {P:Prop} (h:P:=by
 have lr:Left w5 N K B1 B2 (some ⟨p1,q,none⟩) (m1 - 1) (d1 - 1) r:=⟨zo,zo,zo,hqr,λ_ b o e=>by cases e;exact hne1,λz hz=>Dz.vl z (by simp [hz])⟩;exact lr.far hfz (λk _ h1 h2 h=>h.elim h1 h2)):P:=h
theorem aio {P:Prop} (h:P:=by
 have lr:Left w5 N K B1 B2 (some ⟨p2,q,none⟩) (m2 - 1) (d2 - 1) s:=⟨zo,zo,zo,hqr,λ_ b o e=>by cases e;exact hne2,λz hz=>DC.vl z (by simp [hz])⟩;exact lr.far hfz (λk _ h1 h2 h=>h.elim h1 h2)):P:=h
theorem UU {P:Prop} (h:P:=by
 gi_wp2_with fail
 go_end0
 exact ⟨⟨_,rfl⟩,.inl (by rw [<-hE.out];exact hJs)⟩):P:=h
theorem xD (A1 A2:Option Addr) (n1 c1 n2 c2:Nat) (us vs:List Sp) (B1 B2 N:Nat) (K:Nat->Prop) (w:World) (hK1:K B1) (hK2:K B2) (hne:B1≠B2)
  (k1:af w B1 26 #[.slice A1 n1 c1]) (k2:af w B2 26 #[.slice A2 n2 c2]) (hA:Left w N K B1 B2 A1 n1 c1 us) (hB:Left w N K B1 B2 A2 n2 c2 vs) :
  yR prog 179 #[zP B1,zP B2] ZQ (λk=>k=B1\/k=B2) K (az us vs) w:=by
 intro m l J Jx W hW hJ hJx hY h0;have kB1:=hW.blk k1 (by simpa using hK1);have kB2:=hW.blk k2 (by simpa using hK2);have lA:=hA.far hW (λk hk _ _ h=>h hk);have lB:=hB.far hW (λk hk _ _ h=>h hk);refine callsIn_of_wp func179 rfl trivial ?_ rfl;simp only [ntmps179,List.size_toArray,List.length_cons,List.length_nil,Nat.reduceAdd,Nat.reduceSub,Array.replicate_succ,Array.replicate_zero,List.push_toArray,List.append_toArray,List.nil_append,List.cons_append]
 gi_wp2_with fail
 gi_loopw [4] (λ_ wr=>∃(eU vs' pre:List Sp) (P1 P2:Option Addr) (m1 m2 d1 d2:Nat),af wr B1 26 #[.slice P1 m1 d1]/\af wr B2 26 #[.slice P2 m2 d2]/\Left wr N K B1 B2 P1 m1 d1 eU/\Left wr N K B1 B2 P2 m2 d2 vs'/\J pre wr/\Hid (az us vs=pre++az eU vs'))
  (λ_ wr=>lenOf (wr.cell? ⟨B1,0,none⟩)+lenOf (wr.cell? ⟨B2,0,none⟩))
 case atStart=>exact ⟨us,vs,[],A1,A2,n1,n2,c1,c2,kB1,kB2,lA,lB,h0,ae rfl⟩
 case round =>
  obtain ⟨eU,vs',pre,P1,P2,m1,m2,d1,d2,b1,b2,l1,l2,hJs,hL⟩:=hrel;obtain ⟨q1,q2⟩:=bB b1 b2;obtain ⟨f1,f2⟩:=tu b1 b2;cases eU with
  | nil =>
   obtain rfl:m1=0:=by have:=l1.len;simpa using this.symm
   have hE:Hid (pre=az us vs):=ae (by rw [hL.out,OB,List.append_nil]);exact UU
  | cons x r =>
   have h1':decide (0<m1)=true:=by have:=l1.len;simp at this;simp;omega
   cases vs' with
   | nil =>
    obtain rfl:m2=0:=by have:=l2.len;simpa using this.symm
    have hE:Hid (pre=az us vs):=ae (by rw [hL.out,LM,List.append_nil]);exact UU
   | cons y s =>
    have h2':decide (0<m2)=true:=by have:=l2.len;simp at this;simp;omega
    have hlx:=l1.len;have hly:=l2.len;simp only [List.length_cons] at hlx hly;have hmx:=l1.max;have hmy:=l2.max;have hcx:=l1.cap;have hcy:=l2.cap;obtain ⟨p1,o1,rfl,hp1,x1,x2⟩:=wG l1.ru;obtain ⟨p2,o2,rfl,hp2,y1,y2⟩:=wG l2.ru;have kK:=av.1 (l1.vl x zs);have hvy:=av.1 (l2.vl y zs);obtain ⟨xa,xb⟩:=x;obtain ⟨ya,yb⟩:=y;dsimp only at x1 x2 y1 y2 kK hvy;have e1:=λz:Ext wr=>z.cell x1
    have e2:=λz:Ext wr=>z.cell x2
    have e3:=λz:Ext wr=>z.cell y1
    have e4:=λz:Ext wr=>z.cell y2
    have e5:=λz:Ext wr=>(z.blk b1).cell
    have e6:=λz:Ext wr=>(z.blk b2).cell
    have HE1:Hid (∀z:Ext wr,Calls prog 90 #[.agg #[zI xa,zI xb]] z.w λe w''=>e= .returned (zI (xa+xb))/\∃t:Ext wr,w''=t.w):=ae (λz=>Ext.call (iJ xa xb _ zo zo));have HE2:Hid (∀z:Ext wr,Calls prog 90 #[.agg #[zI ya,zI yb]] z.w λe w''=>e= .returned (zI (ya+yb))/\∃t:Ext wr,w''=t.w):=ae (λz=>Ext.call (iJ ya yb _ zo zo))
    gi_upto_region 1 with fail
    refine wpIn_wide.2 ?_;refine aD zk zk ?_
    repeat (go_big_quiet_step ((go_at_call 90;first|exact HE1.out _|exact HE2.out _)))
    refine wpQuiet_nil ?_;rintro w2 ⟨⟨_,hw2⟩,rfl⟩;have hL1:=hL.out;rw [LK] at hL1;dsimp only at hL1;generalize hfr:(if xa<ya then ya else xa)=fr;generalize hto:(if ya+yb<xa+xb then ya+yb else xa+xb)=te;rw [show max xa ya=fr by omega,show min (xa+xb) (ya+yb)=te by omega] at hL1;have hb1:0<=fr/\fr<=1024/\0<=te/\te<=1024:=zo;clear hfr hto;have hJ2:=hJ pre wr w2 hJs (.of_below hw2);have hM1:=ae (b1.cell 0);have hM2:=ae (b2.cell 0);obtain ⟨UW,UX⟩:=bY hw2 b1 b2;have l1b:=l1.far (.of_below hw2:ag (λ_=>False) _ _) (λ_ _ _ _ h=>h);have l2b:=l2.far (.of_below hw2:ag (λ_=>False) _ _) (λ_ _ _ _ h=>h);clear e1 e2 e3 e4 e5 e6 HE1 HE2 q1 q2 f1 f2 x1 x2 y1 y2 b1 b2 l1 l2 hJs hL h1' h2';by_cases hft:fr<te
    ·have YJ:=bU hft
     rw [if_pos hft] at hL1;have UY:=ae hL1;clear hL1;obtain ⟨fn,tmps,assign,body,hy,qc⟩:=hY (m - 1) pre (fr,te - fr) w2 hJ2 ⟨_,by rw [UY.out,List.append_assoc]⟩;clear hY
     gi_wp2_with fail
     refine qc.mono ?_;rintro e W3 (⟨rfl,hJ3,oQ⟩|⟨rfl,hJx3⟩)
     ·have b1c:=oQ.blk UW (by simpa using hK1)
      have b2c:=oQ.blk UX (by simpa using hK2);have l1c:=l1b.far oQ (λk hk _ _ h=>h hk);have l2c:=l2b.far oQ (λk hk _ _ h=>h hk);have hL3:Hid (az us vs=(pre++[(fr,te - fr)])++(if xa+xb<ya+yb then az r ((ya,yb)::s) else az ((xa,xb)::r) s)):=ae (by rw [UY.out];simp);clear UY hJ2 qc UW UX l1b l2b;have q1t:=(b1c).cell;have q2t:=(b2c).cell;have f1t:=(b1c).frozen;have f2t:=(b2c).frozen;obtain ⟨p1',o1',QT,_,OD,OE⟩:=wG (l1c).ru;obtain ⟨rfl,rfl⟩:p1=p1'/\o1=o1':=by simpa using QT
      obtain ⟨p2',o2',QU,_,OG,OH⟩:=wG (l2c).ru;obtain ⟨rfl,rfl⟩:p2=p2'/\o2=o2':=by simpa using QU
      clear QT QU;dsimp only at OD OE OG OH;have t1:=λz:Ext W3=>z.cell OD
      have t2:=λz:Ext W3=>z.cell OE
      have t3:=λz:Ext W3=>z.cell OG
      have t4:=λz:Ext W3=>z.cell OH
      have t5:=λz:Ext W3=>(z.blk b1c).cell
      have t6:=λz:Ext W3=>(z.blk b2c).cell
      have HT1:Hid (∀z:Ext W3,Calls prog 90 #[.agg #[zI xa,zI xb]] z.w λe w''=>e= .returned (zI (xa+xb))/\∃t:Ext W3,w''=t.w):=ae (λz=>Ext.call (iJ xa xb _ zo zo));have HT2:Hid (∀z:Ext W3,Calls prog 90 #[.agg #[zI ya,zI yb]] z.w λe w''=>e= .returned (zI (ya+yb))/\∃t:Ext W3,w''=t.w):=ae (λz=>Ext.call (iJ ya yb _ zo zo));by_cases hlt:xa+xb<ya+yb
      ·have hlt':=bU hlt
       have hLz:Hid (az us vs=(pre++[(fr,te - fr)])++az r ((ya,yb)::s)):=ae ((hL3.out).trans (by rw [if_pos hlt]));clear hlt
       gi_upto_region 3 with fail
       refine wpIn_wide.2 ?_;refine aD zk zk ?_
       repeat (go_big_quiet_step ((go_at_call 90;first|exact HT1.out _|exact HT2.out _)))
       refine wpQuiet_nil ?_;rintro w5 ⟨⟨_,nL⟩,rfl⟩;have xE:=(b1c).call nL;have xG:=(b2c).call nL;have Dz:=(l1c).far (.of_below nL:ag (λ_=>False) _ _) (λ_ _ _ _ h=>h);have DC:=(l2c).far (.of_below nL:ag (λ_=>False) _ _) (λ_ _ _ _ h=>h);have LV:=hJ (pre++[(fr,te - fr)]) W3 w5 hJ3 (.of_below nL);obtain ⟨q1z,q2z⟩:=bB xE xG;obtain ⟨f1z,f2z⟩:=tu xE xG;clear t1 t2 t3 t4 t5 t6 HT1 HT2 q1t q2t f1t f2t OD OE OG OH;have hne1:=(Dz.own zs p1 o1 rfl);have hne2:=(DC.own zs p2 o2 rfl);obtain ⟨q,hq⟩:=tail_at Dz.ru (d:=d1) (by have:=Dz.cap;omega);have QV:=ae hq.1;have hqr:=hq.2;clear hq
       gi_wp2_with fail
       rw [QV.out];have hfz:ag (λk=>k=B1\/k=B2) w5 (w5.setCell ⟨B1,0,none⟩ (.slice (some ⟨p1,q,none⟩) (m1 - 1) (d1 - 1))):=ag.setCell (.refl _ _) (λ_=>.inl rfl) _;go_roundw
       case rel =>
        refine ⟨r,(ya,yb)::s,(pre++[(fr,te - fr)]),some ⟨p1,q,none⟩,some ⟨p2,o2,none⟩,m1 - 1,m2,d1 - 1,d2,xE.aM 0 _,xG.far (p:=⟨B1,0,none⟩) (λh=>hne h.symm) _,?_,DC.far hfz (λk _ h1 h2 h=>h.elim h1 h2),hJ _ _ _ LV hfz,hLz⟩;exact ain
       case measure=>rw [(xE.aM 0 (.slice (some ⟨p1,q,none⟩) (m1 - 1) (d1 - 1))).cell 0,(xG.far (p:=⟨B1,0,none⟩) (λh=>hne h.symm) (.slice (some ⟨p1,q,none⟩) (m1 - 1) (d1 - 1))).cell 0,hM1.out,hM2.out];simp [lenOf];omega
      ·have hlt':=bV hlt
       have hLz:Hid (az us vs=(pre++[(fr,te - fr)])++az ((xa,xb)::r) s):=ae ((hL3.out).trans (by rw [if_neg hlt]));clear hlt
       gi_upto_region 3 with fail
       refine wpIn_wide.2 ?_;refine aD zk zk ?_
       repeat (go_big_quiet_step ((go_at_call 90;first|exact HT1.out _|exact HT2.out _)))
       refine wpQuiet_nil ?_;rintro w5 ⟨⟨_,nL⟩,rfl⟩;have xE:=(b1c).call nL;have xG:=(b2c).call nL;have Dz:=(l1c).far (.of_below nL:ag (λ_=>False) _ _) (λ_ _ _ _ h=>h);have DC:=(l2c).far (.of_below nL:ag (λ_=>False) _ _) (λ_ _ _ _ h=>h);have LV:=hJ (pre++[(fr,te - fr)]) W3 w5 hJ3 (.of_below nL);obtain ⟨q1z,q2z⟩:=bB xE xG;obtain ⟨f1z,f2z⟩:=tu xE xG;clear t1 t2 t3 t4 t5 t6 HT1 HT2 q1t q2t f1t f2t OD OE OG OH;have hne1:=(Dz.own zs p1 o1 rfl);have hne2:=(DC.own zs p2 o2 rfl);obtain ⟨q,hq⟩:=tail_at DC.ru (d:=d2) (by have:=DC.cap;omega);have QV:=ae hq.1;have hqr:=hq.2;clear hq
       gi_wp2_with fail
       rw [QV.out];have hfz:ag (λk=>k=B1\/k=B2) w5 (w5.setCell ⟨B2,0,none⟩ (.slice (some ⟨p2,q,none⟩) (m2 - 1) (d2 - 1))):=ag.setCell (.refl _ _) (λ_=>.inr rfl) _;go_roundw
       case rel =>
        refine ⟨(xa,xb)::r,s,(pre++[(fr,te - fr)]),some ⟨p1,o1,none⟩,some ⟨p2,q,none⟩,m1,m2 - 1,d1,d2 - 1,xE.far (p:=⟨B2,0,none⟩) hne _,xG.aM 0 _,Dz.far hfz (λk _ h1 h2 h=>h.elim h1 h2),?_,hJ _ _ _ LV hfz,hLz⟩;exact aio
       case measure=>rw [(xE.far (p:=⟨B2,0,none⟩) hne (.slice (some ⟨p2,q,none⟩) (m2 - 1) (d2 - 1))).cell 0,(xG.aM 0 (.slice (some ⟨p2,q,none⟩) (m2 - 1) (d2 - 1))).cell 0,hM1.out,hM2.out];simp [lenOf];omega
     ·gi_wp2_with fail
      refine bodyPost_ret (results_none rfl _ _ _) rfl ?_;exact ⟨⟨_,rfl⟩,.inr ⟨pre++[(fr,te - fr)],⟨_,by rw [UY.out,List.append_assoc]⟩,hJx3⟩⟩
    ·have YJ:=bV hft
     rw [if_neg hft,List.nil_append] at hL1;have UY:=ae hL1;clear hL1;have q1t:=(UW).cell;have q2t:=(UX).cell;have f1t:=(UW).frozen;have f2t:=(UX).frozen;obtain ⟨p1',o1',QT,_,OD,OE⟩:=wG (l1b).ru;obtain ⟨rfl,rfl⟩:p1=p1'/\o1=o1':=by simpa using QT
     obtain ⟨p2',o2',QU,_,OG,OH⟩:=wG (l2b).ru;obtain ⟨rfl,rfl⟩:p2=p2'/\o2=o2':=by simpa using QU
     clear QT QU;dsimp only at OD OE OG OH;have t1:=λz:Ext w2=>z.cell OD
     have t2:=λz:Ext w2=>z.cell OE
     have t3:=λz:Ext w2=>z.cell OG
     have t4:=λz:Ext w2=>z.cell OH
     have t5:=λz:Ext w2=>(z.blk UW).cell
     have t6:=λz:Ext w2=>(z.blk UX).cell
     have HT1:Hid (∀z:Ext w2,Calls prog 90 #[.agg #[zI xa,zI xb]] z.w λe w''=>e= .returned (zI (xa+xb))/\∃t:Ext w2,w''=t.w):=ae (λz=>Ext.call (iJ xa xb _ zo zo));have HT2:Hid (∀z:Ext w2,Calls prog 90 #[.agg #[zI ya,zI yb]] z.w λe w''=>e= .returned (zI (ya+yb))/\∃t:Ext w2,w''=t.w):=ae (λz=>Ext.call (iJ ya yb _ zo zo));by_cases hlt:xa+xb<ya+yb
     ·have hlt':=bU hlt
      have hLz:Hid (az us vs=pre++az r ((ya,yb)::s)):=ae ((UY.out).trans (by rw [if_pos hlt]));clear hlt
      gi_upto_region 3 with fail
      refine wpIn_wide.2 ?_;refine aD zk zk ?_
      repeat (go_big_quiet_step ((go_at_call 90;first|exact HT1.out _|exact HT2.out _)))
      refine wpQuiet_nil ?_;rintro w5 ⟨⟨_,nL⟩,rfl⟩;have xE:=(UW).call nL;have xG:=(UX).call nL;have Dz:=(l1b).far (.of_below nL:ag (λ_=>False) _ _) (λ_ _ _ _ h=>h);have DC:=(l2b).far (.of_below nL:ag (λ_=>False) _ _) (λ_ _ _ _ h=>h);have LV:=hJ pre w2 w5 hJ2 (.of_below nL);obtain ⟨q1z,q2z⟩:=bB xE xG;obtain ⟨f1z,f2z⟩:=tu xE xG;clear t1 t2 t3 t4 t5 t6 HT1 HT2 q1t q2t f1t f2t OD OE OG OH;have hne1:=(Dz.own zs p1 o1 rfl);have hne2:=(DC.own zs p2 o2 rfl);obtain ⟨q,hq⟩:=tail_at Dz.ru (d:=d1) (by have:=Dz.cap;omega);have QV:=ae hq.1;have hqr:=hq.2;clear hq
      gi_wp2_with fail
      rw [QV.out];have hfz:ag (λk=>k=B1\/k=B2) w5 (w5.setCell ⟨B1,0,none⟩ (.slice (some ⟨p1,q,none⟩) (m1 - 1) (d1 - 1))):=ag.setCell (.refl _ _) (λ_=>.inl rfl) _;go_roundw
      case rel =>
       refine ⟨r,(ya,yb)::s,pre,some ⟨p1,q,none⟩,some ⟨p2,o2,none⟩,m1 - 1,m2,d1 - 1,d2,xE.aM 0 _,xG.far (p:=⟨B1,0,none⟩) (λh=>hne h.symm) _,?_,DC.far hfz (λk _ h1 h2 h=>h.elim h1 h2),hJ _ _ _ LV hfz,hLz⟩;exact ain
      case measure=>rw [(xE.aM 0 (.slice (some ⟨p1,q,none⟩) (m1 - 1) (d1 - 1))).cell 0,(xG.far (p:=⟨B1,0,none⟩) (λh=>hne h.symm) (.slice (some ⟨p1,q,none⟩) (m1 - 1) (d1 - 1))).cell 0,hM1.out,hM2.out];simp [lenOf];omega
     ·have hlt':=bV hlt
      have hLz:Hid (az us vs=pre++az ((xa,xb)::r) s):=ae ((UY.out).trans (by rw [if_neg hlt]));clear hlt
      gi_upto_region 3 with fail
      refine wpIn_wide.2 ?_;refine aD zk zk ?_
      repeat (go_big_quiet_step ((go_at_call 90;first|exact HT1.out _|exact HT2.out _)))
      refine wpQuiet_nil ?_;rintro w5 ⟨⟨_,nL⟩,rfl⟩;have xE:=(UW).call nL;have xG:=(UX).call nL;have Dz:=(l1b).far (.of_below nL:ag (λ_=>False) _ _) (λ_ _ _ _ h=>h);have DC:=(l2b).far (.of_below nL:ag (λ_=>False) _ _) (λ_ _ _ _ h=>h);have LV:=hJ pre w2 w5 hJ2 (.of_below nL);obtain ⟨q1z,q2z⟩:=bB xE xG;obtain ⟨f1z,f2z⟩:=tu xE xG;clear t1 t2 t3 t4 t5 t6 HT1 HT2 q1t q2t f1t f2t OD OE OG OH;have hne1:=(Dz.own zs p1 o1 rfl);have hne2:=(DC.own zs p2 o2 rfl);obtain ⟨q,hq⟩:=tail_at DC.ru (d:=d2) (by have:=DC.cap;omega);have QV:=ae hq.1;have hqr:=hq.2;clear hq
      gi_wp2_with fail
      rw [QV.out];have hfz:ag (λk=>k=B1\/k=B2) w5 (w5.setCell ⟨B2,0,none⟩ (.slice (some ⟨p2,q,none⟩) (m2 - 1) (d2 - 1))):=ag.setCell (.refl _ _) (λ_=>.inr rfl) _;go_roundw
      case rel =>
       refine ⟨(xa,xb)::r,s,pre,some ⟨p1,o1,none⟩,some ⟨p2,q,none⟩,m1,m2 - 1,d1,d2 - 1,xE.far (p:=⟨B2,0,none⟩) hne _,xG.aM 0 _,Dz.far hfz (λk _ h1 h2 h=>h.elim h1 h2),?_,hJ _ _ _ LV hfz,hLz⟩;exact aio
      case measure=>rw [(xE.far (p:=⟨B2,0,none⟩) hne (.slice (some ⟨p2,q,none⟩) (m2 - 1) (d2 - 1))).cell 0,(xG.aM 0 (.slice (some ⟨p2,q,none⟩) (m2 - 1) (d2 - 1))).cell 0,hM1.out,hM2.out];simp [lenOf];omega
open Go.Shelf
theorem DD:∀args w,(callFunc 204 args).run prog w= .ok (.enter 204 args) w:=enters_of func204 zk rfl
theorem Ng (b:Nat) (n:Int) (w:World):Calls prog 181 #[zP b,zI n] w λe w' =>
  e= .returned (.func (.func 204) #[] #[zP w.heap.size,zP (w.heap.size+1)])/\w'=(w.alloc (.cells #[zP b] 43)).alloc (.cells #[zI n] 3):=by
 go_enter func181,ntmps181;go_wp2_with fail;go_ret;exact ⟨rfl,rfl⟩
theorem IW (b n len B1 B2:Nat) (w:World) (hn:n<len) (hne:B1≠B2) (hbl:b≠B2) (k1:af w B1 43 #[zP b]) (k2:af w B2 3 #[zI n]) :
  aic prog 204 #[zP B1,zP B2] (λi:Nat=>#[zI i]) (λk=>k=B2) (λk=>k=B1\/k=B2) (ab0 b len) (jB n) w:=by
 intro m l J Jx W hW hI hJ hJx hY h0;have kB1:=hW.blk k1 zs;have kB2:=hW.blk k2 zs;refine callsIn_of_wp func204 rfl trivial ?_ rfl;simp only [ntmps204,List.size_toArray,List.length_cons,List.length_nil,Nat.reduceAdd,Nat.reduceSub,Array.replicate_succ,Array.replicate_zero,List.push_toArray,List.append_toArray,List.nil_append,List.cons_append]
 gi_wp2_with fail
 gi_loopw [4] (λ_ wr=>∃j:Nat,j<=n+1/\af wr B1 43 #[zP b]/\af wr B2 3 #[zI ((j:Int) - 1)]/\J ((jB n).take (n+1 - j)) wr) (λ_ wr=>match wr.cell? ⟨B2,0,none⟩ with|some v=>((intOf v)+1).toNat|none=>0)
 case atStart=>exact ⟨n+1,zo,kB1,by rw [show ((n+1:Nat):Int) - 1=(n:Int) by omega];exact kB2,by simpa using h0⟩
 case round =>
  obtain ⟨j,hj,kB1,kB2,hJs⟩:=hrel;obtain ⟨L,hB,hO,hLl⟩:=hI _ _ hJs;obtain ⟨q1,q2⟩:=bB kB1 kB2;have hm2:=ae (kB2.cell 0);by_cases hz:j=0
  ·subst hz
   have HO:=ae (xC b (-1) L wr hB hO);rw [show decide ((0:Int)<=-1/\(-1:Int)<(L.length:Int))=false by simp] at HO;rw [show ((0:Nat):Int) - 1 = -1 by omega] at q2;have hJe:Hid (J (jB n) wr):=ae (by rw [show (jB n).take (n+1 - 0)=jB n from List.take_of_length_le (by unfold jB;simp)] at hJs;exact hJs)
   gi_wp2_with (gi_at_call 149;refine (callsIn_wide.2 HO.out).mono ?_;rintro e w2 ⟨rfl,hw2⟩;replace hw2:=hw2.symm;subst hw2)
   go_end0
   exact ⟨⟨_,rfl⟩,.inl hJe.out⟩
  ·obtain ⟨q,rfl⟩:∃q,j=q+1:=⟨j - 1,zo⟩
   rw [show ((q+1:Nat):Int) - 1=(q:Int) by omega] at q2;have HO:=ae (xC b (q:Int) L wr hB hO);rw [show decide ((0:Int)<=(q:Int)/\(q:Int)<(L.length:Int))=true by simp;omega] at HO;have hpre:(jB n).take (n+1 - (q+1))++[q]=(jB n).take (n+1 - q):=by
    have:=UZ n q zo;rw [show n+1 - (q+1)=n - q by omega,show n+1 - q=n - q+1 by omega];exact this
   obtain ⟨fn,tmps,assign,body,hy,qc⟩:=hY (m - 1) _ q wr hJs (by rw [hpre];exact List.take_prefix _ _)
   gi_wp2_with (gi_at_call 149;refine (callsIn_wide.2 HO.out).mono ?_;rintro e w2 ⟨rfl,hw2⟩;replace hw2:=hw2.symm;subst hw2)
   refine qc.mono ?_;rintro e W3 (⟨rfl,hJ3,oQ⟩|⟨rfl,hJx3⟩)
   ·have b1:=oQ.blk kB1 zs
    have b2:=oQ.blk kB2 zs;obtain ⟨L3,hB3,hO3,hL3⟩:=hI _ _ hJ3;have hq3:q<L3.length:=zo;obtain ⟨g,cap2,hc1,hc2,kb,hg,hgl,hcell,hfz⟩:=hB3.node hO3.pos;have c0:=hcell q hq3 0 _ rfl;rw [(hO3.chain q hq3).2,Nat.add_zero] at c0;have e1:=λz:Ext W3=>(z.blk b1).cell
    have e2:=λz:Ext W3=>(z.blk b2).cell
    have e3:=λz:Ext W3=>(z.blk kb).cell
    have e4:=λz:Ext W3=>z.cell c0
    have hqm:(q:Int)<(L3.length:Int):=zo;rw [hpre] at hJ3;have aof:=ae hJ3;have awW:=ae hB3;have hne':¬b=B2:=hbl;clear hO q1 q2 hB qc hJs hpre HO hcell hJ3 hB3 kB1 kB2;generalize L3.length=ml at *
    gi_upto_region 1 with fail
    refine wpIn_wide.2 ?_;refine df 9 zk zk ?_;simp only [List.take_succ_cons,List.take_zero,List.drop_succ_cons,List.drop_zero]
    repeat (go_big_quiet_step (fail))
    refine wpQuiet_nil ?_;intro z;have b1z:=(ag.of_below z.le:ag (λ_=>False) _ _).blk b1 id;have b2z:=(ag.of_below z.le:ag (λ_=>False) _ _).blk b2 id;have LV:=hJ _ _ z.w aof.out (ag.of_below z.le);have f2:=b2z.frozen;have c2:=b2z.cell;have F4:ag (λk=>k=B2) z.w (z.w.setCell ⟨B2,0,none⟩ (zI ((q:Int) - 1))):=ag.setCell (T:=λk=>k=B2) (p:=⟨B2,0,none⟩) (ag.refl _ _) (λ_=>rfl) _;have k14:=F4.blk b1z hne;have k24:=b2z.aM 0 (zI ((q:Int) - 1));have DF:=hJ _ _ _ LV F4;have hfin:=ae (And.intro k14 (And.intro k24 DF));clear e1 e2 e3 e4 b1z k14 k24 DF F4 LV b1 b2;go_wp2_with fail;refine ⟨⟨q,zo,hfin.out.1,hfin.out.2.1,hfin.out.2.2⟩,?_⟩;have h1:(z.w.setCell ⟨B2,0,none⟩ (zI ((q:Int) - 1))).cell? ⟨B2,0,none⟩=some (zI ((q:Int) - 1)):=by have:=hfin.out.2.1.cell 0;simpa using this
    have h2:wr.cell? ⟨B2,0,none⟩=some (zI (((q+1:Nat):Int) - 1)):=by have:=hm2.out;simpa using this
    rw [h1,h2];simp only [intOf];omega
   ·have hpr:(jB n).take (n+1 - (q+1))++[q] <+: jB n:=by rw [hpre];exact List.take_prefix _ _
    gi_wp2_with fail
    go_end0
    exact ⟨⟨_,rfl⟩,.inr ⟨_,hpr,hJx3⟩⟩
theorem su (n a b:Int) (w:World) :
  Calls prog 187 #[zI n,zI a,zI b] w λe w'=>e= .returned (.bool (!(decide (a<=n)&&decide (n<=b))))/\w=w':=by
 by_cases h:n<a
 ·have h':=bU h
  have h2:decide (a<=n)=false:=by simpa using h
  go_enter func187,ntmps187
  go_wp2
  go_ret;simp [h2]
 ·have h':=bV h
  have h2:decide (a<=n)=true:=by simpa using h
  go_enter func187,ntmps187
  go_wp2
  go_ret;simp;rw [Bool.eq_iff_iff];simp
theorem U1 {P:Prop} (h:P:=by
 go_ret;exact ⟨jF (by rw [hR.out];rfl),hb0⟩):P:=h
theorem QX (f b ev:Int) (w:World) :
  zK 151 #[.agg #[zI f,zI b,zI ev]] w (.bool (kL f b ev)):=by
 have hb0:=aQ w (.cells #[zI f,zI b,zI ev] 23);have HO:=ae (λ(n a b:Int) W=>su n a b W);obtain ⟨c1,hc1⟩:∃c,(!(decide (0<=f)&&decide (f<=16)))=c:=⟨_,rfl⟩;obtain ⟨c2,hc2⟩:∃c,(!(decide (0<=b)&&decide (b<=16)))=c:=⟨_,rfl⟩;obtain ⟨c3,hc3⟩:∃c,(!(decide (0<=ev)&&decide (ev<=1024)))=c:=⟨_,rfl⟩;have hR:Hid (kL f b ev=(c1||(c2||c3))):=ae (by rw [<-hc1,<-hc2,<-hc3];unfold kL;cases decide (0<=f) <;> cases decide (f<=16) <;> cases decide (0<=b) <;> cases decide (b<=16) <;> rfl);have H1:=ae (λW=>su f 0 16 W);have H2:=ae (λW=>su b 0 16 W);have H3:=ae (λW=>su ev 0 1024 W);rw [hc1] at H1;rw [hc2] at H2;rw [hc3] at H3;clear hc1 hc2 hc3;cases c1 with
 | true =>
  go_enter func151,ntmps151
  go_wp2_with (go_at_call 187;refine (H1.out _).mono ?_;rintro e w' ⟨rfl,rfl⟩)
  exact U1
 | false =>
  cases c2 with
  | true =>
   go_enter func151,ntmps151
   go_wp2_with (go_at_call 187;first|(refine (H1.out _).mono ?_;clear H1;rintro e w' ⟨rfl,rfl⟩)|(refine (H2.out _).mono ?_;rintro e w' ⟨rfl,rfl⟩))
   exact U1
  | false =>
   go_enter func151,ntmps151
   go_wp2_with (go_at_call 187;first|(refine (H1.out _).mono ?_;clear H1;rintro e w' ⟨rfl,rfl⟩)|(refine (H2.out _).mono ?_;clear H2;rintro e w' ⟨rfl,rfl⟩)|(refine (H3.out _).mono ?_;rintro e w' ⟨rfl,rfl⟩))
   exact U1
theorem ab1 {P:Prop} (h:P:=by
 have hs':=bV qN;go_enter func155,ntmps155
 go_wp2
 go_ret;exact ⟨jF (by rw [hR.out];simp [*]),hb0⟩):P:=h
theorem ab2 {P:Prop} (h:P:=by
 have hs':=bV hsb;go_enter func155,ntmps155
 go_wp2
 go_ret;exact ⟨jF (by rw [hR.out];simp [*]),hb0⟩):P:=h
theorem ab3 {P:Prop} (h:P:=by
 go_enter func155,ntmps155
 go_wp2
 go_ret;exact ⟨jF (by rw [hR.out];simp [*]),hb0⟩):P:=h
theorem U2 (f b ev:Int) (w:World) :
  zK 155 #[.agg #[zI f,zI b,zI ev]] w (.bool (!kL f b ev)):=by
 have hb0:=aQ w (.cells #[zI f,zI b,zI ev] 23);have hR:Hid ((!kL f b ev)=(decide (0<=f)&&decide (f<=16)&&decide (0<=b)&&decide (b<=16)&&decide (0<=ev)&&decide (ev<=1024))):=ae (by unfold kL;rw [Bool.not_not]);by_cases qN:0<=f
 case neg =>
  exact ab1
 have ab4:=bU qN;by_cases qN:f<=16
 case neg =>
  exact ab1
 have ab4:=bU qN;by_cases hsb:0<=b
 case neg =>
  exact ab2
 have aoh:=bU hsb;by_cases hsb:b<=16
 case neg =>
  exact ab2
 have aoh:=bU hsb;by_cases aip:0<=ev
 case neg =>
  have hs':=bV aip;exact ab3
 have aub:=bU aip;exact ab3
theorem aiq {P:Prop} (h:P:=by
 clear hn;go_enter func86,ntmps86
 go_wp2_with (first
  | (go_at_call 26;refine (HC.out).mono ?_;rintro e w1 ⟨rfl,hq⟩;have k2:=k1.call hq;have c2:=k2.cell)
  | (go_at_call 151;refine (HW.out _).mono ?_;rintro e w3 ⟨rfl,hq3⟩;have k3:=k2.call hq3;have c3:=k3.cell))
 go_ret;have hb2:=hb1.zt hq;exact ⟨eT hE.out.symm,hb2.zt hq3⟩):P:=h
theorem vg (pg n f b ev:Int) (w:World) :
  zK 86 #[ek pg n f b ev] w (zI (bQ pg n f b ev)):=by
 obtain ⟨R,hR0⟩:∃R:Int,bQ pg n f b ev=R:=⟨_,rfl⟩;rw [hR0];have hR:=ae hR0;clear hR0;have hb0:=aQ w (.cells (bg pg n f b ev) 25);have k0:=af.new w 25 (bg pg n f b ev);have hb1:=hb0.alloc hb0.size (.cells #[zI pg,zI n] 85);have k1:=k0.alloc (.cells #[zI pg,zI n] 85);have kS:=af.new (w.alloc (.cells (bg pg n f b ev) 25)) 85 #[zI pg,zI n];rw [World.size_alloc] at kS;have HC:=ae (gM (some ⟨w.heap.size+1,0,none⟩) 1 1 [(pg,n)] _ rfl (by unfold maxLen;omega) (QW kS));rw [ZR] at HC;by_cases hv:bF (pg,n)=true
 case neg =>
  rw [if_neg hv] at HC;have hE:Hid (R=7):=ae (by rw [<-hR.out,bQ,if_pos (.inl (by simpa using hv))]);clear hv hR;go_enter func86,ntmps86
  go_wp2_with (go_at_call 26;refine (HC.out).mono ?_;rintro e w1 ⟨rfl,hq⟩;have k2:=k1.call hq;have c2:=k2.cell)
  go_ret;exact ⟨eT hE.out.symm,hb1.zt hq⟩
 case pos =>
  rw [if_pos hv] at HC;have HW:=ae (λW=>QX f b ev W);cases hw:kL f b ev with
  | true =>
   rw [hw] at HW;have hE:Hid (R=7):=ae (by rw [<-hR.out,bQ,if_pos (.inr hw)]);clear hv hR hw;go_enter func86,ntmps86
   go_wp2_with (first
    | (go_at_call 26;refine (HC.out).mono ?_;rintro e w1 ⟨rfl,hq⟩;have k2:=k1.call hq;have c2:=k2.cell)
    | (go_at_call 151;refine (HW.out _).mono ?_;rintro e w3 ⟨rfl,hq3⟩))
   go_ret;have hb2:=hb1.zt hq;exact ⟨eT hE.out.symm,hb2.zt hq3⟩
  | false =>
   rw [hw] at HW;have hE:Hid (R=if n<=f+b then 4 else 0):=ae (by rw [<-hR.out,bQ,if_neg (by simp [hv,hw])]);have hv':=av.1 hv;have hw':=ve.1 hw;dsimp only at hv';clear hv hR hw;by_cases hn:n<=f+b
   ·have hn':=bU hn
    rw [if_pos hn] at hE;exact aiq
   ·have hn':=bV hn
    rw [if_neg hn] at hE;exact aiq
theorem air {P:Prop} (h:P:=by
 clear hn;go_enter func91,ntmps91
 go_wp2_with (first
  | (go_at_call 93;refine (HC.out _).mono ?_;rintro e w1 ⟨rfl,hq⟩;have k2:=k1.call hq;have c2:=k2.cell)
  | (go_at_call 155;refine (HW.out _).mono ?_;rintro e w3 ⟨rfl,hq3⟩;have k3:=k2.call hq3;have c3:=k3.cell))
 go_ret;have hb2:=hb1.zt hq;exact ⟨eT hE.out.symm,hb2.zt hq3⟩):P:=h
theorem oU (pg n f b ev:Int) (w:World) :
  zK 91 #[ek pg n f b ev] w (zI (bQ pg n f b ev)):=by
 obtain ⟨R,hR0⟩:∃R:Int,bQ pg n f b ev=R:=⟨_,rfl⟩;rw [hR0];have hR:=ae hR0;clear hR0;have hb1:=aQ w (.cells (bg pg n f b ev) 25);have k1:=af.new w 25 (bg pg n f b ev);have HC:=ae (λW=>Cu pg n W);by_cases hv:bF (pg,n)=true
 case neg =>
  have hv':=QE hv;rw [hv'] at HC;have hE:Hid (R=7):=ae (by rw [<-hR.out,bQ,if_pos (.inl (by simpa using hv))]);clear hv hR hv';go_enter func91,ntmps91
  go_wp2_with (go_at_call 93;refine (HC.out _).mono ?_;rintro e w1 ⟨rfl,hq⟩;have k2:=k1.call hq;have c2:=k2.cell)
  go_ret;exact ⟨eT hE.out.symm,hb1.zt hq⟩
 case pos =>
  rw [hv] at HC;have HW:=ae (λW=>U2 f b ev W);cases hw:kL f b ev with
  | true =>
   rw [hw] at HW;have hE:Hid (R=7):=ae (by rw [<-hR.out,bQ,if_pos (.inr hw)]);clear hv hR hw;go_enter func91,ntmps91
   go_wp2_with (first
    | (go_at_call 93;refine (HC.out _).mono ?_;rintro e w1 ⟨rfl,hq⟩;have k2:=k1.call hq;have c2:=k2.cell)
    | (go_at_call 155;refine (HW.out _).mono ?_;rintro e w3 ⟨rfl,hq3⟩))
   go_ret;have hb2:=hb1.zt hq;exact ⟨eT hE.out.symm,hb2.zt hq3⟩
  | false =>
   rw [hw] at HW;have hE:Hid (R=if n<=f+b then 4 else 0):=ae (by rw [<-hR.out,bQ,if_neg (by simp [hv,hw])]);have hv':=av.1 hv;have hw':=ve.1 hw;dsimp only at hv';clear hv hR hw;by_cases hn:n<=f+b
   ·have hn':=bU hn
    rw [if_pos hn] at hE;exact air
   ·have hn':=bV hn
    rw [if_neg hn] at hE;exact air
theorem ab5 {P:Prop} (h:P:=by
 clear a1 hE b4;go_enter func188,ntmps188;go_wp2_with fail;go_ret;exact ⟨eT hE2.out.symm,hb1⟩):P:=h
theorem ab6 {P:Prop} (h:P:=by
 clear a1;go_enter func188,ntmps188;go_wp2_with fail;go_ret;exact ⟨eT hE.out.symm,hb1⟩):P:=h
theorem ab7 {P:Prop} (h:P:=by
 go_enter func188,ntmps188;go_wp2_with fail;go_ret;exact ⟨eT hE.out.symm,hb1⟩):P:=h
theorem ZT (pg n f b ev page:Int) (w:World) (hp:dO pg n f b ev) (h0:0<=page) (h1:page<=2000) :
  zK 188 #[ek pg n f b ev,zI page] w (zI (tN pg n f b ev page)):=by
 obtain ⟨R,hR0⟩:∃R:Int,tN pg n f b ev page=R:=⟨_,rfl⟩;rw [hR0];have hR:=ae hR0;clear hR0;obtain ⟨p1,p2,p3,p4,p5,p6,p7,p8,p9,p10,p11⟩:=hp;have hb1:=aQ w (.cells (bg pg n f b ev) 25);have k1:=af.new w 25 (bg pg n f b ev);have c1:=k1.cell;by_cases a1:page - pg<0\/n<=page - pg
 ·have hE:Hid (R=4):=ae (by rw [<-hR.out,tN,if_pos a1])
  by_cases a2:page - pg<0
  ·have a2':=bU a2
   exact ab7
  ·have a2':=bV a2
   have a3':decide (n<=page - pg)=true:=by simp;omega
   exact ab7
 ·have a2':decide (page - pg<0)=false:=by simp;omega
  have a3':decide (n<=page - pg)=false:=by simp;omega
  have a4:0<=page - pg/\page - pg<n:=zo;by_cases b1:page - pg<f
  ·have hE:Hid (R=1):=ae (by rw [<-hR.out,tN,if_neg a1,if_pos b1])
   have b1':=bU b1;exact ab6
  ·have b1':=bV b1
   by_cases b2:n - b<=page - pg
   ·have hE:Hid (R=2):=ae (by rw [<-hR.out,tN,if_neg a1,if_neg b1,if_pos b2])
    have b2':=bU b2;exact ab6
   ·have b2':=bV b2
    have hE:Hid (R=if 0<ev/\(page - pg - f+1) % (ev+1)=0 then 3 else 0):=ae (by rw [<-hR.out,tN,if_neg a1,if_neg b1,if_neg b2]);by_cases b3:0<ev
    ·have b3':=bU b3
     have hm:Int.tmod (page - pg - f+1) (ev+1)=(page - pg - f+1) % (ev+1):=Int.tmod_eq_emod_of_nonneg zo;by_cases b4:(page - pg - f+1) % (ev+1)=0
     ·have b4':=Hd b4
      have hE2:Hid (R=3):=ae (by rw [hE.out,if_pos ⟨b3,b4⟩]);exact ab5
     ·have b4':=lV b4
      have hE2:Hid (R=0):=ae (by rw [hE.out,if_neg (λh=>b4 h.2)]);exact ab5
    ·have b3':=bV b3
     have hE2:Hid (R=0):=ae (by rw [hE.out,if_neg (λh=>b3 h.1)]);clear a1 hE;go_enter func188,ntmps188;go_wp2_with fail;go_ret;exact ⟨eT hE2.out.symm,hb1⟩
theorem AP (pg n f b ev:Int) (w:World) :
  Calls prog 87 #[ek pg n f b ev] w λe w'=>e= .returned (.func (.func 152) #[] #[zP w.heap.size])/\w'=w.alloc (.cells (bg pg n f b ev) 25):=by
 go_enter func87,ntmps87
 go_wp2
 go_ret;exact ⟨rfl,rfl⟩
theorem ze (A1 A2:Option Addr) (n1 c1 n2 c2:Nat) (w:World) :
  Calls prog 141 #[.slice A1 n1 c1,.slice A2 n2 c2] w λe w'=>e= .returned (.func (.func 179) #[] #[zP w.heap.size,zP (w.heap.size+1)]) /\
   w'=(w.alloc (.cells #[.slice A1 n1 c1] 26)).alloc (.cells #[.slice A2 n2 c2] 26):=by
 go_enter func141,ntmps141
 go_wp2
 go_ret;exact ⟨rfl,rfl⟩
theorem agw:(prog.info? 85).map (λi=>(i.zero,i.size,i.bytes))=some (some (.agg #[zI 0,zI 0]),2,16):=zk
theorem dW:∃i0,prog.info? 85=some i0/\i0.zero=some (.agg #[zI 0,zI 0])/\i0.size=2/\i0.bytes=16:=by
 obtain ⟨i0,h⟩:=info_parts agw;exact ⟨i0,h⟩
theorem IX (g:Nat) (lb:Array Value) (T K:Nat->Prop) (xs:List Sp) (w:World) (hxs:xs.length<=1000000)
  (hseq:yR prog g lb ZQ T K xs w) (eg:∀args w,(callFunc g args).run prog w= .ok (.enter g args) w) (hT:∀k,T k->k<w.heap.size) (hK:∀k,K k->k<w.heap.size) :
  Calls prog 171 #[zN,.func (.func g) #[] lb] w λe w'=>∃v,e= .returned v/\w'.ownsRow w.heap.size 85 2 v xs.length (ax xs)/\(v = zN↔xs=[])/\ag T w w':=by
 obtain ⟨i0,hi,hz0,hz1,hz2⟩:=dW;refine bL func171 rfl ?_;simp only [ntmps171,List.size_toArray,List.length_cons,List.length_nil,Nat.reduceAdd,Nat.reduceSub,Array.replicate_succ,Array.replicate_zero,List.push_toArray,List.append_toArray,List.nil_append,List.cons_append];go_wp2_with fail;obtain ⟨W0,hW0⟩:=ah (w.alloc (.cells #[zN] 26));have hs0:W0.heap.size=w.heap.size+1:=by rw [<-hW0];simp
 have kB:af W0 w.heap.size 26 #[zN]:=by rw [<-hW0];exact af.new _ _ _
 have IY:ag (λ_=>False) w W0:=by rw [<-hW0];exact (ag.refl _ w).alloc _
 rw [hW0];clear hW0;refine Il (gf:=g) (lb:=lb) rfl eg (hseq.later (IY.mono λ_ _ h=>h.elim)) (λ_=>rfl) (λk h=>by have:=hT k h;omega) (λk h=>by have:=hK k h;omega)
  (λpre W=>wF W w.heap.size 26 85 (W0.heap.size+2) pre/\ag T w W) (λ_ _ _=>False)
  (λpre A B h hf=>⟨h.1.far hf (λh=>by rcases h with h|h|h;have:=hT _ h;omega;omega;omega) (λg hg h=>by rcases h with h|h|h;have:=hT _ h;omega;omega;omega),h.2.trans' hf (λi hi h=>by rcases h with h|h|h;exact h;omega;omega)⟩)
  (λ_ _ _ _ h _=>h.elim) ⟨⟨_,kB,World.ownsRow_nil _ _ _ _,zs⟩,IY.mono λ_ _ h=>h.elim⟩
  (λ_ x a' W=>∃Bx,W0.heap.size+2<=Bx/\af W Bx 85 #[zI x.1,zI x.2]/\a'={ tmps:=#[zN,.func (.func g) #[] lb,zP w.heap.size,undef,zN,zP Bx,.func (.func g) #[] lb,.agg #[zI x.1,zI x.2],undef,undef,undef,undef,undef],defers:=[] })
  (λ_ x a' A B ⟨Bx,h1,h2,h3⟩ hf=>⟨Bx,h1,hf.blk h2 zo,h3⟩) ?assign ?body ?done ?stop
 case assign =>
  intro m l x W C hs hC
  gi_wp2
  exact hC _ _ ((ag.refl _ W).alloc _) ⟨W.heap.size,hs,af.new _ _ _,rfl⟩
 case body =>
  rintro m l pre x a' _ W hs ⟨vk,hF⟩ ⟨Bx,hBx,kx,rfl⟩ hpre _ _;obtain ⟨v,hv,hrow,hnil⟩:=vk.ex;obtain ⟨cx,cv⟩:=bB kx hv;have fv:=hv.frozen;have hlen:pre.length+1<=xs.length:=by have:=hpre.length_le;simpa using this
  have kN:=af.new W 85 #[zI x.1,zI x.2]
  gi_wp2_with (gi_at_builtin;refine wpListIn_append_own _ rfl (.tmp 8) (.tmp 10) 26 rfl (W0.heap.size+2) 85 i0 (.agg #[zI 0,zI 0]) 2 16 underlying26 hi hz0 hz1 hz2 rfl zd v pre.length (ax pre) rfl (hrow.alloc _) ⟨W.heap.size,0,none⟩ 1 1 [zI x.1,zI x.2] rfl rfl (jW kN) jm (by unfold maxLen;omega) zo (by simp;omega) ?_;intro v' w1 hown' hgrow _;rw [<-eZ] at hown';obtain ⟨hv1,hb2,hf2⟩:=wF.appended hv zd hrow hown' zs zs hgrow;obtain ⟨A',cap',rfl⟩:=fF hown' zs;have cv1:=hv1.cell;have fv1:=hv1.frozen)
  exact ⟨hf2 _ (by rintro (h|h|h);have:=hK _ h;omega;omega;omega) (λg hg=>by have:=(hrow.lt g hg).1;rintro (h|h|h);have:=hK _ h;omega;omega;omega),hb2,hF.trans' (hf2 (λk=>w.heap.size<=k) (Nat.le_refl _) (λg hg=>by have:=(hrow.lt g hg).1;omega)) (λi hi h=>by omega)⟩
 case done =>
  rintro W hs ⟨vk,hF⟩ hd;obtain ⟨v,hv,hrow,hnil⟩:=vk.ex;have cv:=hv.cell;obtain ⟨A',cap',rfl⟩:=fF hrow rfl;go_wp2_with fail;have hfp:ag (λk=>k=W0.heap.size) W (W.putObj W0.heap.size (.deferred none)):=ag.putObj (T:=λk=>k=W0.heap.size) (ag.refl _ _) (λ_=>rfl) _;exact dF (v:=.slice A' xs.length cap') hd (by simp [results,results171,go_sem]) ⟨_,rfl,qC (aN hrow hfp (λg hg h=>by have:=(hrow.lt g hg).1;omega)) zo,hnil,hF.putObj (λh=>absurd h zo) _⟩
 case stop=>exact λ_ _ _ _ _ h _=>h.elim
theorem sw (g:Nat) (lb:Array Value) (T K:Nat->Prop) (xs:List Sp) (w:World) (hxs:xs.length<=1000000)
  (hseq:yR prog g lb ZQ T K xs w) (eg:∀args w,(callFunc g args).run prog w= .ok (.enter g args) w) (hT:∀k,T k->k<w.heap.size) (hK:∀k,K k->k<w.heap.size) :
  Calls prog 129 #[.func (.func g) #[] lb] w λe w'=>∃v,e= .returned v/\w'.ownsRow w.heap.size 85 2 v xs.length (ax xs)/\(v = zN↔xs=[])/\ag T w w':=by
 have HA:=ae (IX g lb T K xs w hxs hseq eg hT hK);go_enter func129,ntmps129
 go_wp2_with (go_at_call 171;refine (HA.out).mono ?_;rintro e w1 ⟨v,rfl,hown,hnil,hf⟩)
 go_ret;exact ⟨v,rfl,hown,hnil,hf⟩
theorem IZ (size en:Int):∀(k:Nat) (a:Int),(gU size en k a).length<=k
 | 0,_=>by simp [gU]
 | k+1,a=>by
  have:=IZ size en k (a+size+1);rw [gU];split
  ·simp;omega
  ·simp
theorem Cx {pg n f b ev:Int} (_:dO pg n f b ev):(ay pg n f b ev).length<=1000000:=by
 have:=IZ (if ev=0 then 1024 else ev) (pg+n - b) 1025 (pg+f);unfold ay;omega
theorem sD:∀args w,(callFunc 152 args).run prog w= .ok (.enter 152 args) w:=enters_of func152 zk rfl
theorem tO:∀args w,(callFunc 179 args).run prog w= .ok (.enter 179 args) w:=enters_of func179 zk rfl
def OI (w:World) (us:List Sp) (er:Int) (e:Ending) (w':World):Prop :=
 ∃(A:Option Addr) (cap:Nat),e= .returned (.tuple #[.slice A us.length cap,zI er])/\RU w' w'.heap.size A us/\us.length<=cap/\cap<=maxLen/\(∀b o,A=some ⟨b,o,none⟩->w.heap.size<=b)/\Below w.heap.size w w'
theorem QY (pg n f b ev:Int) (w:World) :
  Calls prog 55 #[ek pg n f b ev] w (OI w (if bQ pg n f b ev=0 then ay pg n f b ev else []) (bQ pg n f b ev)):=by
 have HC:=ae (λW=>vg pg n f b ev W);have hb0:=aQ w (.cells (bg pg n f b ev) 25);have k0:=af.new w 25 (bg pg n f b ev);have c0:=k0.cell;by_cases hc:bQ pg n f b ev=0
 ·have hp:=bR.1 hc
  rw [hc] at HC ⊢;rw [if_pos rfl];have HR:=ae (λW=>AP pg n f b ev W);go_enter func55,ntmps55
  go_wp2_with (first
   | (go_at_call 86;refine (HC.out _).mono ?_;rintro e w1 ⟨rfl,hq⟩;have k1:=k0.call hq;have c1:=k1.cell;have hb1:=hb0.zt hq)
   | (go_at_call 87;refine (HR.out _).mono ?_;rintro e w2 ⟨rfl,rfl⟩;have HS:=ae (Cw pg n f b ev w1.heap.size _ hp (af.new w1 25 (bg pg n f b ev))))
   | (go_at_call 129;refine (sw _ _ _ _ _ _ (Cx hp) HS.out sD (λ_ h=>h.elim) (λk h=>by subst h;simp)).mono ?_;rintro e w3 ⟨v,rfl,hown,_,hf⟩;obtain ⟨A,cap,rfl,dR,h1,h2,h3,_⟩:=lQ hown rfl))
  have hb2:=hb1.alloc hb1.size (.cells (bg pg n f b ev) 25);have hb3:=hf.below (n:=w.heap.size) (Nat.le_trans hb1.size zs) (λ_ _ h=>h);go_ret2;exact ⟨A,cap,rfl,dR,h1,h2,λb o e=>by have:=h3 b o e;simp at this;have:=hb1.size;omega,hb2.trans hb3⟩
 ·rw [if_neg hc]
  generalize bQ pg n f b ev=er at *;have hc':(er != 0)=true:=by simpa using hc
  clear hc;go_enter func55,ntmps55
  go_wp2_with (go_at_call 86;refine (HC.out _).mono ?_;rintro e w1 ⟨rfl,hq⟩;have k1:=k0.call hq;have c1:=k1.cell;have hb1:=hb0.zt hq)
  go_ret2;exact ⟨none,0,rfl,RU.nil,zs,by unfold maxLen;omega,λb o e=>(by cases e),hb1⟩
end Go.Proofs.YtlgcpjhimomiaaaGreat
