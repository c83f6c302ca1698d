/- Slices of spans that a call has made itself: as cells, as readings, across steps. -/
import Derived.Maps.AppendAt
import Derived.Shelf.Abstract
import Derived.OrdersHeld
import Derived.Lib.BitFns
import Derived.Lib.Strings
import Derived.Lib.Small
import Derived.Lib.Walk
import Derived.Deep.MidRow
import Derived.OrdersIn
import Derived.Test.YtjmmgoijnhnnaaaGreatR1
set_option maxRecDepth 100000
set_option maxHeartbeats 12800000
namespace Go.Pol
open Go Go.RowKit Go.Proofs.Tryz
def ax (us:List Sp):List Value:=us.flatMap fun x=>[.int .i64 x.1,.int .i64 x.2]
theorem dB (us:List Sp):(ax us).length=us.length*2:=by
 induction us with
 | nil=>rfl
 | cons x r ih=>simp only [ax,List.flatMap_cons,List.length_append,List.length_cons,List.length_nil] at ih ⊢;omega
theorem dE (us:List Sp) (x:Sp):ax (us++[x])=ax us++[.int .i64 x.1,.int .i64 x.2]:=by simp [ax]
theorem qd:∀(us:List Sp) (k:Nat),k<us.length→(ax us)[k*2]? = some (.int .i64 (us.getD k (0,0)).1)∧(ax us)[k*2+1]? = some (.int .i64 (us.getD k (0,0)).2)
 | [],k,h=>by simp at h
 | x::r,0,_=>by simp [ax]
 | x::r,k+1,h=>by
  have ih:=qd r k (by simpa using h);have e:ax (x::r)= .int .i64 x.1 :: .int .i64 x.2::ax r:=by simp [ax]
  rw [e,show (k+1)*2=k*2+1+1 by omega];simpa using ih
section
variable {T:Nat→Prop} {w w':World} {base:Nat} {e:TypeId} {size:Nat} {v:Value} {n:Nat} {xs:List Value} {us:List Sp}
theorem aK (h:w.ownsRow base e size v n xs) (hf:af T w w') (hT:∀g,v.ownBlock=some g→¬T g):w'.ownsRow base e size v n xs:=by
 refine ⟨h.1,?_⟩;rcases h.2 with hn|⟨g,cap,cur,rfl,hb,hg,rest⟩
 ·exact .inl hn
 ·exact .inr ⟨g,cap,cur,rfl,hb,hf.same hg (hT g rfl),rest⟩
theorem aB (h:w.ownsRow base e size v n xs) (hf:Below w.heap.size w w'):w'.ownsRow base e size v n xs:=aK (T:=fun _=>False) h (.of_below hf) (fun _ _ h=>h)
theorem pU {base':Nat} (h:w.ownsRow base e size v n xs) (hb:base'≤base):w.ownsRow base' e size v n xs:=by
 refine ⟨h.1,?_⟩;rcases h.2 with hn|⟨g,cap,cur,rfl,hb',rest⟩
 ·exact .inl hn
 ·exact .inr ⟨g,cap,cur,rfl,by omega,rest⟩
theorem af.grown {A B C:World} {row:Option Nat} (h:af T A B) (hg:B.grownBy C row) (hr:∀r,row=some r→r<A.heap.size→T r):af T A C :=
 ⟨hg.os.trans h.os,hg.tape.trans h.tape,hg.output.trans h.output,Nat.le_trans h.size hg.size,fun k hk hT=>(hg.block k (Nat.lt_of_lt_of_le hk h.size) (fun e=>hT (hr k e.symm hk))).trans (h.block k hk hT)⟩
theorem mU (h:w.ownsRow base e 2 v n (ax us)) (hn:us.length=n):∃(A:Option Addr) (cap:Nat),v= .slice A n cap∧RU w w.heap.size A us∧n≤cap∧cap≤maxLen∧(∀b o,A=some ⟨b,o,none⟩→base≤b)∧(us=[]∨A≠none):=by
 have hv:=h;rcases h.2 with ⟨rfl,h0⟩|⟨g,cap,cur,rfl,hg,hk,hnc,hcm,_⟩
 ·subst h0
  obtain rfl:us=[]:=List.eq_nil_of_length_eq_zero hn;exact ⟨none,0,rfl,RU.nil,Nat.le_refl _,by unfold maxLen;omega,fun b o e=>(by cases e),.inl rfl⟩
 ·refine ⟨_,cap,rfl,fun k hk'=>?_,hnc,hcm,fun b o e=>by cases e;exact hg,.inr (by simp)⟩
  have h2:=qd us k hk';have h0:=hv.cellAt (k*2) (by omega);have h1:=hv.cellAt (k*2+1) (by omega);refine ⟨g,0,rfl,ag.lt hk,?_,?_⟩
  ·rw [Nat.zero_add,h0];exact h2.1
  ·rw [Nat.zero_add,h1];exact h2.2
theorem FI {A:Option Addr} {cap m:Nat} (h:w.ownsRow base e size (.slice A n cap) m xs) (hA:A=none):cap=0:=by
 rcases h.2 with ⟨h0,_⟩|⟨g,cap',cur,h0,_⟩
 ·cases h0;rfl
 ·cases h0;cases hA
theorem ik (h:w.ownsRow base e 2 v n (ax us)) (hn:us.length=n):∃(A:Option Addr) (cap:Nat),v= .slice A n cap:=by
 obtain ⟨A,cap,hv,_⟩:=mU h hn;exact ⟨A,cap,hv⟩
theorem ag.not_row {g:Nat} {t:TypeId} {cs:Array Value} (h:ag w g t cs) (hr:w.ownsRow base e size v n xs) (hte:t≠e):v.ownBlock≠some g:=by
 rcases hr.2 with ⟨rfl,_⟩|⟨g',cap,cur,rfl,_,hgb,_⟩
 ·simp [Value.ownBlock]
 ·intro e'
  obtain rfl:g'=g:=by simpa [Value.ownBlock] using e'
  unfold ag at h;rw [h] at hgb;simp at hgb;exact hte hgb.2
theorem ja {g:Nat} {t:TypeId} {a b:Int} (h:ag w g t #[.int .i64 a,.int .i64 b]):∀(j:Nat) (u:Value),[Value.int .i64 a,Value.int .i64 b][j]? = some u→w.cell? ((⟨g,0,none⟩:Addr).add j)=some u:=by
 intro j u hu;rw [dh,Nat.zero_add];rw [h.cell];simpa using hu
theorem gQ {a b:Int}:∀u∈[Value.int .i64 a,Value.int .i64 b],u.oneCell'=true:=by
 intro u hu;simp only [List.mem_cons,List.not_mem_nil,or_false] at hu;rcases hu with rfl|rfl <;> rfl
end
structure vF (w:World) (B:Nat) (tb te:TypeId) (base:Nat) (us:List Sp):Prop where
 ex:∃v,ag w B tb #[v]∧w.ownsRow base te 2 v us.length (ax us)∧(v= .slice none 0 0↔us=[])
theorem vF.far {T:Nat→Prop} {w w':World} {B:Nat} {tb te:TypeId} {base:Nat} {us:List Sp} (h:vF w B tb te base us) (hf:af T w w') (hB:¬T B) (hT:∀g,base≤g→¬T g):vF w' B tb te base us:=by
 obtain ⟨v,h1,h2,h3⟩:=h.ex;exact ⟨v,hf.blk h1 hB,aK h2 hf (fun g hg=>hT g (h2.lt g hg).1),h3⟩
theorem vF.appended {w w1:World} {B:Nat} {tb te:TypeId} {base:Nat} {us eG:List Sp} {v v':Value} {tmp:Obj} {m:Nat} (hv:ag w B tb #[v]) (hte:tb≠te) (hrow:w.ownsRow base te 2 v us.length (ax us))
  (hown:w1.ownsRow base te 2 v' m (ax eG)) (hm:m=eG.length) (hne:eG≠[]) (hg:(w.alloc tmp).grownBy w1 v.ownBlock) :
  ag w1 B tb #[v]∧vF (w1.setCell ⟨B,0,none⟩ v') B tb te base eG∧∀(T:Nat→Prop),T B→(∀g,v.ownBlock=some g→T g)→af T w (w1.setCell ⟨B,0,none⟩ v'):=by
 subst hm;have hv1:ag w1 B tb #[v]:=(hv.alloc tmp).grown hg (fun e=>hv.not_row hrow hte e.symm);refine ⟨hv1,⟨v',by simpa using hv1.aO 0 v',?_,?_⟩,fun T hTB hT=>?_⟩
 ·have nE:af (fun k=>k=B) w1 (w1.setCell ⟨B,0,none⟩ v'):=af.setCell (T:=fun k=>k=B) (p:=⟨B,0,none⟩) (af.refl _ _) (fun _=>rfl) v'
  exact aK hown nE (fun g hg' e=>by subst e;exact hv1.not_row hown hte hg')
 ·constructor
  ·intro e
   subst e;rcases hown.2 with ⟨_,h0⟩|⟨g,cap,cur,e,_⟩
   ·exact List.eq_nil_of_length_eq_zero h0
   ·cases e
  ·intro e;exact absurd e hne
 ·have h1:af T w (w.alloc tmp):=(af.refl T w).alloc tmp
  refine (h1.grown hg (fun r e hr=>?_)).setCell (p:=⟨B,0,none⟩) (fun _=>hTB) v';exact hT r e
theorem BN {W:World} {p q:Nat} {t t':TypeId} {x y:Value} (hpq:p≠q) (k1:ag W p t #[x]) (k2:ag W q t' #[y]) (a b:Value) :
  ag ((W.setCell ⟨p,0,none⟩ a).setCell ⟨q,0,none⟩ b) p t #[a]∧ag ((W.setCell ⟨p,0,none⟩ a).setCell ⟨q,0,none⟩ b) q t' #[b] ∧
   af (fun k=>k=p∨k=q) W ((W.setCell ⟨p,0,none⟩ a).setCell ⟨q,0,none⟩ b):=by
 have h1:ag (W.setCell ⟨p,0,none⟩ a) p t #[a]:=k1.aO 0 a;have h2:ag (W.setCell ⟨p,0,none⟩ a) q t' #[y]:=k2.far (p:=⟨p,0,none⟩) (Ne.symm hpq) a;exact ⟨h1.far (p:=⟨q,0,none⟩) hpq b,h2.aO 0 b,af.setCell (T:=fun k=>k=p∨k=q) (p:=⟨q,0,none⟩) (af.setCell (T:=fun k=>k=p∨k=q) (p:=⟨p,0,none⟩) (af.refl _ _) (fun _=>.inl rfl) a) (fun _=>.inr rfl) b⟩
abbrev spA (x:Sp):Array Value:=#[.agg #[.int .i64 x.1,.int .i64 x.2]]
theorem Nn {P:Program} {g:Operand} {ps:Array Tmp} {assign body:Code} {Q:Exit→Act→World→Prop} {a:Act} {w:World} (ib pb:Nat) (tE:TypeId)
  {gf:Nat} {lb:Array Value} (hg:a.eval g= .func (.func gf) #[] lb) (eg:∀args w,(callFunc gf args).run P w= .ok (.enter gf args) w)
  {T K:Nat→Prop} {xs:List Sp} (hseq:xX P gf lb spA T K xs w) (hps:ps=#[pb])
  (hT:∀k,T k→k<w.heap.size) (hK:∀k,K k→k<w.heap.size)
  (I:List Sp→World→Prop) (Ix:Code→List Sp→World→Prop)
  (hI:∀pre A B,I pre A→af (fun k=>T k∨k=w.heap.size∨k=w.heap.size+1) A B→I pre B)
  (hIx:∀c pre A B,Ix c pre A→af (fun k=>T k∨k=w.heap.size∨k=w.heap.size+1) A B→Ix c pre B)
  (h0:I [] w)
  (hassign:∀(m l:Nat) (x:Sp) (W:World) (C:Act→World→Prop),
   C { tmps:=(a.tmps.setIfInBounds pb (.agg #[.int .i64 x.1,.int .i64 x.2])).setIfInBounds ib (.pointer (some ⟨W.heap.size,0,none⟩)),defers:=[] } (W.alloc (.cells #[.int .i64 x.1,.int .i64 x.2] tE)) →
   assign.wpIn (Fence.wide.inRound l) m P (Exit.then C (fun _ _ _=>False)) { tmps:=a.tmps.setIfInBounds pb (.agg #[.int .i64 x.1,.int .i64 x.2]),defers:=[] } W)
  (hbody:∀(m l:Nat) (pre:List Sp) (x:Sp) (Bx:Nat) (Wa W:World),w.heap.size+2≤W.heap.size→I pre W→pre++[x] <+: xs→w.heap.size+2≤Bx→ag W Bx tE #[.int .i64 x.1,.int .i64 x.2]→Wa.heap.size≤Bx→I pre Wa→af (fun k=>k=w.heap.size+1) Wa W →
   body.wpIn (Fence.wide.inRound l) m P (QA w.heap.size K I Ix (pre++[x]) W) { tmps:=(a.tmps.setIfInBounds pb (.agg #[.int .i64 x.1,.int .i64 x.2])).setIfInBounds ib (.pointer (some ⟨Bx,0,none⟩)),defers:=[] } W)
  (hdone:∀(W:World),w.heap.size+2≤W.heap.size→I xs W→W.heap[w.heap.size]? = some (.deferred (some []))→Q .normal { a with defers:=eX w.heap.size::a.defers } W)
  (hstop:∀(c:Code) (pre:List Sp) (W:World),w.heap.size+2≤W.heap.size→pre <+: xs→Ix c pre W→W.heap[w.heap.size]? = some (.deferred (some []))→c.wp P Q { a with defers:=eX w.heap.size::a.defers } W) :
  (Code.rangeFunc g ps assign body).wp P Q a w:=by
 subst hps;refine Fj hg eg hseq (fun _=>rfl) hT hK I Ix hI hIx h0
  (fun N x a' W=>∃Bx,N≤Bx∧w.heap.size+2≤Bx∧ag W Bx tE #[.int .i64 x.1,.int .i64 x.2]∧a'={ tmps:=(a.tmps.setIfInBounds pb (.agg #[.int .i64 x.1,.int .i64 x.2])).setIfInBounds ib (.pointer (some ⟨Bx,0,none⟩)),defers:=[] })
  (fun N x a' A B ⟨Bx,h0,h1,h2,h3⟩ hf=>⟨Bx,h0,h1,hf.blk h2 (by omega),h3⟩) ?_ ?_ hdone hstop
 ·intro m l x W C hs hC
  have e:(#[pb].zip (spA x)).foldl (fun t (p,v)=>t.setIfInBounds p v) a.tmps=a.tmps.setIfInBounds pb (.agg #[.int .i64 x.1,.int .i64 x.2]):=by simp [spA]
  rw [e];exact hassign m l x W C (hC _ _ ((af.refl _ W).alloc _) ⟨W.heap.size,Nat.le_refl _,hs,ag.new _ _ _,rfl⟩)
 ·rintro m l pre x a' Wa W hs hi ⟨Bx,h0,h1,h2,rfl⟩ hpre hia hfa
  exact hbody m l pre x Bx Wa W hs hi hpre h1 h2 h0 hia hfa
section
variable {P:Program} {ops:Array Oper} {Q:Exit→Act→World→Prop} {md:Region.Mode} {S:World→Prop} {tl:List Nat}
def eF (P:Program) (md:Region.Mode) (ops:Array Oper) (Q:Exit→Act→World→Prop) (S:World→Prop) (tl:List Nat):Nat→Array Bool→Act→World→Prop
 | 0,listed,a,w=>Region.ready md ops listed=[]∧Q .normal a w
 | fuel+1,listed,a,w =>
  (Region.ready md ops listed=[]→Q .normal a w) ∧
  ∀i∈Region.ready md ops listed,wpOp P ops Q i (fun a' w'=>(tl.contains i=false→S w')∧eF P md ops Q S tl fuel (listed.setIfInBounds i true) a' w') a w
theorem yc:∀(fuel:Nat) (listed:Array Bool) (a:Act) (w:World),eF P md ops Q S tl fuel listed a w→wpAny P md ops Q fuel listed a w
 | 0,_,_,_,h=>h
 | fuel+1,_,_,_,h=>⟨h.1,fun i hi=>wpOp_mono (fun a' w' h'=>yc fuel _ a' w' h'.2) (h.2 i hi)⟩
def XB (md:Region.Mode) (ops:Array Oper) (i n:Nat) (l:List Nat):Bool :=
 match ops[n]? with
 | some o=>o.after.any (fun e=>Region.binds md e&&(e.on==i||l.contains e.on))
 | none=>false
def mV (md:Region.Mode) (ops:Array Oper) (i:Nat):Nat→List Nat
 | 0=>[]
 | n+1=>if XB md ops i n (mV md ops i n)=true then n::mV md ops i n else mV md ops i n
def Closed (md:Region.Mode) (ops:Array Oper) (listed:Array Bool):Prop :=
 ∀j oj,ops[j]? = some oj→listed.getD j false=true→∀e∈oj.after,Region.binds md e=true→listed.getD e.on false=true
def yf (md:Region.Mode) (ops:Array Oper) (listed:Array Bool):Bool :=
 (List.range ops.size).all fun j=>!listed.getD j false||(match ops[j]? with|some oj=>oj.after.all (fun e=>!Region.binds md e||listed.getD e.on false)|none=>true)
theorem FM {listed:Array Bool} (h:yf md ops listed=true):Closed md ops listed:=by
 intro j oj hj hl e he hb;have hjs:=(Array.getElem?_eq_some_iff.1 hj).1;have h1:=List.all_eq_true.1 h j (List.mem_range.2 hjs);simp only [hl,Bool.not_true,Bool.false_or,hj] at h1;have h2:=Array.all_eq_true'.1 h1 e he;simpa [hb] using h2
theorem Closed.set {listed:Array Bool} {i:Nat} (h:Closed md ops listed) (hi:i∈Region.ready md ops listed):Closed md ops (listed.setIfInBounds i true):=by
 obtain ⟨_,oi,hoi,hall⟩:=mem_ready.1 hi;intro j oj hj hl e he hb;by_cases hij:i=j
 ·subst hij
  have:oj=oi:=Option.some.inj (hj.symm.trans hoi);subst this;exact getD_set_true (hall e he hb)
 ·rw [getD_set_ne false hij] at hl
  exact getD_set_true (h j oj hj hl e he hb)
theorem rY {listed:Array Bool} {i:Nat} (hc:Closed md ops listed) (hun:listed.getD i false=false):∀n,∀t∈mV md ops i n,listed.getD t false=false∧t∉Region.ready md ops listed
 | 0,t,ht=>by simp [mV] at ht
 | n+1,t,ht=>by
  unfold mV at ht;split at ht
  ·rename_i hw
   rcases List.mem_cons.1 ht with e|e
   ·subst e
    unfold XB at hw;split at hw
    ·rename_i o ho
     obtain ⟨e,he,hb⟩:=Array.any_eq_true'.1 hw;simp only [Bool.and_eq_true,Bool.or_eq_true,beq_iff_eq] at hb;have hno:listed.getD e.on false=false:=by
      rcases hb.2 with h|h
      ·rw [h];exact hun
      ·exact (rY hc hun t e.on (by simpa using h)).1
     refine ⟨?_,fun hr=>?_⟩
     ·cases hl:listed.getD t false with
      | false=>rfl
      | true=>have:=hc t o ho hl e he hb.1;rw [hno] at this;cases this
     ·obtain ⟨_,o',ho',hall⟩:=mem_ready.1 hr
      have:o'=o:=Option.some.inj (ho'.symm.trans ho);subst this;have:=hall e he hb.1;rw [hno] at this;cases this
    ·cases hw
   ·exact rY hc hun n t e
  ·exact rY hc hun n t ht
theorem Jf {i:Nat} {oi:Oper} {v:Value} (hi:ops[i]? = some oi) (hsel:∀(j:Nat) (o:Oper) cs b,ops[j]? = some o→o.op≠.select cs b)
  (hQ:∀c a w,Q (.panic c) (a.put oi.dst v) w→Q (.panic c) a w) (htl:∀t∈tl,t∈mV md ops i ops.size) :
  ∀(fuel:Nat) (listed:Array Bool) (a:Act) (w:World),Closed md ops listed →
   (∀j oj,ops[j]? = some oj→j≠i→listed.getD j true=false→(∀e∈oj.after,Region.binds md e=true→e.on≠i)→oi.apart ops oj=true) →
   i∈Region.ready md ops listed→YieldsIf P ops S oi v a→S w →
   eF P md ops Q S tl fuel (listed.setIfInBounds i true) (a.put oi.dst v) w→eF P md ops Q S tl (fuel+1) listed a w:=by
 intro fuel;induction fuel with
 | zero =>
  intro listed a w hcl _ hr hy hS H;refine ⟨fun h=>(by rw [h] at hr;cases hr),fun j hj=>?_⟩;by_cases hji:j=i
  ·subst hji;exact hy.wpOp hi hS ⟨fun _=>hS,H⟩
  ·have:=ready_mono hj hji
   rw [H.1] at this;cases this
 | succ fuel ih =>
  intro listed a w hcl hfree hr hy hS H;refine ⟨fun h=>(by rw [h] at hr;cases hr),fun j hj=>?_⟩;by_cases hji:j=i
  ·subst hji;exact hy.wpOp hi hS ⟨fun _=>hS,H⟩
  ·have h1:=H.2 j (ready_mono hj hji)
   obtain ⟨hjun,oj,hoj,hall⟩:=mem_ready.1 hj;have hun:listed.getD i false=false:=getD_both (mem_ready.1 hr).1;have XC:tl.contains j=false:=by
    cases h:tl.contains j with
    | false=>rfl
    | true=>exact absurd hj (rY hcl hun _ j (htl j (by simpa using h))).2
   have hnot:∀e∈oj.after,Region.binds md e=true→e.on≠i:=fun e he hb heq=>by
    have h1:=hall e he hb;rw [heq,hun] at h1;cases h1
   have h2:=wpOp_putIf hoj (hfree j oj hoj hji hjun hnot) (fun cs b=>hsel i oi cs b hi) (fun cs b=>hsel j oj cs b hoj) hQ hy h1;have hfree':∀k ok,ops[k]? = some ok→k≠i→(listed.setIfInBounds j true).getD k true=false →
     (∀e∈ok.after,Region.binds md e=true→e.on≠i)→oi.apart ops ok=true:=fun k ok hk hki hun hno=>by
    refine hfree k ok hk hki ?_ hno;by_cases hjk:j=k
    ·subst hjk;exact hjun
    ·rw [getD_set_ne true hjk] at hun;exact hun
   refine wpOp_mono (fun a' w' h3=>⟨h3.2.1,ih (listed.setIfInBounds j true) a' w' (hcl.set hj) hfree' (ready_mono hr (Ne.symm hji)) h3.1 (h3.2.1 XC) ?_⟩) h2;rw [Array.setIfInBounds_comm _ _ hji];exact h3.2.2
theorem wJ {i:Nat} {oi:Oper} {v:Value} {fuel:Nat} {listed:Array Bool} {a:Act} {w:World} (hi:ops[i]? = some oi)
  (hB:(Region.noSelect ops&&Region.free md ops listed i&&(Region.ready md ops listed).contains i&&yf md ops listed&&tl.all (fun t=>(mV md ops i ops.size).contains t))=true)
  (hQ:∀c a w,Q (.panic c) (a.put oi.dst v) w→Q (.panic c) a w) (hy:YieldsIf P ops S oi v a) (hS:S w)
  (h:eF P md ops Q S tl fuel (listed.setIfInBounds i true) (a.put oi.dst v) w):eF P md ops Q S tl (fuel+1) listed a w:=by
 simp only [Bool.and_eq_true] at hB;obtain ⟨⟨⟨⟨h1,h2⟩,h3⟩,h4⟩,h5⟩:=hB;exact Jf hi (Region.noSelect_spec h1) hQ (fun t ht=>by simpa using List.all_eq_true.1 h5 t ht) fuel listed a w (FM h4) (Region.free_spec hi h2) (by simpa using h3) hy hS h
theorem aX (i:Nat) {oi:Oper} {v:Value} {fuel:Nat} {listed:Array Bool} {a b:Act} {w:World} (hS:S w) (h:eF P md ops Q S tl fuel (listed.setIfInBounds i true) b w) (hi:ops[i]? = some oi:=by (simp only [List.getElem?_toArray,List.getElem?_cons_succ,List.getElem?_cons_zero];rfl)) (hB:(Region.noSelect ops&&Region.free md ops listed i&&(Region.ready md ops listed).contains i&&yf md ops listed&&tl.all (fun t=>(mV md ops i ops.size).contains t))=true:=by kernel_rfl) (hQ:∀c a w,Q (.panic c) (a.put oi.dst v) w→Q (.panic c) a w:=by exact fun _ _ _ h=>h) (hy:YieldsIf P ops S oi v a:=by (refine Or.inl ⟨rfl,?_⟩;intro wS hSw;obtain ⟨_,_⟩:=hSw;go_simp;(try with_reducible rfl))) (hb:a.put oi.dst v=b:=by (try simp only [Act.put,gM,gN,gP]);exact rfl):eF P md ops Q S tl (fuel+1) listed a w:=wJ hi hB hQ hy hS (hb ▸ h)
def lI (P:Program) (md:Region.Mode) (ops:Array Oper) (Q:Exit→Act→World→Prop) (S:World→Prop) (tl:List Nat) (fuel:Nat) (listed:Array Bool) (a:Act) (w:World) (rs:List Nat):Prop :=
 ∀i∈rs,wpOp P ops Q i (fun a' w'=>(tl.contains i=false→S w')∧eF P md ops Q S tl fuel (listed.setIfInBounds i true) a' w') a w
theorem lI.nil {fuel:Nat} {listed:Array Bool} {a:Act} {w:World}:lI P md ops Q S tl fuel listed a w []:=fun _ h=>by cases h
theorem lI.cons {fuel:Nat} {listed:Array Bool} {a:Act} {w:World} {i:Nat} {o:Oper} {rs:List Nat} (ho:ops[i]? = some o)
  (h:∀K':Act→World→Prop,Hid (∀a w,(tl.contains i=false→S w)→((tl.contains i=false→S w)→eF P md ops Q S tl fuel (listed.setIfInBounds i true) a w)→K' a w)→if Region.wanted o (yielded ops a.tmps)=true then Oper.wp P o a w K' Q else K' (a.put o.dst undef) w)
  (hs:lI P md ops Q S tl fuel listed a w rs):lI P md ops Q S tl fuel listed a w (i::rs):=fun j hj=>by
 rcases List.mem_cons.1 hj with rfl|hj
 ·exact wpOp_step ho (fun K' hK=>h K' (fun a w hS hW=>hK a w ⟨hS,hW hS⟩))
 ·exact hs j hj
theorem Jg {rs:List Nat} {fuel:Nat} {listed:Array Bool} {a:Act} {w:World} (hr:Region.ready md ops listed=rs) (hne:rs≠[])
  (h:lI P md ops Q S tl fuel listed a w rs):eF P md ops Q S tl (fuel+1) listed a w :=
 ⟨fun h0=>absurd (hr ▸ h0) hne,hr ▸ h⟩
theorem fu (i:Nat) {o:Oper} {fuel:Nat} {listed:Array Bool} {a:Act} {w:World} (h:∀K':Act→World→Prop,Hid (∀a w,(tl.contains i=false→S w)→((tl.contains i=false→S w)→eF P md ops Q S tl fuel (listed.setIfInBounds i true) a w)→K' a w)→if Region.wanted o (yielded ops a.tmps)=true then Oper.wp P o a w K' Q else K' (a.put o.dst undef) w) (hi:ops[i]? = some o:=by (simp only [List.getElem?_toArray,List.getElem?_cons_succ,List.getElem?_cons_zero];rfl)) (hr:Region.ready md ops listed=[i]:=by kernel_rfl):eF P md ops Q S tl (fuel+1) listed a w:=Jg hr (by simp) (lI.cons hi h lI.nil)
theorem bz {listed:Array Bool} {a:Act} {w:World} (hr:Region.ready md ops listed=[]) (h:Q .normal a w):∀fuel,eF P md ops Q S tl fuel listed a w
 | 0=>⟨hr,h⟩
 | _+1=>⟨fun _=>h,by rw [hr];simp⟩
theorem bD {id:Nat} {a:Act} {w:World} (S:World→Prop) (tl:List Nat) (hm:P.follows .mixedOrders=true) (h:eF P .any ops Q S tl ops.size (Array.replicate ops.size false) a w.drew):(Code.region id ops true).wp P Q a w :=
 wp_region_any hm (yc _ _ _ _ h)
end
def Nq (s:List Sp×Int) (x:Sp):List Sp×Int:=(if s.2<x.1 then s.1++[(s.2,x.1 - s.2)] else s.1,x.1+x.2)
def jc (n:Int) (l:List Sp):List Sp×Int:=l.foldl Nq ([],n)
theorem DW (n:Int) (l:List Sp) (x:Sp):jc n (l++[x])=Nq (jc n l) x:=by simp [jc]
def Nr (s:List Sp×Int) (e:Int):List Sp:=s.1++(if s.2<e then [(s.2,e - s.2)] else [])
theorem Ke:∀(l:List Sp) (acc:List Sp) (n e:Int),Nr (l.foldl Nq (acc,n)) e=acc++nS n e l
 | [],acc,n,e=>rfl
 | x::r,acc,n,e=>by
  rw [List.foldl_cons,show Nq (acc,n) x=(if n<x.1 then acc++[(n,x.1 - n)] else acc,x.1+x.2) from rfl,Ke r,nS];split <;> simp
theorem Ns (l:List Sp) (n e:Int):Nr (jc n l) e=nS n e l:=by
 rw [jc,Ke,List.nil_append]
theorem DX:∀(l:List Sp) (n:Int),0≤n∧n≤1024→(∀x∈l,bB x=true)→0≤(jc n l).2∧(jc n l).2≤1024:=by
 intro l n hn hv;rcases List.eq_nil_or_concat l with rfl|⟨r,x,rfl⟩
 ·exact hn
 ·rw [List.concat_eq_append,DW]
  have:=av.1 (hv x (by simp [List.concat_eq_append]));simp only [Nq];omega
theorem AO:∀(l:List Sp) (acc:List Sp) (n:Int),(l.foldl Nq (acc,n)).1.length≤acc.length+l.length
 | [],acc,n=>by simp
 | x::r,acc,n=>by
  simp only [List.foldl_cons];refine Nat.le_trans (AO r _ _) ?_;show (if n<x.1 then acc++[(n,x.1 - n)] else acc).length+r.length≤_;split <;> simp <;> omega
def FO (Q:Exit→Act→World→Prop) (e:Exit) (a:Act) (w:World):Prop:=match e with | .panic _=>False|e=>Q e a w
theorem aT {Q:Exit→Act→World→Prop} {a:Act} {w:World} (h:Q .normal a w):FO Q .normal a w:=h
theorem bO {P:Program} {c:Code} {Q:Exit→Act→World→Prop} {a:Act} {w:World} (h:c.wp P (FO Q) a w):c.wp P Q a w :=
 (wpIn_wide (n:=0)).1 (wpIn_mono (wpIn_wide.2 h) fun e a w hq=>by
  cases e with
  | panic c=>exact hq.elim
  | _=>exact hq)
def Kg (s:Nat) (p q nx:Int) (v:Value) (w:Go.World):Prop :=
 w.cell? ⟨s,0,none⟩=some (.int .i64 p)∧w.cell? ⟨s,1,none⟩=some (.int .i64 q)∧w.cell? ⟨s+2,0,none⟩=some (.int .i64 nx)∧w.cell? ⟨s+1,0,none⟩=some v
theorem Kg.later {s:Nat} {p q nx:Int} {v:Value} {w w':Go.World} {B:Nat} (h:Kg s p q nx v w) (hb:Below B w w') (hB:s+2<B):Kg s p q nx v w' :=
 ⟨(hb.cell (p:=⟨s,0,none⟩) (by show s<B;omega)).trans h.1,(hb.cell (p:=⟨s,1,none⟩) (by show s<B;omega)).trans h.2.1,(hb.cell (p:=⟨s+2,0,none⟩) hB).trans h.2.2.1,(hb.cell (p:=⟨s+1,0,none⟩) (by show s+1<B;omega)).trans h.2.2.2⟩
theorem nH {α:Type} {pre xs:List α} (h:pre <+: xs) {x:α} (hx:x∈pre):x∈xs:=h.subset hx
theorem Kl (sz en:Int) (hsz:1≤sz):∀(k:Nat) (a:Int),en - a<k →
  (∀x∈gD sz en k a,a≤x.1∧1≤x.2∧x.1+x.2≤en)∧aW (a - 1) (gD sz en k a)=true∧(∀q:Int,mem q (gD sz en k a)=true↔(a≤q∧q<en)∧(q - a+1) % (sz+1)≠0)
 | 0,a,h=>⟨by simp [gD],rfl,fun q=>by simp [gD,fB];omega⟩
 | k+1,a,h=>by
  rw [gD];by_cases hlt:a<en
  ·rw [if_pos hlt]
   obtain ⟨h1,h2,h3⟩:=Kl sz en hsz k (a+sz+1) (by omega);refine ⟨fun x hx=>?_,?_,fun q=>?_⟩
   ·rcases List.mem_cons.1 hx with rfl|hx
    ·simp only;omega
    ·have:=h1 x hx;omega
   ·rw [aJ]
    exact ⟨by simp only;omega,rU h2 (by simp only;omega)⟩
   ·rw [bK,h3 q]
    simp only;have e:(q - (a+sz+1)+1) % (sz+1)=(q - a+1) % (sz+1):=by
     rw [show q - a+1=(q - (a+sz+1)+1)+(sz+1) by omega,Int.add_emod_right]
    rw [e];by_cases hq:q<a
    ·constructor
     ·rintro (h|⟨h,_⟩) <;> omega
     ·rintro ⟨h,_⟩;omega
    by_cases hq2:q<a+sz
    ·have em:(q - a+1) % (sz+1)=q - a+1:=Int.emod_eq_of_lt (by omega) (by omega)
     rw [em];omega
    by_cases hq3:q=a+sz
    ·have em:(q - a+1) % (sz+1)=0:=by rw [hq3,show a+sz - a+1=sz+1 by omega,Int.emod_self]
     rw [em];omega
    ·constructor
     ·rintro (h|⟨h,h'⟩)
      ·omega
      ·exact ⟨by omega,h'⟩
     ·rintro ⟨h,h'⟩;exact .inr ⟨by omega,h'⟩
  ·rw [if_neg hlt]
   exact ⟨by simp,rfl,fun q=>by simp [fB];omega⟩
section
variable {pg n f b ev:Int}
theorem vH (hp:dS pg n f b ev):(∀x∈aA pg n f b ev,pg+f≤x.1∧1≤x.2∧x.1+x.2≤pg+n - b)∧aW (pg+f - 1) (aA pg n f b ev)=true ∧
  (∀q:Int,mem q (aA pg n f b ev)=true↔(pg+f≤q∧q<pg+n - b)∧(q - (pg+f)+1) % ((if ev=0 then 1024 else ev)+1)≠0):=by
 have h:=Kl (if ev=0 then 1024 else ev) (pg+n - b) (by have:=hp.e0;split <;> omega) 1025 (pg+f) (by have:=hp.n1;have:=hp.De;have:=hp.f0;have:=hp.b0;omega);exact h
theorem bL (hp:dS pg n f b ev):Go.Pol.Can (aA pg n f b ev):=by
 obtain ⟨h1,h2,_⟩:=vH hp;have a1:=hp.De;have a2:=hp.n1;have a3:=hp.f0;have a4:=hp.b0;refine ⟨fun x hx=>?_,rU h2 (by omega)⟩;have:=h1 x hx;rw [av];omega
end
def aI (l:List Sp):Int:=(l.map (·.2)).sum
theorem r9 (l:List Sp) (x:Sp):aI (l++[x])=aI l+x.2:=by simp [aI]
theorem iA:∀(l:List Sp),(∀x∈l,bB x=true)→0≤aI l∧aI l≤1024*l.length
 | [],_=>by simp [aI]
 | x::r,h=>by
  have:=iA r (fun y hy=>h y (by simp [hy]));have hx:=av.1 (h x (by simp));simp only [aI,List.map_cons,List.sum_cons,List.length_cons] at this ⊢;omega
def lu:List Sp→Int→Int×Int
 | [],_=>(0,7)
 | x::r,i=>if i<0 then (0,7) else if i<x.2 then (x.1+i,0) else lu r (i - x.2)
def jg (page:Int):Int→List Sp→Int×Int
 | _,[]=>(0,4)
 | n,x::r=>if x.1≤page∧page<x.1+x.2 then (n+page - x.1,0) else jg page (n+x.2) r
def bR (l:List Sp):List Int:=l.flatMap fun x=>(List.range x.2.toNat).map fun (k:Nat)=>x.1+(k:Int)
theorem QK {L pre rest:List Sp} {i:Int} {x:Sp} (h:lu L i=lu (x::rest) (i - aI pre)) (h1:¬i - aI pre<0) (h2:¬i - aI pre<x.2):lu L i=lu rest (i - aI (pre++[x])):=by
 rw [h,lu,if_neg h1,if_neg h2,r9];congr 1;omega
theorem Ls {α:Type} {pre xs:List α} {x:α} (h:pre++[x] <+: xs):∃rest,xs=pre++x::rest:=by
 obtain ⟨rest,h⟩:=h;exact ⟨rest,by rw [←h];simp⟩
def Ug (a m:Int):Prop:=a<0∨65536<a∨m<1∨65536 - a<m
instance aek (a m:Int):Decidable (Ug a m):=by unfold Ug;infer_instance
def Km (u f b ev:Int):Prop:=u<1∨1024<u∨j4 f b ev=true
instance aaP (u f b ev:Int):Decidable (Km u f b ev):=by unfold Km;infer_instance
theorem Di:Lib.len8tab.size=256:=by decide +kernel
theorem XH:∀i:Fin 256,((Lib.len8tab[i.val]?).map UInt8.toNat).getD 0=Lib.bitLen i.val:=by decide +kernel
theorem Nv (i:Nat) (h:i<Lib.len8tab.size):(Lib.len8tab[i]'h).toNat=Lib.bitLen i:=by
 have h2:i<256:=by rw [←Di];exact h
 have:=XH ⟨i,h2⟩;simpa [getElem?_pos Lib.len8tab i h] using this
theorem RU.on {w w':World} {A:Option Addr} {us:List Sp} (h:RU w w.heap.size A us) (hb:Below w.heap.size w w'):RU w' w'.heap.size A us:=(h.below hb).more hb.size
structure bC (cs:Array Value) (f:Nat→Bool):Prop where
 size:cs.size=1024
 at_:∀k,k<1024→cs[k]? = some (.bool (f k))
theorem wL (r:List Sp) (x:Sp) (y:Int):(ax (r++[x])).set (r.length*2+1) (.int .i64 y)=ax (r++[(x.1,y)]):=by
 rw [dE,dE];have:r.length*2+1=(ax r).length+1:=by rw [dB]
 rw [this,List.set_append_right _ _ (by omega)];simp
def gJ (x:Sp) (j:Nat):List Int:=(List.range j).map fun (k:Nat)=>x.1+(k:Int)
theorem jD (x:Sp) (r:List Sp):bR (x::r)=gJ x x.2.toNat++bR r:=by simp [bR,gJ]
theorem jq:∀(l:List Sp),(∀x∈l,0≤x.2)→((bR l).length:Int)=aI l
 | [],_=>by simp [bR,aI]
 | x::r,h=>by
  have ih:=jq r (fun y hy=>h y (by simp [hy]));have hx:=h x (by simp);rw [jD,List.length_append,show (gJ x x.2.toNat).length=x.2.toNat by simp [gJ]];simp only [aI,List.map_cons,List.sum_cons] at ih ⊢;omega
theorem wN (us:List Sp) (k:Nat) (hk:k<us.length):us.take (k+1)=us.take k++[us.getD k (0,0)]:=by
 rw [List.take_add_one,List.getElem?_eq_getElem hk];simp [List.getD_eq_getElem?_getD,hk]
theorem bC.set {cs:Array Value} {f g:Nat→Bool} (h:bC cs f) (k:Nat) (hk:k<1024) (b:Bool) (hb:g k=b) (hg:∀j,j≠k→g j=f j):bC (cs.setIfInBounds k (.bool b)) g :=
 ⟨by simp [h.size],fun j hj=>by
  by_cases hjk:j=k
  ·subst hjk
   rw [Array.getElem?_setIfInBounds_self_of_lt (by rw [h.size];exact hk),hb]
  ·rw [Array.getElem?_setIfInBounds_ne (Ne.symm hjk),hg j hjk];exact h.at_ j hj⟩
theorem LC (a c:Int):∀(j:Nat),gJ (a,c) (j+1)=a::gJ (a+1,c) j
 | j=>by
  simp only [gJ,List.range_succ_eq_map,List.map_cons,List.map_map];congr 1
  ·simp
  ·apply List.map_congr_left
   intro k _;simp only [Function.comp];omega
theorem Ny (x:Sp) (j i:Nat) (h:i<j):(gJ x j).getD i 0=x.1+(i:Int):=by
 simp [gJ,List.getD_eq_getElem?_getD,h]
theorem uA (x:Sp) (j:Nat):(gJ x j).length=j:=by simp [gJ]
theorem Nz (l r:List Int) (i:Nat) (h:i<l.length):(l++r).getD i 0=l.getD i 0:=by simp [List.getD_eq_getElem?_getD,List.getElem?_append_left h]
theorem NA (l r:List Int) (i:Nat) (h:l.length≤i):(l++r).getD i 0=r.getD (i - l.length) 0:=by simp [List.getD_eq_getElem?_getD,List.getElem?_append_right h]
def vI (l:List Int) (i:Int):Int×Int:=if i<0∨(l.length:Int)≤i then (0,7) else (l.getD i.toNat 0,0)
theorem qf:∀(L:List Sp) (i:Int),(∀x∈L,1≤x.2)→lu L i=vI (bR L) i
 | [],i,_=>by simp [lu,vI,bR]
 | x::r,i,h=>by
  have hx:=h x (by simp);have ih:=qf r (i - x.2) (fun y hy=>h y (by simp [hy]));rw [lu];by_cases h0:i<0
  ·rw [if_pos h0,vI,if_pos (.inl h0)]
  rw [if_neg h0];have hl:(bR (x::r)).length=x.2.toNat+(bR r).length:=by rw [jD,List.length_append,uA]
  by_cases h1:i<x.2
  ·rw [if_pos h1,vI,if_neg (by rw [hl];omega),jD,Nz _ _ _ (by rw [uA];omega),Ny _ _ _ (by omega)]
   congr 1;omega
  ·rw [if_neg h1,ih,vI,vI]
   by_cases h2:i - x.2<0∨((bR r).length:Int)≤i - x.2
   ·rw [if_pos h2,if_pos (by rw [hl];omega)]
   ·rw [if_neg h2,if_neg (by rw [hl];omega),jD,NA _ _ _ (by rw [uA];omega),uA]
    congr 2;omega
def vJ (page:Int):Int→List Int→Int×Int
 | _,[]=>(0,4)
 | k,y::r=>if y=page then (k,0) else vJ page (k+1) r
theorem BP (page c:Int) (r:List Int):∀(j:Nat) (a k:Int),vJ page k (gJ (a,c) j++r)=if a≤page∧page<a+j then (k+(page - a),0) else vJ page (k+j) r
 | 0,a,k=>by rw [if_neg (by omega)];simp [gJ]
 | j+1,a,k=>by
  rw [LC,List.cons_append,vJ,BP page c r j (a+1) (k+1)];by_cases h:a=page
  ·rw [if_pos h,if_pos (by omega)];congr 1;omega
  ·rw [if_neg h]
   by_cases h2:a+1≤page∧page<a+1+j
   ·rw [if_pos h2,if_pos (by omega)];congr 1;omega
   ·rw [if_neg h2,if_neg (by omega)];congr 1;omega
theorem yh (page:Int):∀(L:List Sp) (k:Int),(∀x∈L,1≤x.2)→jg page k L=vJ page k (bR L)
 | [],k,_=>rfl
 | x::r,k,h=>by
  obtain ⟨xa,xb⟩:=x;have hx:=h (xa,xb) (by simp);have ih:=yh page r (k+xb) (fun y hy=>h y (by simp [hy]));simp only at hx;rw [jg,jD];simp only;rw [BP];by_cases h1:xa≤page∧page<xa+xb
  ·rw [if_pos h1,if_pos (by omega)];congr 1;omega
  ·rw [if_neg h1,if_neg (by omega),ih];congr 1;omega
structure Cr where
 pg:Int
 n:Int
 f:Int
 bk:Int
 ev:Int
 node:Int
 live:Int
 kept:List Sp
 cl:Bool
abbrev ai (r:Cr) (v:Value):Array Value:=#[.int .i64 r.pg,.int .i64 r.n,.int .i64 r.f,.int .i64 r.bk,.int .i64 r.ev,.int .i64 r.node,.int .i64 r.live,v,.bool r.cl]
def oG (r:Cr):Int:=if bN r.pg r.n r.f r.bk r.ev=0 then aI (aA r.pg r.n r.f r.bk r.ev) else 0
def iP (l:List Sp):Sp:=l.getD (l.length - 1) (0,0)
def bE (r:Cr):Int :=
 if bN r.pg r.n r.f r.bk r.ev≠0 then bN r.pg r.n r.f r.bk r.ev
 else if r.live<0∨oG r<r.live∨r.node<0∨64≤r.node then 7
 else if dX r.kept≠0∨(r.cl=true∧(r.live≠0∨r.kept.length≠0)) then 6
 else if 0<r.kept.length∧((r.kept.getD 0 (0,0)).1<r.live∨oG r<(iP r.kept).1+(iP r.kept).2) then 6
 else 0
structure ND (r:Cr):Prop where
 plan:dS r.pg r.n r.f r.bk r.ev
 AU:0≤r.live
 Dj:r.live≤oG r
 node:0≤r.node∧r.node<64
 can:Can r.kept
 cl:r.cl=true→r.live=0∧r.kept=[]
 low:∀x∈r.kept,r.live≤x.1∧x.1+x.2≤oG r
theorem D5:∀(s:List Sp) (e:Int),(∀x∈s,1≤x.2)→aW e s=true→∀x∈s,e<x.1
 | [],_,_,_,_,h=>by cases h
 | y::s,e,hw,hf,x,hx=>by
  have h1:=aJ.1 hf;rcases List.mem_cons.1 hx with rfl|hx
  ·exact h1.1
  ·have:=D5 s _ (fun z hz=>hw z (by simp [hz])) h1.2 x hx
   have:=hw y (by simp);omega
theorem FT {x:Sp} {s:List Sp} (h:Can (x::s)):∀y∈x::s,x.1≤y.1:=fun y hy=>by
 have hw:∀z∈x::s,1≤z.2:=fun z hz=>(av.1 (h.1 z hz)).2.2.1
 rcases List.mem_cons.1 hy with rfl|hy
 ·exact Int.le_refl _
 ·have:=D5 s _ (fun z hz=>hw z (by simp [hz])) (aJ.1 h.2).2 y hy
  have:=hw x (by simp);omega
theorem qZ:∀(s:List Sp) (e:Int),(∀x∈s,1≤x.2)→aW e s=true→∀x∈s,x.1+x.2≤(iP s).1+(iP s).2
 | [],_,_,_,_,h=>by cases h
 | [y],_,_,_,x,hx=>by
  simp only [List.mem_singleton] at hx;subst hx;exact Int.le_refl _
 | y::z::s,e,hw,hf,x,hx=>by
  have h1:=aJ.1 hf;have hl:iP (y::z::s)=iP (z::s):=by
   unfold iP;simp only [List.length_cons,Nat.add_sub_cancel];rw [List.getD_cons_succ]
  rw [hl];rcases List.mem_cons.1 hx with rfl|hx
  ·have h2:=qZ (z::s) _ (fun q hq=>hw q (by simp only [List.mem_cons] at hq ⊢;exact .inr hq)) h1.2 z (by simp)
   have h3:=(aJ.1 h1.2).1;have:=hw z (by simp);omega
  ·exact qZ (z::s) _ (fun q hq=>hw q (by simp only [List.mem_cons] at hq ⊢;exact .inr hq)) h1.2 x hx
theorem gB {r:Cr}:bE r=0↔ND r:=by
 unfold bE;by_cases h1:bN r.pg r.n r.f r.bk r.ev=0
 ·rw [if_neg (by simpa using h1)]
  have hp:=bU.1 h1;by_cases h2:r.live<0∨oG r<r.live∨r.node<0∨64≤r.node
  ·rw [if_pos h2]
   exact ⟨fun h=>by omega,fun h=>by have:=h.AU;have:=h.Dj;have:=h.node;omega⟩
  ·rw [if_neg h2]
   by_cases h3:dX r.kept≠0∨(r.cl=true∧(r.live≠0∨r.kept.length≠0))
   ·rw [if_pos h3]
    refine ⟨fun h=>by omega,fun h=>?_⟩;exfalso;rcases h3 with h3|⟨h3,h4⟩
    ·exact h3 (bP.2 h.can)
    ·obtain ⟨h5,h6⟩:=h.cl h3
     rcases h4 with h4|h4
     ·exact h4 h5
     ·rw [h6] at h4;exact h4 rfl
   ·rw [if_neg h3]
    have hc:Can r.kept:=bP.1 (by
     by_cases hx:dX r.kept=0
     ·exact hx
     ·exact absurd (.inl hx) h3)
    have hcl:r.cl=true→r.live=0∧r.kept=[]:=fun h=>by
     constructor
     ·by_cases hx:r.live=0
      ·exact hx
      ·exact absurd (.inr ⟨h,.inl hx⟩) h3
     ·by_cases hx:r.kept.length=0
      ·exact List.eq_nil_of_length_eq_zero hx
      ·exact absurd (.inr ⟨h,.inr hx⟩) h3
    have hw:∀z∈r.kept,1≤z.2:=fun z hz=>(av.1 (hc.1 z hz)).2.2.1
    have agX:0<r.kept.length→∀x∈r.kept,(r.kept.getD 0 (0,0)).1≤x.1:=fun hl x hx=>by
     match hk:r.kept,hl with
     | y::s,_ =>
      rw [hk] at hx hc;exact FT hc x hx
    have agY:∀x∈r.kept,x.1+x.2≤(iP r.kept).1+(iP r.kept).2:=qZ r.kept _ hw hc.2;have hm0:0<r.kept.length→r.kept.getD 0 (0,0)∈r.kept:=fun hl=>by rw [List.getD_eq_getElem?_getD,List.getElem?_eq_getElem hl];exact List.getElem_mem hl
    have LD:0<r.kept.length→iP r.kept∈r.kept:=fun hl=>by unfold iP;rw [List.getD_eq_getElem?_getD,List.getElem?_eq_getElem (by omega)];exact List.getElem_mem _
    by_cases h4:0<r.kept.length∧((r.kept.getD 0 (0,0)).1<r.live∨oG r<(iP r.kept).1+(iP r.kept).2)
    ·rw [if_pos h4]
     refine ⟨fun h=>by omega,fun h=>?_⟩;exfalso;have q1:=(h.low _ (hm0 h4.1)).1;have q2:=(h.low _ (LD h4.1)).2;rcases h4.2 with h5|h5 <;> omega
    ·rw [if_neg h4]
     refine ⟨fun _=>⟨hp,by omega,by omega,by omega,hc,hcl,fun x hx=>?_⟩,fun _=>rfl⟩;have hl:0<r.kept.length:=List.length_pos_of_mem hx;have q1:=agX hl x hx;have q2:=agY x hx;have q3:¬((r.kept.getD 0 (0,0)).1<r.live∨oG r<(iP r.kept).1+(iP r.kept).2):=fun h=>h4 ⟨hl,h⟩
     omega
 ·rw [if_pos h1]
  exact ⟨fun h=>absurd h h1,fun h=>absurd (bU.2 h.plan) h1⟩
def bG (a b:Int):List Sp:=if b≤a then [] else [(a,b - a)]
def bS (S:List Sp):Int→List Sp→List (Int×Int×Int)
 | _,[]=>[]
 | m,u::r=>(ay S [(m,u.2)]).map (fun x=>(u.1+x.1 - m,x.2,x.1))++bS S (m+u.2) r
def D6 {α:Type} (P:Program) (g:Nat) (lb:Array Value) (encs:α→Array Value) (T K:Nat→Prop) (xs:List α) (w:World):Prop :=
 ∀(n l:Nat) (J Jx:(Nat→Prop)→List α→World→Prop) (W:World),af (fun k=>¬K k) w W →
  (∀X pre A B,J X pre A→af (fun k=>T k∨X k) A B→J X pre B)→(∀X pre A B,Jx X pre A→af (fun k=>T k∨X k) A B→Jx X pre B) →
  (∀X X' pre A,J X pre A→(∀k,X' k→X k∨A.heap.size≤k)→J X' pre A) →
  (∀m X pre x W1,J X pre W1→(∀k,X k→k<W1.heap.size)→pre++[x] <+: xs→YieldAt Fence.wide m P l (encs x) W1 fun e W' =>
   (e= .returned (.bool true)∧J X (pre++[x]) W'∧af (fun k=>¬(K k∨X k)) W1 W')∨(e= .returned (.bool false)∧Jx X (pre++[x]) W')) →
  J (fun _=>False) [] W →
  CallsIn Fence.wide n P g (#[.func (.yield l) #[] #[]]++lb) W fun e W'=>(∃v,e= .returned v)∧((∃X,J X xs W')∨∃X pre,pre <+: xs∧Jx X pre W')
theorem D6.later {α:Type} {P:Program} {g:Nat} {lb:Array Value} {encs:α→Array Value} {T K:Nat→Prop} {xs:List α} {w w':World}
  (h:D6 P g lb encs T K xs w) (hw:af (fun k=>¬K k) w w'):D6 P g lb encs T K xs w' :=
 fun n l J Jx W hW=>h n l J Jx W (hw.trans hW)
end Go.Pol
namespace Go.Proofs.YtjmmgoijnhnnaaaGreat
open Go Go.Proofs Go.RowKit Go.Pol Go.Shelf Tryz
attribute [local go_sem] Oper.semAt_some aC au az ah
theorem zf (pg n f b ev:Int) (w:World) :
  Calls prog 116 #[eQ pg n f b ev] w fun e w'=>e= .returned (.func (.func 175) #[] #[.pointer (some ⟨w.heap.size,0,none⟩)])∧w'=w.alloc (.cells (bf pg n f b ev) 25):=by
 go_enter func116,ntmps116
 go_wp2
 go_ret;exact ⟨rfl,rfl⟩
theorem x9 (A1 A2:Option Addr) (n1 c1 n2 c2:Nat) (w:World) :
  Calls prog 119 #[.slice A1 n1 c1,.slice A2 n2 c2] w fun e w'=>e= .returned (.func (.func 178) #[] #[.pointer (some ⟨w.heap.size,0,none⟩),.pointer (some ⟨w.heap.size+1,0,none⟩)]) ∧
   w'=(w.alloc (.cells #[.slice A1 n1 c1] 41)).alloc (.cells #[.slice A2 n2 c2] 41):=by
 go_enter func119,ntmps119
 go_wp2
 go_ret;exact ⟨rfl,rfl⟩
theorem aaN:(prog.info? 140).map (fun i=>(i.zero,i.size,i.bytes))=some (some (.agg #[.int .i64 0,.int .i64 0]),2,16):=by kernel_rfl
theorem dW:∃i0,prog.info? 140=some i0∧i0.zero=some (.agg #[.int .i64 0,.int .i64 0])∧i0.size=2∧i0.bytes=16:=by
 obtain ⟨i0,h⟩:=info_parts aaN;exact ⟨i0,h⟩
theorem FJ (g:Nat) (lb:Array Value) (T K:Nat→Prop) (xs:List Sp) (w:World) (hxs:xs.length≤1000000)
  (hseq:xX prog g lb Xq T K xs w) (eg:∀args w,(callFunc g args).run prog w= .ok (.enter g args) w) (hT:∀k,T k→k<w.heap.size) (hK:∀k,K k→k<w.heap.size) :
  Calls prog 177 #[.slice none 0 0,.func (.func g) #[] lb] w fun e w'=>∃v,e= .returned v∧w'.ownsRow w.heap.size 140 2 v xs.length (ax xs)∧(v= .slice none 0 0↔xs=[])∧af T w w':=by
 obtain ⟨i0,hi,hz0,hz1,hz2⟩:=dW;refine bM func177 rfl ?_;simp only [ntmps177,List.size_toArray,List.length_cons,List.length_nil,Nat.reduceAdd,Nat.reduceSub,Array.replicate_succ,Array.replicate_zero,List.push_toArray,List.append_toArray,List.nil_append,List.cons_append];go_wp2_with fail;obtain ⟨W0,hW0⟩:=aj (w.alloc (.cells #[.slice none 0 0] 41));have hs0:W0.heap.size=w.heap.size+1:=by rw [←hW0];simp
 have kB:ag W0 w.heap.size 41 #[.slice none 0 0]:=by rw [←hW0];exact ag.new _ _ _
 have FK:af (fun _=>False) w W0:=by rw [←hW0];exact (af.refl _ w).alloc _
 rw [hW0];clear hW0;refine Fj (gf:=g) (lb:=lb) rfl eg (hseq.later (FK.mono fun _ _ h=>h.elim)) (fun _=>rfl) (fun k h=>by have:=hT k h;omega) (fun k h=>by have:=hK k h;omega)
  (fun pre W=>vF W w.heap.size 41 140 (W0.heap.size+2) pre∧af T w W) (fun _ _ _=>False)
  (fun pre A B h hf=>⟨h.1.far hf (fun h=>by rcases h with h|h|h;have:=hT _ h;omega;omega;omega) (fun g hg h=>by rcases h with h|h|h;have:=hT _ h;omega;omega;omega),h.2.trans' hf (fun i hi h=>by rcases h with h|h|h;exact h;omega;omega)⟩)
  (fun _ _ _ _ h _=>h.elim) ⟨⟨_,kB,World.ownsRow_nil _ _ _ _,by simp⟩,FK.mono fun _ _ h=>h.elim⟩
  (fun _ x a' W=>∃Bx,W0.heap.size+2≤Bx∧ag W Bx 140 #[.int .i64 x.1,.int .i64 x.2]∧a'={ tmps:=#[.slice none 0 0,.func (.func g) #[] lb,.pointer (some ⟨w.heap.size,0,none⟩),undef,.slice none 0 0,.pointer (some ⟨Bx,0,none⟩),.func (.func g) #[] lb,.agg #[.int .i64 x.1,.int .i64 x.2],undef,undef,undef,undef,undef],defers:=[] })
  (fun _ x a' A B ⟨Bx,h1,h2,h3⟩ hf=>⟨Bx,h1,hf.blk h2 (by omega),h3⟩) ?assign ?body ?done ?stop
 case assign =>
  intro m l x W C hs hC
  gi_wp2
  exact hC _ _ ((af.refl _ W).alloc _) ⟨W.heap.size,hs,ag.new _ _ _,rfl⟩
 case body =>
  rintro m l pre x a' _ W hs ⟨uy,hF⟩ ⟨Bx,hBx,kx,rfl⟩ hpre _ _;obtain ⟨v,hv,hrow,hnil⟩:=uy.ex;have cx:=kx.cell;have cv:=hv.cell;have fv:=hv.frozen;have hlen:pre.length+1≤xs.length:=by have:=hpre.length_le;simpa using this
  have kN:=ag.new W 140 #[.int .i64 x.1,.int .i64 x.2]
  gi_wp2_with (gi_at_builtin;refine wpListIn_append_own _ rfl (.tmp 8) (.tmp 10) 41 rfl (W0.heap.size+2) 140 i0 (.agg #[.int .i64 0,.int .i64 0]) 2 16 underlying41 hi hz0 hz1 hz2 rfl (by decide) v pre.length (ax pre) rfl (hrow.alloc _) ⟨W.heap.size,0,none⟩ 1 1 [.int .i64 x.1,.int .i64 x.2] rfl rfl (ja kN) gQ (by unfold maxLen;omega) (by omega) (by simp;omega) ?_;intro v' w1 hown' hgrow _;rw [←dE] at hown';obtain ⟨hv1,hb2,hf2⟩:=vF.appended hv (by decide) hrow hown' (by simp) (by simp) hgrow;obtain ⟨A',cap',rfl⟩:=ik hown' (by simp);have cv1:=hv1.cell;have fv1:=hv1.frozen)
  exact ⟨hf2 _ (by rintro (h|h|h);have:=hK _ h;omega;omega;omega) (fun g hg=>by have:=(hrow.lt g hg).1;rintro (h|h|h);have:=hK _ h;omega;omega;omega),hb2,hF.trans' (hf2 (fun k=>w.heap.size≤k) (Nat.le_refl _) (fun g hg=>by have:=(hrow.lt g hg).1;omega)) (fun i hi h=>by omega)⟩
 case done =>
  rintro W hs ⟨uy,hF⟩ hd;obtain ⟨v,hv,hrow,hnil⟩:=uy.ex;have cv:=hv.cell;obtain ⟨A',cap',rfl⟩:=ik hrow rfl;go_wp2_with fail;have hfp:af (fun k=>k=W0.heap.size) W (W.putObj W0.heap.size (.deferred none)):=af.putObj (T:=fun k=>k=W0.heap.size) (af.refl _ _) (fun _=>rfl) _;exact eY (v:=.slice A' xs.length cap') hd (by simp [results,results177,go_sem]) ⟨_,rfl,pU (aK hrow hfp (fun g hg h=>by have:=(hrow.lt g hg).1;omega)) (by omega),hnil,hF.putObj (fun h=>absurd h (by omega)) _⟩
 case stop=>exact fun _ _ _ _ _ h _=>h.elim
theorem qX (g:Nat) (lb:Array Value) (T K:Nat→Prop) (xs:List Sp) (w:World) (hxs:xs.length≤1000000)
  (hseq:xX prog g lb Xq T K xs w) (eg:∀args w,(callFunc g args).run prog w= .ok (.enter g args) w) (hT:∀k,T k→k<w.heap.size) (hK:∀k,K k→k<w.heap.size) :
  Calls prog 118 #[.func (.func g) #[] lb] w fun e w'=>∃v,e= .returned v∧w'.ownsRow w.heap.size 140 2 v xs.length (ax xs)∧(v= .slice none 0 0↔xs=[])∧af T w w':=by
 have HA:=ae (FJ g lb T K xs w hxs hseq eg hT hK);go_enter func118,ntmps118
 go_wp2_with (go_at_call 177;refine (HA.out).mono ?_;rintro e w1 ⟨v,rfl,hown,hnil,hf⟩)
 go_ret;exact ⟨v,rfl,hown,hnil,hf⟩
theorem FL (size en:Int):∀(k:Nat) (a:Int),(gD size en k a).length≤k
 | 0,_=>by simp [gD]
 | k+1,a=>by
  have:=FL size en k (a+size+1);rw [gD];split
  ·simp;omega
  ·simp
theorem AJ {pg n f b ev:Int} (_:dS pg n f b ev):(aA pg n f b ev).length≤1000000:=by
 have:=FL (if ev=0 then 1024 else ev) (pg+n - b) 1025 (pg+f);unfold aA;omega
theorem qY:∀args w,(callFunc 175 args).run prog w= .ok (.enter 175 args) w:=enters_of func175 (by kernel_rfl) rfl
theorem rX:∀args w,(callFunc 178 args).run prog w= .ok (.enter 178 args) w:=enters_of func178 (by kernel_rfl) rfl
def Lp (w:World) (us:List Sp) (er:Int) (e:Ending) (w':World):Prop :=
 ∃(A:Option Addr) (cap:Nat),e= .returned (.tuple #[.slice A us.length cap,.int .i64 er])∧RU w' w'.heap.size A us∧us.length≤cap∧cap≤maxLen∧(∀b o,A=some ⟨b,o,none⟩→w.heap.size≤b)∧Below w.heap.size w w'
theorem Np (pg n f b ev:Int) (w:World) :
  Calls prog 70 #[eQ pg n f b ev] w (Lp w (if bN pg n f b ev=0 then aA pg n f b ev else []) (bN pg n f b ev)):=by
 have HC:=ae (fun W=>uw pg n f b ev W);have hb0:=aV w (.cells (bf pg n f b ev) 25);have k0:=ag.new w 25 (bf pg n f b ev);have c0:=k0.cell;by_cases hc:bN pg n f b ev=0
 ·have hp:=bU.1 hc
  rw [hc] at HC ⊢;rw [if_pos rfl];have HR:=ae (fun W=>zf pg n f b ev W);go_enter func70,ntmps70
  go_wp2_with (first
   | (go_at_call 115;refine (HC.out _).mono ?_;rintro e w1 ⟨rfl,hq⟩;have k1:=k0.call hq;have c1:=k1.cell;have hb1:=hb0.trans (hq.mono hb0.size))
   | (go_at_call 116;refine (HR.out _).mono ?_;rintro e w2 ⟨rfl,rfl⟩;have HS:=ae (Az pg n f b ev w1.heap.size _ hp (ag.new w1 25 (bf pg n f b ev))))
   | (go_at_call 118;refine (qX _ _ _ _ _ _ (AJ hp) HS.out qY (fun _ h=>h.elim) (fun k h=>by subst h;simp)).mono ?_;rintro e w3 ⟨v,rfl,hown,_,hf⟩;obtain ⟨A,cap,rfl,gG,h1,h2,h3,_⟩:=mU hown rfl))
  have hb2:=hb1.alloc hb1.size (.cells (bf pg n f b ev) 25);have hb3:=hf.below (n:=w.heap.size) (Nat.le_trans hb1.size (by simp)) (fun _ _ h=>h);go_ret2;exact ⟨A,cap,rfl,gG,h1,h2,fun b o e=>by have:=h3 b o e;simp at this;have:=hb1.size;omega,hb2.trans hb3⟩
 ·rw [if_neg hc]
  generalize bN pg n f b ev=er at *;have hc':(er != 0)=true:=by simpa using hc
  clear hc;go_enter func70,ntmps70
  go_wp2_with (go_at_call 115;refine (HC.out _).mono ?_;rintro e w1 ⟨rfl,hq⟩;have k1:=k0.call hq;have c1:=k1.cell;have hb1:=hb0.trans (hq.mono hb0.size))
  go_ret2;exact ⟨none,0,rfl,RU.nil,by simp,by unfold maxLen;omega,fun b o e=>(by cases e),hb1⟩
theorem Kh (A:Option Addr) (n cap:Nat) (us:List Sp) (p q:Int) (w:World) (hn:us.length=n) (hm:n≤cap) (hc:cap≤maxLen) (hr:RU w w.heap.size A us) (hu:Go.Pol.Can us) (hv:bB (p,q)=true) :
  Calls prog 120 #[.slice A n cap,.agg #[.int .i64 p,.int .i64 q]] w fun e w'=>∃(A':Option Addr) (cap':Nat),e= .returned (.slice A' (aZ us (p,q)).length cap')∧RU w' w'.heap.size A' (aZ us (p,q))∧(aZ us (p,q)).length≤cap'∧cap'≤maxLen∧(∀b o,A'=some ⟨b,o,none⟩→w.heap.size≤b)∧Below w.heap.size w w'∧(A'=none→cap'=0):=by
 obtain ⟨i0,hi,hz0,hz1,hz2⟩:=dW;obtain ⟨L,hL0⟩:=aj (aZ us (p,q));rw [hL0];have hL:=ae hL0;clear hL0;refine bM func120 rfl ?_;simp only [ntmps120,List.size_toArray,List.length_cons,List.length_nil,Nat.reduceAdd,Nat.reduceSub,Array.replicate_succ,Array.replicate_zero,List.push_toArray,List.append_toArray,List.nil_append,List.cons_append]
 go_wp2_with (go_at_call 119;refine (x9 _ _ _ _ _ _ _).mono ?_;rintro e w2 ⟨rfl,rfl⟩)
 obtain ⟨s,hs⟩:=aj (w.heap.size);obtain ⟨W0,hW0⟩:=aj ((((((w.alloc (.cells #[.int .i64 p,.int .i64 q] 140)).alloc (.cells #[.slice none 0 0] 41)).alloc (.cells #[.int .i64 p] 3)).alloc (.cells #[.int .i64 p,.int .i64 q] 140)).alloc (.cells #[.slice A n cap] 41)).alloc (.cells #[.slice (some ⟨w.heap.size+1+1+1,0,none⟩) 1 1] 41));have hs0:W0.heap.size=s+6:=by rw [←hW0,←hs];simp
 have kI:ag W0 s 140 #[.int .i64 p,.int .i64 q]:=by rw [←hW0,←hs];exact (((((ag.new _ _ _).alloc _).alloc _).alloc _).alloc _).alloc _
 have kO:ag W0 (s+1) 41 #[.slice none 0 0]:=by
  rw [←hW0,←hs];have:=ag.new (w.alloc (.cells #[.int .i64 p,.int .i64 q] 140)) 41 #[.slice none 0 0];rw [World.size_alloc] at this;exact (((this.alloc _).alloc _).alloc _).alloc _
 have kN:ag W0 (s+2) 3 #[.int .i64 p]:=by
  rw [←hW0,←hs];have:=ag.new ((w.alloc (.cells #[.int .i64 p,.int .i64 q] 140)).alloc (.cells #[.slice none 0 0] 41)) 3 #[.int .i64 p];simp only [World.size_alloc] at this;exact ((this.alloc _).alloc _).alloc _
 have kS:ag W0 (s+3) 140 #[.int .i64 p,.int .i64 q]:=by
  rw [←hW0,←hs];have:=ag.new (((w.alloc (.cells #[.int .i64 p,.int .i64 q] 140)).alloc (.cells #[.slice none 0 0] 41)).alloc (.cells #[.int .i64 p] 3)) 140 #[.int .i64 p,.int .i64 q];simp only [World.size_alloc] at this;exact (this.alloc _).alloc _
 have kB1:ag W0 (s+4) 41 #[.slice A n cap]:=by
  rw [←hW0,←hs];have:=ag.new ((((w.alloc (.cells #[.int .i64 p,.int .i64 q] 140)).alloc (.cells #[.slice none 0 0] 41)).alloc (.cells #[.int .i64 p] 3)).alloc (.cells #[.int .i64 p,.int .i64 q] 140)) 41 #[.slice A n cap];simp only [World.size_alloc] at this;exact this.alloc _
 have kB2:ag W0 (s+5) 41 #[.slice (some ⟨s+3,0,none⟩) 1 1]:=by
  rw [←hW0,←hs];have:=ag.new (((((w.alloc (.cells #[.int .i64 p,.int .i64 q] 140)).alloc (.cells #[.slice none 0 0] 41)).alloc (.cells #[.int .i64 p] 3)).alloc (.cells #[.int .i64 p,.int .i64 q] 140)).alloc (.cells #[.slice A n cap] 41)) 41 #[.slice (some ⟨w.heap.size+1+1+1,0,none⟩) 1 1];simp only [World.size_alloc] at this;exact this
 have hB0:Below s w W0:=by
  rw [←hW0,←hs];exact (((((aV w _).alloc (by simp) _).alloc (by simp;omega) _).alloc (by simp;omega) _).alloc (by simp;omega) _).alloc (by simp;omega) _
 simp only [hs] at hW0 hr ⊢;simp only [Nat.add_assoc,Nat.reduceAdd] at hW0 ⊢;rw [hW0];clear hW0;have hxs:(ay us [(p,q)]).length≤512:=(hu.common (Can.one hv)).len;have hvl:=(hu.common (Can.one hv)).1;have hp0:0≤p∧p≤1024:=by have:=av.1 hv;simp only at this;omega
 have hseq:=wG A (some ⟨s+3,0,none⟩) n cap 1 1 us [(p,q)] (s+4) (s+5) (s+6) (fun k=>k<s∨k=s+3∨k=s+4∨k=s+5) W0 (by omega) (by omega) (by omega) kB1 kB2
  ⟨hn,hm,hc,(hr.below hB0).more (by omega),fun h0 b o e=>by
   obtain ⟨b',o',e',hb,_⟩:=hr 0 (by cases us;exact absurd rfl h0;simp);rw [e] at e';obtain ⟨rfl,rfl⟩:b=b'∧o=o':=by simpa using e'
   exact ⟨.inl hb,by omega,by omega⟩,hu.1⟩
  ⟨rfl,Nat.le_refl _,by omega,(Nk kS).more (by omega),fun _ b o e=>(by cases e;exact ⟨by omega,by omega,by omega⟩),by simpa using hv⟩
 refine Fj (gf:=178) (lb:=#[.pointer (some ⟨s+4,0,none⟩),.pointer (some ⟨s+5,0,none⟩)]) rfl rX hseq (fun _=>rfl) (fun k h=>by omega) (fun k h=>by omega)
  (fun pre W=>vF W (s+1) 41 140 (W0.heap.size+2) (jc p pre).1∧ag W (s+2) 3 #[.int .i64 (jc p pre).2]∧ag W s 140 #[.int .i64 p,.int .i64 q]∧Below s w W) (fun _ _ _=>False)
  (fun pre A B h hf=>⟨h.1.far hf (by omega) (fun g hg=>by omega),hf.blk h.2.1 (by omega),hf.blk h.2.2.1 (by omega),h.2.2.2.trans (hf.below (Nat.le_trans (by omega) h.2.2.2.size) (fun k hk=>by omega))⟩)
  (fun _ _ _ _ h _=>h.elim) ⟨⟨_,kO,World.ownsRow_nil _ _ _ _,by simp [jc]⟩,kN,kI,hB0⟩
  (fun N x a' W=>∃Bx,N≤Bx∧W0.heap.size+2≤Bx∧ag W Bx 140 #[.int .i64 x.1,.int .i64 x.2]∧a'={ tmps:=#[.slice A n cap,.agg #[.int .i64 p,.int .i64 q],undef,.pointer (some ⟨s,0,none⟩),.slice none 0 0,.pointer (some ⟨s+1,0,none⟩),.pointer (some ⟨s+2,0,none⟩),.pointer (some ⟨Bx,0,none⟩),.pointer (some ⟨s,0,none⟩),.int .i64 p,.slice A n cap,.agg #[.int .i64 p,.int .i64 q],.slice (some ⟨s+3,0,none⟩) 1 1,.func (.func 178) #[] #[.pointer (some ⟨s+4,0,none⟩),.pointer (some ⟨s+5,0,none⟩)],.agg #[.int .i64 x.1,.int .i64 x.2],undef,undef,undef,undef,undef,undef,undef,undef,undef,undef,undef,undef,undef,undef,undef,undef,undef,undef,undef,undef,undef,undef,undef,undef,undef,undef,undef,undef,undef],defers:=[] })
  (fun N x a' A B ⟨Bx,h0,h1,h2,h3⟩ hf=>⟨Bx,h0,h1,hf.blk h2 (by omega),h3⟩) ?assign ?body ?done ?stop
 case assign =>
  intro m l x W C hs hC
  gi_wp2
  exact hC _ _ ((af.refl _ W).alloc _) ⟨W.heap.size,Nat.le_refl _,hs,ag.new _ _ _,rfl⟩
 case body =>
  rintro m l pre x a' Wa W hsz ⟨_,kN,kI,hB⟩ ⟨Bx,hBa,hBx,kx,rfl⟩ hpre ⟨uy,_,_,_⟩ hfa;have kZ:=av.1 (hvl x (nH hpre (by simp)));have hnx:=DX pre p hp0 (fun y hy=>hvl y (nH hpre (by simp [hy])));have hlen:pre.length+1≤512:=by have:=hpre.length_le;simp at this;omega
  have hol:(jc p pre).1.length≤pre.length:=by have:=AO pre [] p;simpa [jc] using this
  have hgs:=ae (DW p pre x);generalize jc p pre=st at *;obtain ⟨out,nx⟩:=st;obtain ⟨xa,xb⟩:=x;dsimp only at uy kN kx kZ hnx hol hgs ⊢;obtain ⟨v,hv1,hrow,hnil⟩:=uy.ex;have agR:v.ownBlock≠some Bx:=fun e=>by have:=(hrow.lt _ e).2;omega
  have vG:∀g,v.ownBlock=some g→W0.heap.size+2≤g:=fun g e=>(hrow.lt _ e).1
  replace hv1:=hfa.blk hv1 (by omega);replace hrow:=aK hrow hfa (fun g e=>by have:=vG g e;omega);have cx:=kx.cell;have cv:=hv1.cell;have fv:=hv1.frozen;have cn:=kN.cell;have fn_:=kN.frozen;have kW:=ag.new W 140 #[.int .i64 nx,.int .i64 (xa - nx)];by_cases hgt:nx<xa
  ·have agS:decide (nx<xa)=true:=by simpa using hgt
   have hG:Hid (jc p (pre++[(xa,xb)])=(out++[(nx,xa - nx)],xa+xb)):=ae (by rw [hgs.out,Nq,if_pos hgt]);clear hgs hgt
   gi_wp2_with (first
    | (gi_at_builtin;refine wpListIn_append_own _ rfl (.tmp 19) (.tmp 26) 41 rfl (W0.heap.size+2) 140 i0 (.agg #[.int .i64 0,.int .i64 0]) 2 16 underlying41 hi hz0 hz1 hz2 rfl (by decide) v out.length (ax out) rfl (hrow.alloc _) ⟨W.heap.size,0,none⟩ 1 1 [.int .i64 nx,.int .i64 (xa - nx)] rfl rfl (ja kW) gQ (by unfold maxLen;omega) (by omega) (by simp;omega) ?_;intro v' w1 hown' hgrow _;rw [←dE out (nx,xa - nx)] at hown';obtain ⟨hv2,hb2,hf2⟩:=vF.appended hv1 (by decide) hrow hown' (by simp) (by simp) hgrow;obtain ⟨A',cap',rfl⟩:=ik hown' (by simp);have cv1:=hv2.cell;have fv1:=hv2.frozen;have hf3:=hf2 (fun k=>k=s+1∨v.ownBlock=some k) (.inl rfl) (fun g e=>.inr e);have Vl:=hf3.blk kN (by rintro (h|h);omega;have:=vG _ h;omega);have gp:=hf3.blk kx (by rintro (h|h);omega;exact agR h);have kI2:=hf3.blk kI (by rintro (h|h);omega;have:=vG _ h;omega);have cn2:=Vl.cell;have Nt:=gp.cell)
    | (gi_at_call 168;refine (CallsIn.inRound l (callsIn_wide.2 (jl _ _ _ (by omega) (by omega)))).mono ?_;rintro e w3 ⟨rfl,hq3⟩;have Lr:=Vl.call hq3;have cn3:=Lr.cell;have fn3:=Lr.frozen))
   have kI3:=kI2.call hq3;have hb3:=hb2.far (.of_below hq3:af (fun _=>False) _ _) id (fun _ _ h=>h);have qB:af (fun k=>k=s+2) w3 (w3.setCell ⟨s+2,0,none⟩ (.int .i64 (xa+xb))):=af.setCell (T:=fun k=>k=s+2) (p:=⟨s+2,0,none⟩) (af.refl _ _) (fun _=>rfl) _;have zH:af (fun k=>k=s+1∨k=s+2∨v.ownBlock=some k) W (w3.setCell ⟨s+2,0,none⟩ (.int .i64 (xa+xb))):=(af.call (hf3.mono fun k _ h=>by rcases h with h|h;exact .inl h;exact .inr (.inr h)) hq3).trans (qB.mono fun k _ h=>.inr (.inl h));show af _ _ _∧(vF _ _ _ _ _ (jc p (pre++[(xa,xb)])).1∧ag _ _ _ #[.int .i64 (jc p (pre++[(xa,xb)])).2]∧_∧_);rw [hG.out];refine ⟨zH.mono fun k _ h=>?_,hb3.far qB (by omega) (fun g hg=>by omega),Lr.aO 0 _,qB.blk kI3 (by omega),hB.trans (zH.below (by have:=hB.size;omega) (fun k hk=>?_))⟩
   ·rcases h with h|h|h
    ·omega
    ·omega
    ·have:=vG k h;omega
   ·rintro (h|h|h)
    ·omega
    ·omega
    ·have:=vG k h;omega
  ·have agS:decide (nx<xa)=false:=by simpa using hgt
   have hG:Hid (jc p (pre++[(xa,xb)])=(out,xa+xb)):=ae (by rw [hgs.out,Nq,if_neg hgt]);clear hgs hgt
   gi_wp2_with (gi_at_call 168;refine (CallsIn.inRound l (callsIn_wide.2 (jl _ _ _ (by omega) (by omega)))).mono ?_;rintro e w3 ⟨rfl,hq3⟩;have Lr:=kN.call hq3;have cn3:=Lr.cell;have fn3:=Lr.frozen)
   have kI3:=kI.call hq3;have hb2:vF W (s+1) 41 140 (W0.heap.size+2) out:=⟨v,hv1,hrow,hnil⟩;have hb3:=hb2.far (.of_below hq3:af (fun _=>False) _ _) id (fun _ _ h=>h);have qB:af (fun k=>k=s+2) w3 (w3.setCell ⟨s+2,0,none⟩ (.int .i64 (xa+xb))):=af.setCell (T:=fun k=>k=s+2) (p:=⟨s+2,0,none⟩) (af.refl _ _) (fun _=>rfl) _;have zH:af (fun k=>k=s+2) W (w3.setCell ⟨s+2,0,none⟩ (.int .i64 (xa+xb))):=(af.of_below hq3).trans qB;show af _ _ _∧(vF _ _ _ _ _ (jc p (pre++[(xa,xb)])).1∧ag _ _ _ #[.int .i64 (jc p (pre++[(xa,xb)])).2]∧_∧_);rw [hG.out];refine ⟨zH.mono fun k _ h=>by omega,hb3.far qB (by omega) (fun g hg=>by omega),Lr.aO 0 _,qB.blk kI3 (by omega),hB.trans (zH.below (by have:=hB.size;omega) (fun k hk=>by omega))⟩
 case done =>
  rintro W hsz ⟨uy,kN,kI,hB⟩ hd;rw [hs0] at hd uy hsz;have hfin:=ae (Ns (ay us [(p,q)]) p (p+q));have hnx:=DX (ay us [(p,q)]) p hp0 (fun y hy=>hvl y hy);have hol:(jc p (ay us [(p,q)])).1.length≤512:=by have:=AO (ay us [(p,q)]) [] p;simp only [List.length_nil] at this;unfold jc;omega
  have hq0 : -100000≤q∧q≤100000:=by have:=av.1 hv;simp only at this;omega
  have hq1:0≤p+q∧p+q≤1024:=by have:=av.1 hv;simp only at this;omega
  have hgf:Hid (Nr (jc p (ay us [(p,q)])) (p+q)=L):=ae (by rw [hfin.out];exact hL.out);clear hfin;generalize jc p (ay us [(p,q)])=st at *;obtain ⟨out,nx⟩:=st;dsimp only at uy kN hnx hol;obtain ⟨v,hv1,hrow,hnil⟩:=uy.ex;have vG:∀g,v.ownBlock=some g→s+6+2≤g:=fun g e=>(hrow.lt _ e).1
  have HE:Hid (∀z:Ext W,Calls prog 168 #[.agg #[.int .i64 p,.int .i64 q]] z.w fun e w''=>e= .returned (.int .i64 (p+q))∧∃t:Ext W,w''=t.w):=ae (fun z=>Ext.call (jl p q _ (by omega) hq0));have e1:=fun z:Ext W=>(z.blk kN).cell
  have e2:=fun z:Ext W=>(z.blk kI).cell
  by_cases hlt:nx<p+q
  ·have hlt':decide (nx<p+q)=true:=by simpa using hlt
   have hE:Hid (L=out++[(nx,p+q - nx)]):=ae (by rw [←hgf.out,Nr,if_pos hlt]);go_upto_region 8 with fail
   refine aF (by kernel_rfl) (by kernel_rfl) ?_
   repeat (go_big_quiet_step ((go_at_call 168;exact HE.out _)))
   refine wpQuiet_nil ?_;rintro w2 ⟨⟨_,hw2⟩,rfl⟩;clear e1 e2 HE hgf;have Vl:=kN.call hw2;have kI2:=kI.call hw2;have hv2:=hv1.call hw2;have hrow2:=aB hrow hw2;have hd2:w2.heap[s+6]? = some (.deferred (some [])):=(af.of_below (T:=fun _=>False) hw2).same hd id;have hB2:=hB.trans (hw2.mono (by have:=hB.size;omega));have hS0:Kg s p q nx v w2:=⟨kI2.cell 0,kI2.cell 1,Vl.cell 0,hv2.cell 0⟩;have HEW:=ae (fun W=>jl p q W (by omega) hq0);have hsz2:s+6+2≤w2.heap.size:=Nat.le_trans hsz hw2.size;go_upto_region 9 with fail
   refine bO ?_;refine bD (Kg s p q nx v) [9] (by kernel_rfl) ?_;have hS:Kg s p q nx v w2.drew:=hS0;refine aX 0 hS ?_;refine aX 1 hS ?_;refine aX 2 hS ?_;refine aX 4 hS ?_;refine fu 3 fun K hK=>?_
   go_simp;refine (HEW.out _).mono ?_;rintro e w3 ⟨rfl,hq3⟩;have DY:Below w2.heap.size w2 w3:=(Below.refl _ w2).drew.trans hq3;refine hK.out _ _ (fun _=>hS0.later DY (by omega)) (fun hS=>?_);clear hK K;replace hS:=hS rfl;try simp only [Act.put,gM,gN,gP]
   refine aX 5 hS ?_;rw [IntWalk.i64_in (p+q - nx) (by omega)];refine aX 6 hS ?_;refine fu 7 fun K hK=>?_
   go_simp;have hq4:=DY.alloc DY.size (.cells #[.int .i64 nx,.int .i64 (p+q - nx)] 140);refine hK.out _ _ (fun _=>hS0.later hq4 (by omega)) (fun hS=>?_);clear hK K;replace hS:=hS rfl;have kW:=ag.new w3 140 #[.int .i64 nx,.int .i64 (p+q - nx)];have hv3:=hv2.call DY;have hrow3:=aB hrow2 DY;have hs3:s+6+2≤w3.heap.size:=Nat.le_trans hsz2 DY.size;try simp only [Act.put,gM,gN,gP]
   refine fu 8 fun K hK=>?_
   rw [if_pos (by simp [Region.wanted])];refine wp_append_own _ (.tmp 34) (.tmp 41) 41 rfl (s+6+2) 140 i0 (.agg #[.int .i64 0,.int .i64 0]) 2 16 underlying41 hi hz0 hz1 hz2 rfl (by decide) v out.length (ax out) rfl (hrow3.alloc _) ⟨w3.heap.size,0,none⟩ 1 1 [.int .i64 nx,.int .i64 (p+q - nx)] rfl rfl (ja kW) gQ (by unfold maxLen;omega) (by omega) (by simp;omega) ?_;intro v' w4 hown' hgrow _;rw [←dE out (nx,p+q - nx)] at hown';obtain ⟨hv4,hb4,qB⟩:=vF.appended hv3 (by decide) hrow3 hown' (by simp) (by simp) hgrow;obtain ⟨A',cap',rfl⟩:=ik hown' (by simp);have cv4:=hv4.cell;have fv4:=hv4.frozen;have rZ:Below (s+6+2) w2 w4:=(hq4.mono hsz2).grown hgrow (by simp;omega) (fun j hj=>vG j hj);refine hK.out _ _ (fun _=>hS0.later rZ (by omega)) (fun hS=>?_);clear hK K;replace hS:=hS rfl;try simp only [Act.put,gM,gN,gP]
   refine fu 9 fun K hK=>?_
   go_simp;refine hK.out _ _ (fun h=>absurd h (by decide)) (fun _=>?_);clear hK K;refine bz (by kernel_rfl) ?_ _;refine aT ?_;obtain ⟨v5,k5,Dh,_⟩:=hb4.ex;have zH:=qB (fun k=>k=s+1∨v.ownBlock=some k) (.inl rfl) (fun g e=>.inr e);have hB3:=hB2.trans (DY.mono (by have:=hB2.size;have:=hB.size;omega));generalize w4.setCell ⟨s+1,0,none⟩ (.slice A' (out.length+1) cap')=w5 at *;have hd5:w5.heap[s+6]? = some (.deferred (some [])):=zH.same ((af.of_below (T:=fun _=>False) DY).same hd2 id) (by rintro (h|h);omega;have:=vG _ h;omega);have QJ:=hB3.trans (zH.below (by have:=hB3.size;have:=hB.size;omega) (fun k hk=>by rintro (h|h);omega;have:=vG _ h;omega));have c5:=k5.cell;obtain ⟨A5,cap5,rfl⟩:=ik Dh rfl;clear hv4 hb4 qB cv4 fv4 hown' hgrow;go_wp2_with fail;rw [hE.out];have hfp:af (fun k=>k=s+6) w5 (w5.putObj (s+6) (.deferred none)):=af.putObj (T:=fun k=>k=s+6) (af.refl _ _) (fun _=>rfl) _;have XD:=aK Dh hfp (fun g hg h=>by have:=(Dh.lt g hg).1;omega);obtain ⟨A6,cap6,he,gG,h1,h2,h3,_⟩:=mU XD rfl;cases he;exact eY (v:=.slice A5 (out++[(nx,p+q - nx)]).length cap5) hd5 (by simp [results,results120,go_sem]) ⟨A5,cap5,rfl,gG,h1,h2,fun b o e=>by have:=h3 b o e;omega,by rw [hs];exact QJ.trans (hfp.below (by have:=QJ.size;omega) (fun k hk=>by omega)),FI XD⟩
  ·have hlt':decide (nx<p+q)=false:=by simpa using hlt
   have hE:Hid (L=out):=ae (by rw [←hgf.out,Nr,if_neg hlt,List.append_nil]);go_upto_region 8 with fail
   refine aF (by kernel_rfl) (by kernel_rfl) ?_
   repeat (go_big_quiet_step ((go_at_call 168;exact HE.out _)))
   refine wpQuiet_nil ?_;rintro w2 ⟨⟨_,hw2⟩,rfl⟩;have hv2:=hv1.call hw2;have hrow2:=aB hrow hw2;have hd2:w2.heap[s+6]? = some (.deferred (some [])):=(af.of_below (T:=fun _=>False) hw2).same hd id;have hB2:=hB.trans (hw2.mono (by have:=hB.size;omega));have cv:=hv2.cell;obtain ⟨A',cap',rfl⟩:=ik hrow2 rfl;go_wp2_with fail;rw [hE.out];have hfp:af (fun k=>k=s+6) w2 (w2.putObj (s+6) (.deferred none)):=af.putObj (T:=fun k=>k=s+6) (af.refl _ _) (fun _=>rfl) _;have hrow3:=aK hrow2 hfp (fun g hg h=>by have:=(hrow2.lt g hg).1;omega);obtain ⟨A2,cap2,he,gG,h1,h2,h3,_⟩:=mU hrow3 rfl;cases he;exact eY (v:=.slice A' out.length cap') hd2 (by simp [results,results120,go_sem]) ⟨A',cap',rfl,gG,h1,h2,fun b o e=>by have:=h3 b o e;omega,hB2.trans (hfp.below (by have:=hB2.size;omega) (fun k hk=>by omega)),FI hrow3⟩
 case stop=>exact fun _ _ _ _ _ h _=>h.elim
theorem Kj (A:Option Addr) (n cap:Nat) (us:List Sp) (p q:Int) (w:World) (hn:us.length=n) (hm:n≤cap) (hc:cap≤maxLen) (hr:RU w w.heap.size A us) (hu:Go.Pol.Can us) (hv:bB (p,q)=true) :
  Calls prog 120 #[.slice A n cap,.agg #[.int .i64 p,.int .i64 q]] w fun e w'=>∃(A':Option Addr) (cap':Nat),e= .returned (.slice A' (aZ us (p,q)).length cap')∧RU w' w'.heap.size A' (aZ us (p,q))∧(aZ us (p,q)).length≤cap'∧cap'≤maxLen∧(∀b o,A'=some ⟨b,o,none⟩→w.heap.size≤b)∧Below w.heap.size w w':=by
 refine (Kh A n cap us p q w hn hm hc hr hu hv).mono ?_;rintro e w' ⟨A',cap',h1,h2,h3,h4,h5,h6,_⟩;exact ⟨A',cap',h1,h2,h3,h4,h5,h6⟩
def rM (w:World) (us:List Sp) (er:Int) (e:Ending) (w':World):Prop :=
 ∃(A:Option Addr) (cap:Nat),e= .returned (.tuple #[.slice A us.length cap,.int .i64 er])∧RU w' w'.heap.size A us∧us.length≤cap∧cap≤maxLen∧(∀b o,A=some ⟨b,o,none⟩→w.heap.size≤b)∧Below w.heap.size w w'∧(A=none→cap=0)
theorem XE (A:Option Addr) (n cap:Nat) (us:List Sp) (p q:Int) (w:World) (hn:us.length=n) (hm:n≤cap) (hc:cap≤maxLen) (hr:RU w w.heap.size A us) :
  Calls prog 209 #[.slice A n cap,.agg #[.int .i64 p,.int .i64 q]] w (rM w (if lq us (p,q)=0 then aZ us (p,q) else []) (lq us (p,q))):=by
 have HA:=ae (fun W h=>Ng A n cap us p q W hn (Nat.le_trans hm hc) h);have hb0:=aV w (.cells #[.int .i64 p,.int .i64 q] 140);have k0:=ag.new w 140 #[.int .i64 p,.int .i64 q];have hr0:RU _ _ A us:=(hr.below hb0).more hb0.size;by_cases h0:lq us (p,q)=0
 ·have h0':=h0
  unfold lq at h0';have Vn:Go.Pol.Can us:=by
   by_cases hz:dX us=0
   ·exact bP.1 hz
   ·rw [if_neg hz] at h0';exact absurd h0' hz
  have hv:bB (p,q)=true:=by
   rw [if_pos (bP.2 Vn)] at h0';by_cases hz:bB (p,q)=true
   ·exact hz
   ·rw [if_neg hz] at h0';cases h0'
  clear h0';rw [h0] at HA ⊢;rw [if_pos rfl];have HG:=ae (fun W h=>Kh A n cap us p q W hn hm hc h Vn hv);obtain ⟨L,hL0⟩:=aj (aZ us (p,q));rw [hL0] at HG ⊢;clear hL0 h0;go_enter func209,ntmps209
  go_wp2_with (first
   | (go_at_call 130;refine (HA.out _ hr0).mono ?_;rintro e w1 ⟨rfl,hq⟩;have k1:=k0.call hq;have c1:=k1.cell;have hb1:=hb0.trans (hq.mono hb0.size);have hr1:RU _ _ A us:=(hr0.below hq).more hq.size)
   | (go_at_call 120;refine (HG.out _ hr1).mono ?_;rintro e w2 ⟨A',cap',rfl,gG,h1,h2,h3,hq2,h4⟩))
  go_ret2;exact ⟨A',cap',rfl,gG,h1,h2,fun b o e=>by have:=h3 b o e;have:=hb1.size;omega,hb1.trans (hq2.mono hb1.size),h4⟩
 ·rw [if_neg h0]
  generalize lq us (p,q)=er at *;have hc':(er != 0)=true:=by simpa using h0
  clear h0;go_enter func209,ntmps209
  go_wp2_with (go_at_call 130;refine (HA.out _ hr0).mono ?_;rintro e w1 ⟨rfl,hq⟩;have hb1:=hb0.trans (hq.mono hb0.size))
  go_ret2;exact ⟨none,0,rfl,RU.nil,by simp,by unfold maxLen;omega,fun b o e=>(by cases e),hb1,fun _=>rfl⟩
def eH (pg n f b ev:Int):List Sp:=if bN pg n f b ev=0 then aZ (aA pg n f b ev) (pg,n) else []
theorem Vo {pg n f b ev:Int} (hp:dS pg n f b ev):lq (aA pg n f b ev) (pg,n)=0:=by
 rw [lq,if_pos (bP.2 (bL hp)),if_pos (av.2 ⟨hp.De,hp.Xp,hp.n0,hp.n1⟩)]
theorem Nu (pg n f b ev:Int) (w:World) :
  Calls prog 190 #[eQ pg n f b ev] w (rM w (eH pg n f b ev) (bN pg n f b ev)):=by
 have HU:=ae (fun W=>Np pg n f b ev W);have hb0:=aV w (.cells (bf pg n f b ev) 25);have k0:=ag.new w 25 (bf pg n f b ev);have c0:=k0.cell;unfold eH;by_cases hc:bN pg n f b ev=0
 ·have hp:=bU.1 hc
  have ha:=Vo hp;rw [hc,if_pos rfl] at HU;rw [hc,if_pos rfl];have HN:=ae (fun A cap W h1 h2 h3=>XE A (aA pg n f b ev).length cap (aA pg n f b ev) pg n W rfl h1 h2 h3);rw [ha,if_pos rfl] at HN;clear ha hc hp;generalize aZ (aA pg n f b ev) (pg,n)=G at *;generalize aA pg n f b ev=L at *;go_enter func190,ntmps190
  go_wp2_with (first
   | (go_at_call 70;refine (HU.out _).mono ?_;rintro e w1 ⟨A1,c1,rfl,hr1,hl1,hm1,_,hq⟩;have k1:=k0.call hq;have cc:=k1.cell;have hb1:=hb0.trans (hq.mono hb0.size))
   | (go_at_call 209;refine (HN.out _ _ _ hl1 hm1 hr1).mono ?_;rintro e w2 ⟨A2,c2,rfl,hr2,hl2,hm2,ho2,hq2,hz2⟩))
  go_ret2;exact ⟨A2,c2,rfl,hr2,hl2,hm2,fun b o e=>by have:=ho2 b o e;have:=hb1.size;omega,hb1.trans (hq2.mono hb1.size),hz2⟩
 ·rw [if_neg hc] at HU ⊢
  generalize bN pg n f b ev=er at *;have hc':(er != 0)=true:=by simpa using hc
  clear hc;go_enter func190,ntmps190
  go_wp2_with (go_at_call 70;refine (HU.out _).mono ?_;rintro e w1 ⟨A1,c1,rfl,hr1,hl1,hm1,_,hq⟩;have hb1:=hb0.trans (hq.mono hb0.size))
  go_ret2;exact ⟨none,0,rfl,RU.nil,by simp,by unfold maxLen;omega,fun b o e=>(by cases e),hb1,fun _=>rfl⟩
theorem DZ {w1:World} {pg n f b ev:Int} (hp:dS pg n f b ev) :
  xX prog 175 #[.pointer (some ⟨w1.heap.size,0,none⟩)] Xq (fun _=>False) (fun k=>k=w1.heap.size) (aA pg n f b ev) (w1.alloc (.cells (bf pg n f b ev) 25)) :=
 Az pg n f b ev w1.heap.size _ hp (ag.new w1 25 (bf pg n f b ev))
def ab4 (s:Nat) (n sm:Int) (w:World):Prop:=w.cell? ⟨s+1,0,none⟩=some (.int .i64 sm)∧w.cell? ⟨s,1,none⟩=some (.int .i64 n)
def lC (pg n f b ev:Int):Int×Int:=if bN pg n f b ev=0 then (aI (aA pg n f b ev),n - aI (aA pg n f b ev)) else (0,0)
theorem FP (pg n f b ev:Int) (w:World) :
  Calls prog 50 #[eQ pg n f b ev] w fun e w'=>e= .returned (.tuple #[.int .i64 (lC pg n f b ev).1,.int .i64 (lC pg n f b ev).2,.int .i64 (bN pg n f b ev)])∧Below w.heap.size w w':=by
 have HC:=ae (fun W=>uw pg n f b ev W);have HR:=ae (fun W=>zf pg n f b ev W);have hb0:=(aV w (.cells (bf pg n f b ev) 25)).alloc (by simp) (.cells #[.int .i64 0] 3);have kP:=(ag.new w 25 (bf pg n f b ev)).alloc (.cells #[.int .i64 0] 3);have kU:=ag.new (w.alloc (.cells (bf pg n f b ev) 25)) 3 #[.int .i64 0];rw [World.size_alloc] at kU;have cP:=kP.cell;have fU:=kU.frozen;have cU:=kU.cell;unfold lC;by_cases hc:bN pg n f b ev=0
 ·have hp:=bU.1 hc
  rw [hc] at HC ⊢;rw [if_pos rfl];have HSQ:=ae (fun w1=>DZ (w1:=w1) hp);have hvl:=(bL hp).1;have hlen:=(bL hp).len;generalize aA pg n f b ev=L at *;obtain ⟨sm,XF⟩:∃z,aI L=z:=⟨_,rfl⟩;rw [XF];have hSM:=ae XF;clear XF;refine bM func50 rfl ?_;simp only [ntmps50,List.size_toArray,List.length_cons,List.length_nil,Nat.reduceAdd,Nat.reduceSub,Array.replicate_succ,Array.replicate_zero,List.push_toArray,List.append_toArray,List.nil_append,List.cons_append]
  go_wp2_with (first
   | (go_at_call 115;refine (HC.out _).mono ?_;rintro e w1 ⟨rfl,hq⟩;have QL:=kP.call hq;have QM:=kU.call hq;have cP1:=QL.cell;have hb1:=hb0.trans (hq.mono hb0.size))
   | (go_at_call 116;refine (HR.out _).mono ?_;rintro e w2 ⟨rfl,rfl⟩))
  obtain ⟨s,hs⟩:=aj (w.heap.size);rw [hs] at hb0 hb1 QL QM ⊢;have hsz1:=hb1.size;obtain ⟨W0,hW0⟩:=aj (w1.alloc (.cells (bf pg n f b ev) 25));have hs0:W0.heap.size=w1.heap.size+1:=by rw [←hW0];simp
  have kP0:ag W0 s 25 (bf pg n f b ev):=by rw [←hW0];exact QL.alloc _
  have kU0:ag W0 (s+1) 3 #[.int .i64 0]:=by rw [←hW0];exact QM.alloc _
  have hB0:Below s w W0:=by rw [←hW0];exact hb1.alloc (by omega) _
  have hseq:=HSQ.out w1;rw [hW0] at hseq ⊢;clear hW0;have ls1:=QM.lt;refine Nn 6 14 140 (gf:=175) (lb:=#[.pointer (some ⟨w1.heap.size,0,none⟩)]) rfl qY hseq rfl (fun _ h=>h.elim) (fun k h=>by omega)
   (fun pre W=>ag W (s+1) 3 #[.int .i64 (aI pre)]∧ag W s 25 (bf pg n f b ev)∧Below s w W) (fun _ _ _=>False)
   (fun pre A B h hf=>⟨hf.blk h.1 (by rintro (h|h|h) <;> omega),hf.blk h.2.1 (by rintro (h|h|h) <;> omega),h.2.2.trans (hf.below (Nat.le_trans (by omega) h.2.2.size) (fun k hk=>by rintro (h|h|h) <;> omega))⟩)
   (fun _ _ _ _ h _=>h.elim) ⟨kU0,kP0,hB0⟩ ?assign ?body ?done (fun _ _ _ _ _ h _=>h.elim)
  case assign =>
   intro m l x W C hC;simp only [List.setIfInBounds_toArray,List.set_cons_succ,List.set_cons_zero] at hC ⊢
   gi_wp2
   exact hC
  case body =>
   rintro m l pre x Bx Wa W hsz ⟨kU,kP,hB⟩ hpre hBx kx _ _ _;simp only [List.setIfInBounds_toArray,List.set_cons_succ,List.set_cons_zero];have kZ:=av.1 (hvl x (nH hpre (by simp)));have hsb:=iA pre (fun y hy=>hvl y (nH hpre (by simp [hy])));have hpl:pre.length≤512:=by have:=hpre.length_le;simp at this;omega
   have hsn:=ae (r9 pre x);obtain ⟨xa,xb⟩:=x;dsimp only at kx kZ hsn;generalize aI pre=sp at *;have cx:=kx.cell;have cU:=kU.cell;have fU:=kU.frozen
   gi_wp2_with fail
   have qB:af (fun k=>k=s+1) W (W.setCell ⟨s+1,0,none⟩ (.int .i64 (sp+xb))):=af.setCell (T:=fun k=>k=s+1) (p:=⟨s+1,0,none⟩) (af.refl _ _) (fun _=>rfl) _;show af _ _ _∧(ag _ _ _ #[.int .i64 (aI (pre++[(xa,xb)]))]∧_∧_);rw [hsn.out];exact ⟨qB.mono fun k _ h=>by omega,kU.aO 0 _,qB.blk kP (by omega),hB.trans (qB.below (by have:=hB.size;omega) (fun k hk=>by omega))⟩
  case done =>
   rintro W hsz ⟨kU,kP,hB⟩ hd;have hsb:=iA L (fun y hy=>hvl y hy);have hn1:=hp.n1;have hn0:=hp.n0;have hp0:=hp.De;rw [hSM.out] at hsb kU;rw [hs0] at hd hsz;go_upto_region 7 with fail
   refine bO ?_;refine bD (ab4 s n sm) [] (by kernel_rfl) ?_;have hS:ab4 s n sm W.drew:=⟨kU.cell 0,kP.cell 1⟩;refine aX 0 hS ?_;refine aX 1 hS ?_;refine aX 2 hS ?_;refine aX 3 hS ?_;refine aX 4 hS ?_;rw [IntWalk.i64_in (n - sm) (by omega)];refine fu 5 fun K hK=>?_
   have kUd:=kU.drew;have cU:=kUd.cell;have fU:=kUd.frozen;go_simp;have zH:af (fun k=>k=s+1) W (W.setCell ⟨s+1,0,none⟩ (.int .i64 sm)).drew:=af.drew (af.setCell (T:=fun k=>k=s+1) (p:=⟨s+1,0,none⟩) (af.refl _ _) (fun _=>rfl) _);have kU5:ag (W.setCell ⟨s+1,0,none⟩ (.int .i64 sm)).drew (s+1) 3 #[.int .i64 sm]:=(kU.aO 0 (.int .i64 sm)).drew;have kP5:=zH.blk kP (by omega);refine hK.out _ _ (fun _=>⟨kU5.cell 0,kP5.cell 1⟩) (fun hS=>?_);clear hK K;replace hS:=hS rfl;have hd5:=zH.same hd (by omega);have QJ:=hB.trans (zH.below (by have:=hB.size;omega) (fun k hk=>by omega));generalize (W.setCell ⟨s+1,0,none⟩ (.int .i64 sm)).drew=w5 at *;try simp only [Act.put,gM,gN,gP]
   refine aX 6 hS ?_;refine aX 7 hS ?_;refine bz (by kernel_rfl) ?_ _;refine aT ?_;have c5:=kU5.cell;go_wp2_with fail;have hfp:af (fun k=>k=w1.heap.size+1) w5 (w5.putObj (w1.heap.size+1) (.deferred none)):=af.putObj (T:=fun k=>k=w1.heap.size+1) (af.refl _ _) (fun _=>rfl) _;have kU6:=hfp.blk kU5 (by omega);have c6:=kU6.cell;exact eY (v:=.tuple #[.int .i64 sm,.int .i64 (n - sm),.int .i64 0]) hd5 (by simp [results,results50,go_sem,c6]) ⟨rfl,(by rw [hs];exact (QJ).trans (hfp.below (by have:=(QJ).size;omega) (fun k hk=>by omega)))⟩
 ·rw [if_neg hc]
  generalize bN pg n f b ev=er at *;have hc':(er != 0)=true:=by simpa using hc
  clear hc;refine bM func50 rfl ?_;simp only [ntmps50,List.size_toArray,List.length_cons,List.length_nil,Nat.reduceAdd,Nat.reduceSub,Array.replicate_succ,Array.replicate_zero,List.push_toArray,List.append_toArray,List.nil_append,List.cons_append]
  go_wp2_with (go_at_call 115;refine (HC.out _).mono ?_;rintro e w1 ⟨rfl,hq⟩;have QM:=kU.call hq;have cU1:=QM.cell;have fU1:=QM.frozen;have hb1:=hb0.trans (hq.mono hb0.size))
  have kU2:=QM.aO 0 (.int .i64 0);have cU2:=kU2.cell;exact iw (v:=.tuple #[.int .i64 0,.int .i64 0,.int .i64 er]) (by simp [results,results50,go_sem,cU2]) ⟨rfl,hb1.setCell (p:=⟨w.heap.size+1,0,none⟩) (by simp) _⟩
theorem XG (pg n f b ev i:Int) (w:World) (hi0 : -9223372036854775808≤i) (hi1:i≤9223372036854775807) (R:Int×Int) (hR:(if bN pg n f b ev=0 then lu (aA pg n f b ev) i else (0,bN pg n f b ev))=R) :
  Calls prog 65 #[eQ pg n f b ev,.int .i64 i] w fun e w'=>e= .returned (.tuple #[.int .i64 R.1,.int .i64 R.2])∧Below w.heap.size w w':=by
 have HC:=ae (fun W=>uw pg n f b ev W);have HR:=ae (fun W=>zf pg n f b ev W);obtain ⟨s,hs⟩:=aj (w.heap.size);obtain ⟨Wb,QN⟩:=aj ((((w.alloc (.cells (bf pg n f b ev) 25)).alloc (.cells #[.int .i64 i] 3)).alloc (.cells #[.int .i64 0] 3)).alloc (.cells #[.int .i64 0] 36));have hb0:Below s w Wb:=by rw [←QN,←hs];exact (((aV w _).alloc (by simp) _).alloc (by simp;omega) _).alloc (by simp;omega) _
 have kP:ag Wb s 25 (bf pg n f b ev):=by rw [←QN,←hs];exact (((ag.new _ _ _).alloc _).alloc _).alloc _
 have kI:ag Wb (s+1) 3 #[.int .i64 i]:=by
  rw [←QN,←hs];have:=ag.new (w.alloc (.cells (bf pg n f b ev) 25)) 3 #[.int .i64 i];rw [World.size_alloc] at this;exact (this.alloc _).alloc _
 have kO:ag Wb (s+2) 3 #[.int .i64 0]:=by
  rw [←QN,←hs];have:=ag.new ((w.alloc (.cells (bf pg n f b ev) 25)).alloc (.cells #[.int .i64 i] 3)) 3 #[.int .i64 0];simp only [World.size_alloc] at this;exact this.alloc _
 have kE:ag Wb (s+3) 36 #[.int .i64 0]:=by
  rw [←QN,←hs];have:=ag.new (((w.alloc (.cells (bf pg n f b ev) 25)).alloc (.cells #[.int .i64 i] 3)).alloc (.cells #[.int .i64 0] 3)) 36 #[.int .i64 0];simp only [World.size_alloc] at this;exact this
 have hW1:Hid ((((w.alloc (.cells (bf pg n f b ev) 25)).alloc (.cells #[.int .i64 i] 3)).alloc (.cells #[.int .i64 0] 3)).alloc (.cells #[.int .i64 0] 36)=Wb):=ae QN;clear QN;have HR1:=ae hR;clear hR;by_cases hc:bN pg n f b ev=0
 case neg =>
  rw [if_neg hc] at HR1;generalize bN pg n f b ev=er at *;have hc':(er != 0)=true:=by simpa using hc
  have hE1:Hid (R=(0,er)):=ae HR1.out.symm;clear hc HR1;have cP:=kP.cell;refine bM func65 rfl ?_;simp only [ntmps65,List.size_toArray,List.length_cons,List.length_nil,Nat.reduceAdd,Nat.reduceSub,Array.replicate_succ,Array.replicate_zero,List.push_toArray,List.append_toArray,List.nil_append,List.cons_append];go_upto_region 1 with fail
  simp only [Nat.add_assoc,Nat.reduceAdd];rw [hW1.out]
  go_wp2_with (go_at_call 115;refine (HC.out _).mono ?_;rintro e w1 ⟨rfl,hq⟩;have kO1:=kO.call hq;have Vp:=kE.call hq;have cO1:=kO1.cell;have fO1:=kO1.frozen;have cE1:=Vp.cell;have fE1:=Vp.frozen;have hb1:=hb0.trans (hq.mono (by have:=hb0.size;omega)))
  obtain ⟨k2,k3,hf2⟩:=BN (by omega) kO1 Vp (.int .i64 0) (.int .i64 er);have c2:=k2.cell;have c3:=k3.cell;exact iw (v:=.tuple #[.int .i64 0,.int .i64 er]) (by simp [results,results65,go_sem,c2,c3]) ⟨by rw [hE1.out],by rw [hs];exact hb1.trans (hf2.below (by have:=hb1.size;omega) (fun k hk=>by omega))⟩
 case pos =>
  have hp:=bU.1 hc;rw [hc] at HC;rw [if_pos hc] at HR1;have HSQ:=ae (fun w1=>DZ (w1:=w1) hp);have hvl:=(bL hp).1;have hlen:=(bL hp).len;clear hc;generalize aA pg n f b ev=L at *;have cP:=kP.cell;refine bM func65 rfl ?_;simp only [ntmps65,List.size_toArray,List.length_cons,List.length_nil,Nat.reduceAdd,Nat.reduceSub,Array.replicate_succ,Array.replicate_zero,List.push_toArray,List.append_toArray,List.nil_append,List.cons_append];go_upto_region 1 with fail
  simp only [Nat.add_assoc,Nat.reduceAdd];rw [hW1.out]
  go_wp2_with (first
   | (go_at_call 115;refine (HC.out _).mono ?_;rintro e w1 ⟨rfl,hq⟩;have QL:=kP.call hq;have kI1:=kI.call hq;have kO1:=kO.call hq;have Vp:=kE.call hq;have cP1:=QL.cell;have hb1:=hb0.trans (hq.mono (by have:=hb0.size;omega)))
   | (go_at_call 116;refine (HR.out _).mono ?_;rintro e w2 ⟨rfl,rfl⟩))
  obtain ⟨W0,hW0⟩:=aj (w1.alloc (.cells (bf pg n f b ev) 25));have hs0:W0.heap.size=w1.heap.size+1:=by rw [←hW0];simp
  have hB0:Below s w W0:=by rw [←hW0];exact hb1.alloc (by have:=hb1.size;omega) _
  have FK:af (fun _=>False) w1 W0:=by rw [←hW0];exact (af.refl _ _).alloc _
  have hseq:=HSQ.out w1;rw [hW0] at hseq ⊢;clear hW0;have kI0:=FK.blk kI1 id;have kO0:=FK.blk kO1 id;have kE0:=FK.blk Vp id;have ls1:=Vp.lt;have agV:=hb1.size;refine Nn 7 15 140 (gf:=175) (lb:=#[.pointer (some ⟨w1.heap.size,0,none⟩)]) rfl qY hseq rfl (fun _ h=>h.elim) (fun k h=>by omega)
   (fun pre W=>ag W (s+1) 3 #[.int .i64 (i - aI pre)]∧ag W (s+2) 3 #[.int .i64 0]∧ag W (s+3) 36 #[.int .i64 0]∧Below s w W∧Hid ((pre≠[]→0≤i - aI pre)∧∀rest,L=pre++rest→lu L i=lu rest (i - aI pre)))
   (fun c pre W=>((c= .ret∧ag W (s+2) 3 #[.int .i64 R.1]∧ag W (s+3) 36 #[.int .i64 R.2])∨(c= .exit 0∧ag W (s+2) 3 #[.int .i64 0]∧ag W (s+3) 36 #[.int .i64 0]∧Hid (R=(0,7))))∧Below s w W)
   (fun pre A B h hf=>⟨hf.blk h.1 (by rintro (h|h|h) <;> omega),hf.blk h.2.1 (by rintro (h|h|h) <;> omega),hf.blk h.2.2.1 (by rintro (h|h|h) <;> omega),h.2.2.2.1.trans (hf.below (Nat.le_trans (by omega) h.2.2.2.1.size) (fun k hk=>by rintro (h|h|h) <;> omega)),h.2.2.2.2⟩)
   (fun c pre A B h hf=>⟨h.1.imp (fun h=>⟨h.1,hf.blk h.2.1 (by rintro (h|h|h) <;> omega),hf.blk h.2.2 (by rintro (h|h|h) <;> omega)⟩) (fun h=>⟨h.1,hf.blk h.2.1 (by rintro (h|h|h) <;> omega),hf.blk h.2.2.1 (by rintro (h|h|h) <;> omega),h.2.2.2⟩),h.2.trans (hf.below (Nat.le_trans (by omega) h.2.size) (fun k hk=>by rintro (h|h|h) <;> omega))⟩)
   ⟨by simpa [aI] using kI0,kO0,kE0,hB0,ae ⟨fun h=>absurd rfl h,fun rest h=>by rw [h];simp [aI]⟩⟩ ?assign ?body ?done ?stop
  case assign =>
   intro m l x W C hC;simp only [List.setIfInBounds_toArray,List.set_cons_succ,List.set_cons_zero] at hC ⊢
   gi_wp2
   exact hC
  case body =>
   rintro m l pre x Bx Wa W hsz ⟨kI,kO,kE,hB,hH⟩ hpre hBx kx _ _ _;simp only [List.setIfInBounds_toArray,List.set_cons_succ,List.set_cons_zero];have kZ:=av.1 (hvl x (nH hpre (by simp)));have hsb:=iA pre (fun y hy=>hvl y (nH hpre (by simp [hy])));have hpl:pre.length≤512:=by have:=hpre.length_le;simp at this;omega
   have hsn:=ae (r9 pre x);obtain ⟨rest,hrest⟩:=Ls hpre;have hN:=ae (hH.out.2 _ hrest);have hN':=hN;have hL1:=ae hrest;have hv0:=hH.out.1;clear hrest hpre hH;obtain ⟨v,hv⟩:=aj (i - aI pre);rw [hv] at hN hv0 kI;have hvb : -9223372036854775808≤v∧v≤9223372036854775807:=by
    by_cases h:pre=[]
    ·subst h;simp [aI] at hv;omega
    ·have:=hv0 h;omega
   have hv':=ae hv;clear hv hv0 hsb hi0 hi1;obtain ⟨xa,xb⟩:=x;dsimp only at kx kZ hsn;have cx:=kx.cell;have cI:=kI.cell;have fI:=kI.frozen;have cO:=kO.cell;have fO:=kO.frozen;have cE:=kE.cell;have fE:=kE.frozen;by_cases h1:v<0
   ·have h1':decide (v<0)=true:=by simpa using h1
    have hE:Hid (R=(0,7)):=ae (by rw [←HR1.out,hN.out,lu,if_pos h1])
    gi_wp2_with fail
    exact ⟨af.refl _ _,.inr ⟨rfl,kO,kE,hE⟩,hB⟩
   ·have h1':decide (v<0)=false:=by simpa using h1
    by_cases h2:v<xb
    ·have h2':decide (v<xb)=true:=by simpa using h2
     have hE:Hid (R=(xa+v,0)):=ae (by rw [←HR1.out,hN.out,lu,if_neg h1,if_pos h2])
     gi_wp2_with fail
     obtain ⟨k2,k3,hf2⟩:=BN (by omega) kO kE (.int .i64 (xa+v)) (.int .i64 0);exact ⟨hf2.mono fun k _ h=>by omega,.inl ⟨rfl,by rw [hE.out];exact k2,by rw [hE.out];exact k3⟩,hB.trans (hf2.below (by have:=hB.size;omega) (fun k hk=>by omega))⟩
    ·have h2':decide (v<xb)=false:=by simpa using h2
     have hN2:=ae (QK hN'.out (by rw [hv'.out];exact h1) (by rw [hv'.out];exact h2))
     gi_wp2_with fail
     have qB:af (fun k=>k=s+1) W (W.setCell ⟨s+1,0,none⟩ (.int .i64 (v - xb))):=af.setCell (T:=fun k=>k=s+1) (p:=⟨s+1,0,none⟩) (af.refl _ _) (fun _=>rfl) _;refine ⟨qB.mono fun k _ h=>by omega,?_,qB.blk kO (by omega),qB.blk kE (by omega),hB.trans (qB.below (by have:=hB.size;omega) (fun k hk=>by omega)),?_⟩
     ·rw [hsn.out,show i - (aI pre+xb)=v - xb by have:=hv'.out;omega];exact kI.aO 0 _
     ·refine ae ⟨fun _=>by rw [hsn.out];have:=hv'.out;omega,fun aej h=>?_⟩
      have hr2:aej=rest:=by rw [hL1.out] at h;simpa using h.symm
      rw [hr2];exact hN2.out
  case done =>
   rintro W hsz ⟨kI,kO,kE,hB,hH⟩ hd;rw [hs0] at hd hsz;have hE:Hid (R=(0,7)):=ae (by rw [←HR1.out,hH.out.2 [] (by simp)];rfl);have cO:=kO.cell;have fO:=kO.frozen;have cE:=kE.cell;have fE:=kE.frozen;go_wp2_with fail;obtain ⟨k2,k3,hf2⟩:=BN (by omega) kO kE (.int .i64 0) (.int .i64 7);have hd2:=hf2.same hd (by omega);have hB2:=hB.trans (hf2.below (by have:=hB.size;omega) (fun k hk=>by omega));generalize ((W.setCell ⟨s+2,0,none⟩ (.int .i64 0)).setCell ⟨s+3,0,none⟩ (.int .i64 7))=w5 at *;rw [hs0];have hfp:af (fun k=>k=w1.heap.size+1) w5 (World.putObj w5 (w1.heap.size+1) (.deferred none)):=af.putObj (T:=fun k=>k=w1.heap.size+1) (af.refl _ _) (fun _=>rfl) _;have c6:=(hfp.blk k2 (by omega)).cell;have c7:=(hfp.blk k3 (by omega)).cell;exact eY (v:=.tuple #[.int .i64 (((0:Int),(7:Int))).1,.int .i64 (((0:Int),(7:Int))).2]) hd2 (by simp [results,results65,go_sem,c6,c7]) ⟨by rw [hE.out],(by rw [hs];exact (hB2).trans (hfp.below (by have:=(hB2).size;omega) (fun k hk=>by omega)))⟩
  case stop =>
   rintro c pre W hsz hpre ⟨⟨rfl,kO,kE⟩|⟨rfl,kO,kE,hE⟩,hB⟩ hd
   ·rw [hs0] at hd hsz
    go_wp2_with fail;have hE:Hid (R=R):=ae rfl;rw [hs0];have hfp:af (fun k=>k=w1.heap.size+1) W (World.putObj W (w1.heap.size+1) (.deferred none)):=af.putObj (T:=fun k=>k=w1.heap.size+1) (af.refl _ _) (fun _=>rfl) _;have c6:=(hfp.blk kO (by omega)).cell;have c7:=(hfp.blk kE (by omega)).cell;exact eY (v:=.tuple #[.int .i64 (R).1,.int .i64 (R).2]) hd (by simp [results,results65,go_sem,c6,c7]) ⟨by rw [hE.out],(by rw [hs];exact (hB).trans (hfp.below (by have:=(hB).size;omega) (fun k hk=>by omega)))⟩
   ·rw [hs0] at hd hsz
    have cO:=kO.cell;have fO:=kO.frozen;have cE:=kE.cell;have fE:=kE.frozen;go_wp2_with fail;obtain ⟨k2,k3,hf2⟩:=BN (by omega) kO kE (.int .i64 0) (.int .i64 7);have hd2:=hf2.same hd (by omega);have hB2:=hB.trans (hf2.below (by have:=hB.size;omega) (fun k hk=>by omega));generalize ((W.setCell ⟨s+2,0,none⟩ (.int .i64 0)).setCell ⟨s+3,0,none⟩ (.int .i64 7))=w5 at *;rw [hs0];have hfp:af (fun k=>k=w1.heap.size+1) w5 (World.putObj w5 (w1.heap.size+1) (.deferred none)):=af.putObj (T:=fun k=>k=w1.heap.size+1) (af.refl _ _) (fun _=>rfl) _;have c6:=(hfp.blk k2 (by omega)).cell;have c7:=(hfp.blk k3 (by omega)).cell;exact eY (v:=.tuple #[.int .i64 (((0:Int),(7:Int))).1,.int .i64 (((0:Int),(7:Int))).2]) hd2 (by simp [results,results65,go_sem,c6,c7]) ⟨by rw [hE.out],(by rw [hs];exact (hB2).trans (hfp.below (by have:=(hB2).size;omega) (fun k hk=>by omega)))⟩
theorem QO (x:Int) (w:World) (h0:0≤x) (h1:x≤4000) :
  Calls prog 231 #[.int .u64 x] w fun e w'=>e= .returned (.int .i64 (Lib.bitLen x.toNat:Nat))∧w=w':=by
 have q1:decide (4294967296≤x)=false:=by simp;omega
 have q2:decide (65536≤x)=false:=by simp;omega
 obtain ⟨L,hL⟩:∃L:Int,((Lib.bitLen x.toNat:Nat):Int)=L:=⟨_,rfl⟩;rw [hL];have hL':=ae hL;clear hL;by_cases hx:256≤x
 ·have q3:decide (256≤x)=true:=by simpa using hx
  have hsz:(x / 256).toNat<Lib.len8tab.size:=by rw [Di];omega
  have hb:=Lib.bitLen_le8' (x / 256) (by omega) (by omega);have hs:=ae (Lib.bitLen_shift8 x.toNat (by omega) (by omega));have ht:=ae (show (x / 256).toNat=x.toNat / 256 by omega);have hg:=ae (Nv (x / 256).toNat hsz);go_enter func231,ntmps231
  go_wp2
  go_ret;simp only [Array.getD,List.size_toArray,List.length_cons,List.length_nil];refine ⟨?_,by first|trivial|rfl⟩;simp;rw [hg.out,←hL'.out,hs.out,←ht.out];simp only [wrap64];omega
 ·have q3:decide (256≤x)=false:=by simpa using hx
  have hsz:x.toNat<Lib.len8tab.size:=by rw [Di];omega
  have hb:=Lib.bitLen_le8' x (by omega) (by omega);have hg:=ae (Nv x.toNat hsz);go_enter func231,ntmps231
  go_wp2
  go_ret;refine ⟨?_,by first|trivial|rfl⟩;simp;rw [hg.out,←hL'.out];simp only [wrap64];omega
theorem XI (x:Int) (w:World) (h0:0≤x) (h1:x≤4000) :
  Calls prog 207 #[.int .u64 x] w fun e w'=>e= .returned (.int .i64 (Lib.bitLen x.toNat:Nat))∧w=w':=by
 have HL:=ae (fun W=>QO x W h0 h1);generalize (Lib.bitLen x.toNat:Nat)=L at *;go_enter func207,ntmps207
 go_wp2_with (go_at_call 231;refine (HL.out _).mono ?_;rintro e w' ⟨rfl,rfl⟩)
 go_ret;exact ⟨rfl,rfl⟩
theorem QP (A B:Option Addr) (n cap cap':Nat) (xs ys:List Sp) (w:World) (hn:xs.length=n) (hm:n≤maxLen) (he:ys=xs) (hr:RU w w.heap.size A xs) (hs:RU w w.heap.size B ys) :
  Calls prog 81 #[.slice A n cap,.slice B n cap'] w fun e w'=>e= .returned (.bool true)∧Below w.heap.size w w':=by
 have h:=Vg A B n n cap cap' xs ys w hn hm (by rw [he];exact hn) hm hr hs;rw [decide_eq_true he.symm] at h;exact h
theorem XJ (A:Option Addr) (n cap:Nat) (us:List Sp) (p q:Int) (w:World) (hn:us.length=n) (hm:n≤cap) (hc:cap≤maxLen) (hr:RU w w.heap.size A us) :
  Calls prog 64 #[.slice A n cap,.agg #[.int .i64 p,.int .i64 q]] w fun e w'=>e= .returned (.tuple #[.bool (decide (lq us (p,q)=0)&&(aZ us (p,q)).isEmpty),.int .i64 (lq us (p,q))])∧Below w.heap.size w w':=by
 have HA:=ae (fun W (h:RU W W.heap.size A us)=>Ng A n cap us p q W hn (Nat.le_trans hm hc) h);have hb0:=aV w (.cells #[.int .i64 p,.int .i64 q] 140);have k0:=ag.new w 140 #[.int .i64 p,.int .i64 q];have c0:=k0.cell;have hr0:=hr.on (aV w (.cells #[.int .i64 p,.int .i64 q] 140));by_cases hz:lq us (p,q)=0
 ·have hz':=hz
  unfold lq at hz';have hC:dX us=0:=by
   by_cases h:dX us=0
   ·exact h
   ·rw [if_neg h] at hz';exact hz'
  rw [if_pos hC] at hz';have hv:bB (p,q)=true:=by
   by_cases h:bB (p,q)=true
   ·exact h
   ·rw [if_neg h] at hz';cases hz'
  have HG:=ae (fun W (h:RU W W.heap.size A us)=>Kj A n cap us p q W hn hm hc h (bP.1 hC) hv);rw [hz] at HA ⊢;generalize hG:aZ us (p,q)=G at *;obtain ⟨gl,hgl⟩:=aj (G.length);have hE:Hid (G.isEmpty=((gl:Int)==0)):=ae (by rw [←hgl];cases G <;> simp;omega);rw [hgl] at HG;clear hz hz' hC hv hgl hG;go_enter func64,ntmps64;go_wp2_with fail;refine (HA.out _ hr0).mono ?_;rintro e w1 ⟨rfl,hb1⟩;have B1:=hb0.trans (hb1.mono hb0.size);have k1:=k0.call hb1;have z1:=k1.cell;have r1:=hr0.on hb1;go_wp2_with fail;refine (HG.out _ r1).mono ?_;rintro e w2 ⟨A',cap',rfl,_,_,_,_,hb2⟩;have B2:=B1.trans (hb2.mono B1.size);go_wp2_with fail;go_ret2;exact ⟨by rw [hE.out];rfl,B2⟩
 ·obtain ⟨er,her⟩:=aj (lq us (p,q))
  rw [her] at HA hz ⊢;have hz':(er != 0)=true:=by simpa using hz
  have hz2:decide (er=0)=false:=by simpa using hz
  clear her hz;go_enter func64,ntmps64;go_wp2_with fail;refine (HA.out _ hr0).mono ?_;rintro e w1 ⟨rfl,hb1⟩;have B1:=hb0.trans (hb1.mono hb0.size);go_wp2_with fail;go_ret2;exact ⟨by rw [hz2];rfl,B1⟩
theorem yg (A1 A2:Option Addr) (n1 c1 n2 c2:Nat) (us vs:List Sp) (B:Nat) (w:World) (hn1:us.length=n1) (hm1:n1≤maxLen) (hr1:RU w w.heap.size A1 us) (hn2:vs.length=n2) (hm2:n2≤maxLen) (hr2:RU w w.heap.size A2 vs)
  (kB:ag w B 41 #[.slice A1 n1 c1,.slice A2 n2 c2]) :
  Calls prog 117 #[.slice (some ⟨B,0,none⟩) 2 2] w fun e w'=>e= .returned (.int .i64 (if dX us=0 then dX vs else dX us))∧Below w.heap.size w w':=by
 have H1:=ae (fun W (h:RU W W.heap.size A1 us)=>dx A1 n1 c1 us W hn1 hm1 h);have H2:=ae (fun W (h:RU W W.heap.size A2 vs)=>dx A2 n2 c2 vs W hn2 hm2 h);have hb0:=Below.refl w.heap.size w;generalize dX us=Lu at *;generalize dX vs=Nw at *;obtain ⟨R,hR0⟩:∃R:Int,(if Lu=0 then Nw else Lu)=R:=⟨_,rfl⟩;rw [hR0];have hR:=ae hR0;clear hR0;go_enter func117,ntmps117;go_wp2_with fail
 go_loopw [8] (fun i wr=>∃k:Nat,k≤2∧i= .int .i64 k∧Below w.heap.size w wr∧Hid ((1≤k→Lu=0)∧(2≤k→Nw=0))) (fun i _=>2 - (intOf i).toNat)
 case atStart=>exact ⟨0,by omega,rfl,hb0,ae ⟨fun h=>by omega,fun h=>by omega⟩⟩
 case round =>
  obtain ⟨k,hk,rfl,hB,hH⟩:=hrel;have kW:=kB.call hB;have z0:=kW.cell;have ra:=hr1.on hB;have rb:=hr2.on hB;rcases (show k=0∨k=1∨k=2 by omega) with rfl|rfl|rfl
  ·go_wp2_with fail
   refine (H1.out _ ra).mono ?_;rintro e w1 ⟨rfl,hb1⟩;have B1:=hB.trans (hb1.mono hB.size);by_cases he:Lu=0
   ·have he':(Lu != 0)=false:=by simpa using he
    have hH2:Hid ((1≤1→Lu=0)∧(2≤1→Nw=0)):=ae ⟨fun _=>he,fun h=>by omega⟩;clear he;go_wp2_with fail;go_roundw
    case rel=>exact ⟨1,by omega,by go_num,B1,hH2⟩
    case measure=>simp [intOf]
   ·have he':(Lu != 0)=true:=by simpa using he
    have hE:Hid (R=Lu):=ae (by rw [←hR.out,if_neg he]);clear he;go_wp2_with fail;go_ret;exact ⟨bY hE.out.symm,B1⟩
  ·have hz1:=ae (hH.out.1 (by omega))
   go_wp2_with fail;refine (H2.out _ rb).mono ?_;rintro e w1 ⟨rfl,hb1⟩;have B1:=hB.trans (hb1.mono hB.size);by_cases he:Nw=0
   ·have he':(Nw != 0)=false:=by simpa using he
    have hH2:Hid ((1≤2→Lu=0)∧(2≤2→Nw=0)):=ae ⟨fun _=>hz1.out,fun _=>he⟩;clear he;go_wp2_with fail;go_roundw
    case rel=>exact ⟨2,by omega,by go_num,B1,hH2⟩
    case measure=>simp [intOf]
   ·have he':(Nw != 0)=true:=by simpa using he
    have hE:Hid (R=Nw):=ae (by rw [←hR.out,if_pos hz1.out]);clear he;go_wp2_with fail;go_ret;exact ⟨bY hE.out.symm,B1⟩
  ·have hE:Hid (R=0):=ae (by rw [←hR.out,if_pos (hH.out.1 (by omega)),hH.out.2 (by omega)])
   go_wp2_with fail;go_ret;exact ⟨bY hE.out.symm,hB⟩
theorem wK:∀(k:Nat) (a b:List Sp),(fQ k a b).length≤k
 | 0,a,b=>by simp [fQ]
 | k+1,a,b=>by
  cases a with
  | nil=>rw [BM];simp
  | cons x a =>
   cases b with
   | nil=>rw [zR];simp
   | cons y b =>
    have h1:=wK k a (y::b);have h2:=wK k (x::a) b;rw [fQ,List.length_append];split <;> split <;> simp only [List.length_cons,List.length_nil] <;> omega
theorem BO (a b:List Sp):(ay a b).length≤a.length+b.length:=wK _ a b
theorem Lv {w:World} {B:Nat} {A:Option Addr} {us:List Sp} (h:RU w B A us) (h0:us≠[]) {b o:Nat} (e:A=some ⟨b,o,none⟩):b<B:=by
 obtain ⟨b',o',e',hb,_⟩:=RU.at_' h (k:=0) (by cases us with|nil=>exact absurd rfl h0|cons=>simp);rw [e] at e';cases e';exact hb
theorem AP (x:Int) (w:World):Calls prog 208 #[.int .i64 x] w fun e w'=>e= .returned (.bool false)∧w'=w:=by
 go_enter func208,ntmps208
 go_wp2
 go_ret;exact ⟨by simp,rfl⟩
def xE (x y:Int):Int:=if x<y then -1 else if y<x then 1 else 0
theorem Lx (x y:Int) (w:World):Calls prog 186 #[.int .i64 x,.int .i64 y] w fun e w'=>e= .returned (.int .i64 (xE x y))∧w'=w:=by
 obtain ⟨R,hR0⟩:=aj (xE x y);rw [hR0];have hR:=ae hR0;clear hR0;by_cases h1:x<y
 ·have h1':decide (x<y)=true:=by simpa using h1
  have hE:Hid (R = -1):=ae (by rw [←hR.out,xE,if_pos h1]);clear h1;go_enter func186,ntmps186
  go_wp2_with (go_at_call 208;refine (AP _ _).mono ?_;rintro e w' ⟨rfl,rfl⟩)
  go_ret;exact ⟨bY hE.out.symm,rfl⟩
 ·have h1':decide (x<y)=false:=by simpa using h1
  by_cases h2:y<x
  ·have h2':decide (y<x)=true:=by simpa using h2
   have hE:Hid (R=1):=ae (by rw [←hR.out,xE,if_neg h1,if_pos h2]);clear h1 h2;go_enter func186,ntmps186
   go_wp2_with (go_at_call 208;refine (AP _ _).mono ?_;rintro e w' ⟨rfl,rfl⟩)
   go_ret;exact ⟨bY hE.out.symm,rfl⟩
  ·have h2':decide (y<x)=false:=by simpa using h2
   have hE:Hid (R=0):=ae (by rw [←hR.out,xE,if_neg h1,if_neg h2]);clear h1 h2;go_enter func186,ntmps186
   go_wp2_with (go_at_call 208;refine (AP _ _).mono ?_;rintro e w' ⟨rfl,rfl⟩)
   go_ret;exact ⟨bY hE.out.symm,rfl⟩
theorem XK (x y:Sp) (w:World):Calls prog 185 #[.agg #[.int .i64 x.1,.int .i64 x.2],.agg #[.int .i64 y.1,.int .i64 y.2]] w fun e w'=>e= .returned (.int .i64 (xE x.1 y.1)) ∧
  w'=(w.alloc (.cells #[.int .i64 x.1,.int .i64 x.2] 140)).alloc (.cells #[.int .i64 y.1,.int .i64 y.2] 140):=by
 have HC:=ae (fun W=>Lx x.1 y.1 W);generalize xE x.1 y.1=R at *;go_enter func185,ntmps185
 go_wp2_with (go_at_call 186;refine (HC.out _).mono ?_;rintro e w' ⟨rfl,rfl⟩)
 go_ret;exact ⟨rfl,rfl⟩
def eO (xs:List Sp) (x:Sp):List Sp :=
 match xs.getLast? with
 | none=>[x]
 | some l=>if x.1≤l.1+l.2 then xs.dropLast++[(l.1,max (l.1+l.2) (x.1+x.2) - l.1)] else xs++[x]
theorem wM (x:Sp):eO [] x=[x]:=rfl
theorem uz (pre:List Sp) (l x:Sp):eO (pre++[l]) x=if x.1≤l.1+l.2 then pre++[(l.1,max (l.1+l.2) (x.1+x.2) - l.1)] else pre++[l]++[x]:=by simp [eO]
theorem Vq (base:Nat) (v:Value) (xs:List Sp) (x:Sp) (w:World) (hx:(-100000≤x.1∧x.1≤50000)∧-100000≤x.2∧x.2≤50000) (hxs:∀y∈xs,(-100000≤y.1∧y.1≤50000)∧-100000≤y.2∧y.2≤50000) (hlen:xs.length≤100000) (hbase:base≤w.heap.size)
  (hrow:w.ownsRow base 140 2 v xs.length (ax xs)) :
  Calls prog 187 #[v,.agg #[.int .i64 x.1,.int .i64 x.2]] w fun e w'=>∃v',e= .returned v'∧w'.ownsRow base 140 2 v' (eO xs x).length (ax (eO xs x))∧Below base w w':=by
 obtain ⟨i0,hi,hz0,hz1,hz2⟩:=dW;obtain ⟨xa,xb⟩:=x;simp only at hx ⊢;have hb0:=aV w (.cells #[.int .i64 xa,.int .i64 xb] 140);have k0:=ag.new w 140 #[.int .i64 xa,.int .i64 xb];have c0:=k0.cell;rcases List.eq_nil_or_concat xs with rfl|⟨pre,l,rfl⟩
 ·obtain ⟨A,cap,rfl⟩:=ik hrow rfl
  rw [wM];go_enter func187,ntmps187;go_upto_region 2 with fail
  refine aF (by kernel_rfl) (by kernel_rfl) ?_
  repeat (go_big_quiet_step (fail))
  refine wpQuiet_nil ?_;rintro w1 ⟨⟨_,hw1⟩,rfl⟩;have B1:=hb0.trans (hw1.mono hb0.size);have k1:=k0.call hw1;have c1:=k1.cell;have kN:=ag.new w1 140 #[.int .i64 xa,.int .i64 xb];have j5:w1.ownsRow base 140 2 (.slice A 0 cap) ([]:List Sp).length (ax ([]:List Sp)):=aB hrow B1
  go_wp2_with (refine wpList_append_own _ rfl (.tmp 43) (.tmp 45) 41 rfl base 140 i0 (.agg #[.int .i64 0,.int .i64 0]) 2 16 underlying41 hi hz0 hz1 hz2 rfl (by decide) _ 0 (ax ([]:List Sp)) rfl (j5.alloc _) ⟨w1.heap.size,0,none⟩ 1 1 [.int .i64 xa,.int .i64 xb] rfl rfl (ja kN) gQ (by unfold maxLen;omega) (by omega) (by have:=B1.size;simp;omega) ?_;intro v' w3 hown' hgrow _)
  go_ret;exact ⟨v',rfl,by simpa [ax] using hown',((B1.mono hbase).alloc (by have:=B1.size;omega) _).grown hgrow (by have:=B1.size;simp;omega) (fun j hj=>(j5.lt j hj).1)⟩
 ·rw [List.concat_eq_append] at *
  rw [uz];have hlx:=hxs l (by simp);clear hxs;obtain ⟨la,lb⟩:=l;simp only at hlx ⊢;rw [List.length_append,List.length_singleton] at hrow hlen;have AQ:=aB hrow hb0;obtain ⟨g,cap,rfl⟩:=ownsRow_succ hrow;have hgb:=AQ.lt g rfl;have AR:(w.alloc (.cells #[.int .i64 xa,.int .i64 xb] 140)).cell? ⟨g,pre.length*2,none⟩=some (.int .i64 la):=by
   rw [AQ.cellAt _ (by omega),dE,List.getElem?_append_right (by rw [dB];exact Nat.le_refl _),dB];simp
  have hcb:(w.alloc (.cells #[.int .i64 xa,.int .i64 xb] 140)).cell? ⟨g,pre.length*2+1,none⟩=some (.int .i64 lb):=by
   rw [AQ.cellAt _ (by omega),dE,List.getElem?_append_right (by rw [dB];omega),dB];simp
  obtain ⟨k,hk⟩:=aj (pre.length);rw [hk] at AR hcb hlen ⊢;have hk':=ae hk;have hrow':=ae hrow;clear hk hrow;have q1:=fun z:Ext (w.alloc (.cells #[.int .i64 xa,.int .i64 xb] 140))=>z.cell AR
  have q2:=fun z:Ext (w.alloc (.cells #[.int .i64 xa,.int .i64 xb] 140))=>z.cell hcb
  have q3:=fun z:Ext (w.alloc (.cells #[.int .i64 xa,.int .i64 xb] 140))=>(z.blk k0).cell
  have C1:Hid (∀z:Ext (w.alloc (.cells #[.int .i64 xa,.int .i64 xb] 140)),Calls prog 168 #[.agg #[.int .i64 la,.int .i64 lb]] z.w fun e w''=>e= .returned (.int .i64 (la+lb))∧∃y:Ext (w.alloc (.cells #[.int .i64 xa,.int .i64 xb] 140)),w''=y.w):=ae (fun z=>Ext.call (jl la lb _ (by omega) (by omega)));by_cases hle:xa≤la+lb
  ·have Nf:decide (xa≤la+lb)=true:=by simpa using hle
   rw [if_pos hle];go_enter func187,ntmps187;go_upto_region 2 with fail
   refine aF (by kernel_rfl) (by kernel_rfl) ?_
   repeat (go_big_quiet_step ((go_at_call 168;exact C1.out _)))
   refine wpQuiet_nil ?_;rintro w1 ⟨⟨_,hw1⟩,rfl⟩;have B1:=hb0.trans (hw1.mono hb0.size);have k1:=k0.call hw1;have hg0:g<(w.alloc (.cells #[.int .i64 xa,.int .i64 xb] 140)).heap.size:=hgb.2;have agW:=(hw1.cell (p:=⟨g,k*2,none⟩) hg0).trans AR;have ab5:=(hw1.cell (p:=⟨g,k*2+1,none⟩) hg0).trans hcb;clear q1 q2 q3 C1;have q1:=fun z:Ext w1=>z.cell agW
   have q2:=fun z:Ext w1=>z.cell ab5
   have q3:=fun z:Ext w1=>(z.blk k1).cell
   have C1:Hid (∀z:Ext w1,Calls prog 168 #[.agg #[.int .i64 la,.int .i64 lb]] z.w fun e w''=>e= .returned (.int .i64 (la+lb))∧∃y:Ext w1,w''=y.w):=ae (fun z=>Ext.call (jl la lb _ (by omega) (by omega)));have C2:Hid (∀z:Ext w1,Calls prog 168 #[.agg #[.int .i64 xa,.int .i64 xb]] z.w fun e w''=>e= .returned (.int .i64 (xa+xb))∧∃y:Ext w1,w''=y.w):=ae (fun z=>Ext.call (jl xa xb _ (by omega) (by omega)));have hmx : -200000≤max (la+lb) (xa+xb)∧max (la+lb) (xa+xb)≤200000:=by omega
   go_upto_region 3 with fail
   refine dH 19 (by kernel_rfl) (by kernel_rfl) ?_;simp only [List.take_succ_cons,List.take_zero,List.drop_succ_cons,List.drop_zero]
   iterate 9 go_big_quiet_step ((go_at_call 168;exact C1.out _))
   repeat (go_big_quiet_step ((go_at_call 168;exact C2.out _)))
   refine wpQuiet_nil ?_;intro z;have hrz:=aB hrow'.out (B1.trans (z.le.mono B1.size));have hfz:=hrz.frozenAt (k*2+1);have hcz:=z.cell ab5;obtain ⟨hst,hgr⟩:=hrz.stored (k*2+1) (.int .i64 (max (la+lb) (xa+xb) - la));rw [←hk'.out,wL,hk'.out] at hst;go_wp2_with fail;go_ret;exact ⟨_,rfl,by simpa [hk'.out] using hst,((B1.trans (z.le.mono B1.size)).mono hbase).grown hgr (by have:=B1.size;have:=z.le.size;omega) (fun j hj=>by cases hj;exact hgb.1)⟩
  ·have Nf:decide (xa≤la+lb)=false:=by simpa using hle
   rw [if_neg hle];go_enter func187,ntmps187;go_upto_region 2 with fail
   refine aF (by kernel_rfl) (by kernel_rfl) ?_
   repeat (go_big_quiet_step ((go_at_call 168;exact C1.out _)))
   refine wpQuiet_nil ?_;rintro w1 ⟨⟨_,hw1⟩,rfl⟩;have B1:=hb0.trans (hw1.mono hb0.size);have k1:=k0.call hw1;have c1:=k1.cell;have kN:=ag.new w1 140 #[.int .i64 xa,.int .i64 xb];have j5:=aB hrow'.out B1;clear q1 q2 q3 C1
   go_wp2_with (refine wpList_append_own _ rfl (.tmp 43) (.tmp 45) 41 rfl base 140 i0 (.agg #[.int .i64 0,.int .i64 0]) 2 16 underlying41 hi hz0 hz1 hz2 rfl (by decide) _ (k+1) (ax (pre++[(la,lb)])) rfl (by rw [←hk'.out];exact j5.alloc _) ⟨w1.heap.size,0,none⟩ 1 1 [.int .i64 xa,.int .i64 xb] rfl rfl (ja kN) gQ (by unfold maxLen;omega) (by omega) (by have:=B1.size;simp;omega) ?_;intro v' w3 hown' hgrow _)
   go_ret;rw [←dE (pre++[(la,lb)]) (xa,xb)] at hown';exact ⟨v',rfl,by simpa [hk'.out] using hown',((B1.mono hbase).alloc (by have:=B1.size;omega) _).grown hgrow (by have:=B1.size;simp;omega) (fun j hj=>(j5.lt j hj).1)⟩
def oF (us:List Sp):List Sp:=us.foldl eO []
theorem QQ {xs:List Sp} {x:Sp} (hxs:∀y∈xs,bB y=true) (hx:bB x=true):∀y∈eO xs x,bB y=true:=by
 rcases List.eq_nil_or_concat xs with rfl|⟨pre,l,rfl⟩
 ·rw [wM];simpa using hx
 ·rw [List.concat_eq_append] at *
  rw [uz];have hl:=av.1 (hxs l (by simp));have hx':=av.1 hx;split
  ·intro y hy
   rcases List.mem_append.1 hy with h|h
   ·exact hxs y (by simp [h])
   ·simp only [List.mem_singleton] at h
    subst h;exact av.2 (by simp only;omega)
  ·intro y hy
   rcases List.mem_append.1 hy with h|h
   ·exact hxs y h
   ·simp only [List.mem_singleton] at h
    subst h;exact hx
theorem QR (xs:List Sp) (x:Sp):(eO xs x).length≤xs.length+1:=by
 rcases List.eq_nil_or_concat xs with rfl|⟨pre,l,rfl⟩
 ·simp [wM]
 ·rw [List.concat_eq_append,uz]
  split <;> simp
theorem Vr (us:List Sp) (x:Sp):oF (us++[x])=eO (oF us) x:=by simp [oF]
theorem aaQ (base:Nat) (v:Value) (us:List Sp) (w:World) (hv:∀y∈us,bB y=true) (hlen:us.length≤100000) (hbase:base≤w.heap.size)
  (HS:Calls prog 184 #[v,.func (.func 185) #[] #[]] w fun e w'=>e= .returned (.tuple #[])∧∃eG:List Sp,eG.Perm us∧eG.Pairwise (fun a b=>a.1≤b.1)∧w'.ownsRow base 140 2 v us.length (ax eG)∧Below base w w')
  (hrow:w.ownsRow base 140 2 v us.length (ax us)) :
  Calls prog 128 #[v] w fun e w'=>∃(eG:List Sp) (v':Value),eG.Perm us∧eG.Pairwise (fun a b=>a.1≤b.1)∧e= .returned v'∧w'.ownsRow w.heap.size 140 2 v' (oF eG).length (ax (oF eG))∧Below base w w':=by
 obtain ⟨A,cap,rfl⟩:=ik hrow rfl;go_enter func128,ntmps128;go_wp2_with fail;refine HS.mono ?_;rintro e w1 ⟨rfl,eG,hp,hs,j5,hb1⟩;have hv':∀y∈eG,bB y=true:=fun y hy=>hv y (hp.mem_iff.1 hy)
 have hn:=hp.length_eq;obtain ⟨n,hn0⟩:=aj (us.length);rw [hn0] at j5 hn hlen ⊢;have hn':=ae hn;clear hn hn0 HS hrow hv;have hws:=hb1.size;have XL:=hb1.size;go_wp2_with fail
 go_loopw [3,10] (fun v i wr=>∃k:Nat,k≤n∧i= .int .i64 k∧wr.ownsRow w1.heap.size 140 2 v (oF (eG.take k)).length (ax (oF (eG.take k)))∧Below w1.heap.size w1 wr∧Hid ((∀y∈oF (eG.take k),bB y=true)∧(oF (eG.take k)).length≤k)) (fun _ i _=>n - (intOf i).toNat)
 case atStart=>exact ⟨0,by omega,rfl,by simpa [oF,ax] using World.ownsRow_nil _ _ _ _,Below.refl _ _,ae ⟨by simp [oF],by simp [oF]⟩⟩
 case round =>
  obtain ⟨k,hk,rfl,hrow2,hB,hH⟩:=hrel;by_cases hlt:k<n
  ·have hlt':decide ((k:Int)<(n:Int))=true:=by simpa using hlt
   have hr:=aB j5 hB;obtain ⟨g,cap',e,_⟩:=hr.form (by omega);cases e;have hg:=j5.lt g rfl;have AR:=hr.cellAt (k*2) (by omega);have hcb:=hr.cellAt (k*2+1) (by omega);have hat:=qd eG k (by have:=hn'.out;omega);rw [hat.1] at AR;rw [hat.2] at hcb;have kZ:=hv' (eG.getD k (0,0)) (by rw [List.getD_eq_getElem?_getD,List.getElem?_eq_getElem (by have:=hn'.out;omega)];simp);have htk:=ae (wN eG k (by have:=hn'.out;omega));clear hat hr;generalize eG.getD k (0,0)=x at *;have hxb:=av.1 kZ;have hstep:Hid (oF (eG.take (k+1))=eO (oF (eG.take k)) x):=ae (by rw [htk.out,Vr]);have hH2:Hid ((∀y∈eO (oF (eG.take k)) x,bB y=true)∧(eO (oF (eG.take k)) x).length≤k+1):=ae ⟨QQ hH.out.1 kZ,by have:=QR (oF (eG.take k)) x;have:=hH.out.2;omega⟩;have HJ:=ae (fun (W:World) (v:Value) (hW:w1.heap.size≤W.heap.size) (h:W.ownsRow w1.heap.size 140 2 v (oF (eG.take k)).length (ax (oF (eG.take k))))=>Vq w1.heap.size v (oF (eG.take k)) x W (by omega) (fun y hy=>by have:=av.1 (hH.out.1 y hy);omega) (by have:=hH.out.2;omega) hW h);generalize oF (eG.take k)=L at *;obtain ⟨xa,xb⟩:=x;dsimp only at AR hcb HJ;clear htk kZ hxb hH;have oV:=hB.size;go_wp2_with fail;refine (HJ.out _ _ (by simp;omega) (hrow2.alloc _)).mono ?_;rintro e w2 ⟨v',rfl,hrow3,hb3⟩;go_wp2_with fail;go_roundw
   case rel=>exact ⟨k+1,by omega,by go_num,by rw [hstep.out];exact hrow3,(hB.alloc oV _).trans hb3,by rw [hstep.out];exact hH2⟩
   case measure=>simp [intOf];omega
  ·obtain rfl:k=n:=by omega
   have hlt':decide ((k:Int)<(k:Int))=false:=by simp
   have hT:eG.take k=eG:=List.take_of_length_le (by have:=hn'.out;omega);rw [hT] at hrow2;obtain ⟨A',cap',rfl⟩:=ik hrow2 rfl;go_wp2_with fail;go_ret;exact ⟨eG,_,hp,hs,rfl,pU hrow2 hws,hb1.trans (hB.mono (Nat.le_trans hbase hws))⟩
theorem QS {L us:List Sp} {x:Sp} (hC:Go.Pol.Can L) (hm:∀q,mem q L=true↔mem q us=true) (hf:∀y∈L,∃u∈us,y.1=u.1) (hx:bB x=true) (hle:∀u∈us,u.1≤x.1) :
  Go.Pol.Can (eO L x)∧(∀q,mem q (eO L x)=true↔mem q (us++[x])=true)∧(∀y∈eO L x,∃u∈us++[x],y.1=u.1):=by
 have kZ:=av.1 hx;rcases List.eq_nil_or_concat L with rfl|⟨pre,l,rfl⟩
 ·rw [wM]
  refine ⟨Go.Pol.Can.one hx,fun q=>?_,fun y hy=>⟨x,by simp,by simp only [List.mem_singleton] at hy;rw [hy]⟩⟩;rw [iM,nG,←hm q,fB];simp
 ·rw [List.concat_eq_append] at *
  rw [uz];obtain ⟨u,hu,hlu⟩:=hf l (by simp);have hlx:=hle u hu;have hvl:=av.1 (hC.1 l (by simp));have hfo:=(lS _ _ _).1 hC.2;by_cases h:x.1≤l.1+l.2
  ·rw [if_pos h]
   refine ⟨⟨?_,(lS _ _ _).2 hfo⟩,fun q=>?_,fun y hy=>?_⟩
   ·intro y hy
    rcases List.mem_append.1 hy with h1|h1
    ·exact hC.1 y (by simp [h1])
    ·simp only [List.mem_singleton] at h1
     subst h1;exact av.2 (by simp only;omega)
   ·rw [nG,nG,←hm q,nG]
    simp only;constructor
    ·rintro (h1|h1)
     ·exact .inl (.inl h1)
     ·by_cases h2:q<l.1+l.2
      ·exact .inl (.inr (by omega))
      ·exact .inr (by omega)
    ·rintro ((h1|h1)|h1)
     ·exact .inl h1
     ·exact .inr (by omega)
     ·exact .inr (by omega)
   ·rcases List.mem_append.1 hy with h1|h1
    ·obtain ⟨u',hu',e⟩:=hf y (by simp [h1])
     exact ⟨u',by simp [hu'],e⟩
    ·simp only [List.mem_singleton] at h1
     subst h1;exact ⟨u,by simp [hu],hlu⟩
  ·rw [if_neg h]
   refine ⟨⟨?_,(lS _ _ _).2 ⟨hC.2,?_⟩⟩,fun q=>?_,fun y hy=>?_⟩
   ·intro y hy
    rcases List.mem_append.1 hy with h1|h1
    ·exact hC.1 y h1
    ·simp only [List.mem_singleton] at h1
     subst h1;exact hx
   ·rw [xZ];omega
   ·rw [nG,nG (l:=us),←hm q]
   ·rcases List.mem_append.1 hy with h1|h1
    ·obtain ⟨u',hu',e⟩:=hf y h1
     exact ⟨u',by simp [hu'],e⟩
    ·simp only [List.mem_singleton] at h1
     subst h1;exact ⟨y,by simp,rfl⟩
theorem FQ:∀(us L done:List Sp),Go.Pol.Can L→(∀q,mem q L=true↔mem q done=true)→(∀y∈L,∃u∈done,y.1=u.1)→(∀y∈us,bB y=true)→(∀a∈done,∀b∈us,a.1≤b.1)→us.Pairwise (fun a b=>a.1≤b.1) →
  Go.Pol.Can (us.foldl eO L)∧∀q,mem q (us.foldl eO L)=true↔mem q (done++us)=true
 | [],L,done,hC,hm,_,_,_,_=>⟨hC,fun q=>by simpa using hm q⟩
 | x::us,L,done,hC,hm,hf,hv,hle,hp=>by
  obtain ⟨h1,h2,h3⟩:=QS hC hm hf (hv x (by simp)) (fun u hu=>hle u hu x (by simp));have hp':=List.pairwise_cons.1 hp;have h:=FQ us (eO L x) (done++[x]) h1 h2 h3 (fun y hy=>hv y (by simp [hy])) (fun a ha b hb=>by
   rcases List.mem_append.1 ha with h|h
   ·exact hle a h b (by simp [hb])
   ·simp only [List.mem_singleton] at h
    subst h;exact hp'.1 b hb) hp'.2
  refine ⟨h.1,fun q=>?_⟩;rw [List.foldl_cons,h.2 q,List.append_assoc];rfl
theorem XM {us:List Sp} (hv:∀y∈us,bB y=true) (hp:us.Pairwise (fun a b=>a.1≤b.1)):Go.Pol.Can (oF us)∧∀q,mem q (oF us)=true↔mem q us=true:=by
 have h:=FQ us [] [] ⟨by simp,rfl⟩ (fun q=>Iff.rfl) (by simp) hv (by simp) hp;exact ⟨h.1,fun q=>by have:=h.2 q;simpa [oF] using this⟩
theorem Vs {us vs:List Sp} (h:us.Perm vs) (q:Int):mem q us=mem q vs:=by
 rw [Bool.eq_iff_iff];simp only [mem,List.any_eq_true];exact ⟨fun ⟨x,hx,e⟩=>⟨x,h.mem_iff.1 hx,e⟩,fun ⟨x,hx,e⟩=>⟨x,h.mem_iff.2 hx,e⟩⟩
theorem XN {us eG s:List Sp} (hv:∀y∈us,bB y=true) (hp:eG.Perm us) (hs:eG.Pairwise (fun a b=>a.1≤b.1)) (hC:Go.Pol.Can s) (hm:∀q,mem q s=true↔mem q us=true):oF eG=s:=by
 have h:=XM (fun y hy=>hv y (hp.mem_iff.1 hy)) hs;exact h.1.eq hC fun q=>by rw [Bool.eq_iff_iff,h.2 q,hm q,Vs hp]
section
variable {pg n f b ev:Int}
theorem Vu (hp:dS pg n f b ev):bB (pg,n)=true:=av.2 ⟨hp.De,hp.Xp,hp.n0,hp.n1⟩
theorem NC (hp:dS pg n f b ev):Go.Pol.Can (eH pg n f b ev)∧∀q,mem q (eH pg n f b ev)=true↔(pg≤q∧q<pg+n)∧mem q (aA pg n f b ev)=false:=by
 unfold eH;rw [if_pos (bU.2 hp)];exact (bL hp).DU (Vu hp)
end
end Go.Proofs.YtjmmgoijnhnnaaaGreat
