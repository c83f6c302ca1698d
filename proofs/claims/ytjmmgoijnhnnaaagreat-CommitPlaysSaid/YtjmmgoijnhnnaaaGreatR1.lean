/- Words for memory that all walks of this seat share: a slice that reads as a list of integers or of structs of integers; how such readings are carried into world. -/
import Derived.Below
import Derived.Laws.OwnMore
import Derived.Laws.MakeOwn
import Derived.Laws.CopyOwn
import Derived.Deep.RegionLaw
import Derived.Deep.AppendLies
import Derived.Deep.Draws
import Derived.Deep.QuietTactic
import Derived.BigQuiet
import Derived.Lib.Hide
import Derived.WalkKit
import Derived.WalkSpells
import Derived.WalkLawsBesides
import Derived.Maps.AppendAt
import Derived.StillTailTactics
import Derived.Deep.RegionHeld3
import Derived.Deep.DeepCutAuto
import Derived.Deep.DeepFit
import Derived.ChangeSame
import Derived.Deep.Slices
import Derived.Deep.Fields
import Derived.Lib.SmallJoins
import Derived.OpenShut
import Derived.ProofKit
import Derived.OpenVars
import Derived.JoinedOf
import Derived.RangeFuncNested
import Derived.RangeFuncBound
import Derived.RangeFuncCalls
import Derived.RangeFuncLeaves
import Derived.OwnWalkIn
import Derived.TacticsInMore
import Derived.LoopNIn
import Derived.LoopIn
import Derived.Test.YtjmmgoijnhnnaaaGreatChecked
import Derived.Laws.StructEq
import Derived.Sort.CutIn
set_option maxRecDepth 100000
set_option maxHeartbeats 12800000
namespace Go.Pol
theorem aV (w:World) (o:Obj):Go.RowKit.Below w.heap.size w (w.alloc o):=(Go.RowKit.Below.refl w.heap.size w).alloc (Nat.le_refl _) o
theorem ae {p:Prop} (h:p):Go.RowKit.Hid p:=h
theorem aj {α:Sort _} (a:α):∃x,a=x:=⟨a,rfl⟩
theorem gM {α:Type} (l:List α) (i:Nat) (a:α):l.toArray.setIfInBounds i a=(l.set i a).toArray:=List.setIfInBounds_toArray ..
theorem gN {α:Type} (a b:α) (l:List α):(a::l).set 0 b=b::l:=rfl
theorem gP {α:Type} (a b:α) (l:List α) (i:Nat):(a::l).set (i+1) b=a::l.set i b:=rfl
open Go Go.RowKit Go.Proofs.Tryz
def Rd (w:World) (B:Nat) (A:Option Addr) (xs:List Value):Prop :=
 ∀k (h:k<xs.length),∃b o,A=some ⟨b,o,none⟩∧b<B∧w.cell? ⟨b,o+k,none⟩=some xs[k]
section
variable {w w':World} {B B':Nat} {A:Option Addr} {xs:List Value}
theorem Rd.keep (h:Rd w B A xs) (hk:∀p:Addr,p.block<B→w'.cell? p=w.cell? p):Rd w' B A xs:=fun k hl=>by
 obtain ⟨b,o,e,hb,hc⟩:=h k hl;exact ⟨b,o,e,hb,(hk _ hb).trans hc⟩
theorem Rd.more (h:Rd w B A xs) (hB:B≤B'):Rd w B' A xs:=fun k hl=>by
 obtain ⟨b,o,e,hb,hc⟩:=h k hl;exact ⟨b,o,e,by omega,hc⟩
theorem Rd.below (h:Rd w B A xs) (hb:Below B w w'):Rd w' B A xs:=h.keep fun _ hp=>hb.cell hp
theorem Rd.nil:Rd w B A []:=fun k h=>absurd h (by simp)
end
def RI (w:World) (B:Nat) (A:Option Addr) (xs:List Int):Prop:=Rd w B A (xs.map (Value.int .i64))
section
variable {w w':World} {B B':Nat} {A:Option Addr} {xs:List Int}
theorem RI.at_ (h:RI w B A xs) {k:Nat} (hk:k<xs.length) :
  ∃b o,A=some ⟨b,o,none⟩∧b<B∧w.cell? ⟨b,o+k,none⟩=some (.int .i64 (xs.getD k 0)):=by
 obtain ⟨b,o,e,hb,hc⟩:=h k (by simpa using hk);refine ⟨b,o,e,hb,hc.trans ?_⟩;simp [List.getD_eq_getElem?_getD,hk]
theorem RI.below (h:RI w B A xs) (hb:Below B w w'):RI w' B A xs:=Rd.below h hb
theorem RI.more (h:RI w B A xs) (hB:B≤B'):RI w B' A xs:=Rd.more h hB
theorem RI.nil:RI w B A []:=Rd.nil
end
def RU (w:World) (B:Nat) (A:Option Addr) (us:List (Int×Int)):Prop :=
 ∀k,k<us.length→∃b o,A=some ⟨b,o,none⟩∧b<B∧w.cell? ⟨b,o+k*2,none⟩=some (.int .i64 (us.getD k (0,0)).1)∧w.cell? ⟨b,o+k*2+1,none⟩=some (.int .i64 (us.getD k (0,0)).2)
section
variable {w w':World} {B B':Nat} {A:Option Addr} {us:List (Int×Int)}
theorem RU.keep (h:RU w B A us) (hk:∀p:Addr,p.block<B→w'.cell? p=w.cell? p):RU w' B A us:=fun k hl=>by
 obtain ⟨b,o,e,hb,hc,hd⟩:=h k hl;exact ⟨b,o,e,hb,(hk _ hb).trans hc,(hk _ hb).trans hd⟩
theorem RU.below (h:RU w B A us) (hb:Below B w w'):RU w' B A us:=h.keep fun _ hp=>hb.cell hp
theorem RU.more (h:RU w B A us) (hB:B≤B'):RU w B' A us:=fun k hl=>by
 obtain ⟨b,o,e,hb,hc⟩:=h k hl;exact ⟨b,o,e,by omega,hc⟩
theorem RU.at_' (h:RU w B A us) {k:Nat} (hk:k<us.length):∃b o,A=some ⟨b,o,none⟩∧b<B∧w.cell? ⟨b,o+k*2,none⟩=some (.int .i64 (us.getD k (0,0)).1)∧w.cell? ⟨b,o+k*2+1,none⟩=some (.int .i64 (us.getD k (0,0)).2):=h k hk
theorem RU.nil:RU w B A []:=fun k h=>absurd h (by simp)
end
def ag (w:World) (g:Nat) (t:TypeId) (cs:Array Value):Prop:=w.heap[g]? = some (.cells cs t (0,0))
section
variable {w w':World} {g:Nat} {t:TypeId} {cs:Array Value}
theorem ag.lt (h:ag w g t cs):g<w.heap.size:=by
 by_cases hlt:g<w.heap.size
 ·exact hlt
 ·unfold ag at h;rw [Array.getElem?_eq_none (by omega)] at h;cases h
theorem ag.cell (h:ag w g t cs) (i:Nat):w.cell? ⟨g,i,none⟩=cs[i]? := cell_of_row w g i cs t (0,0) h
theorem ag.frozen (h:ag w g t cs) (i:Nat):w.frozen? ⟨g,i,none⟩=false:=by
 unfold ag at h;simp [World.frozen?,h]
theorem ag.new (w:World) (t:TypeId) (cs:Array Value):ag (w.alloc (.cells cs t)) w.heap.size t cs:=heap_alloc_new w _
theorem ag.drew (h:ag w g t cs):ag w.drew g t cs:=h
theorem ag.alloc (h:ag w g t cs) (o:Obj):ag (w.alloc o) g t cs:=(Below.heap_alloc w o g h.lt).trans h
theorem ag.aO (h:ag w g t cs) (i:Nat) (u:Value):ag (w.setCell ⟨g,i,none⟩ u) g t (cs.setIfInBounds i u):=by
 unfold ag at h ⊢;simp [World.setCell,Array.getElem?_modify,h]
theorem ag.far (h:ag w g t cs) {p:Addr} (hp:g≠p.block) (u:Value):ag (w.setCell p u) g t cs:=(Below.heap_setCell w p u g hp).trans h
theorem ag.call (h:ag w g t cs) (hb:Below w.heap.size w w'):ag w' g t cs:=(hb.block g h.lt).trans h
theorem ag.uR {g':Nat} {t':TypeId} {cs':Array Value} (h:ag w g t cs) (h':ag w g' t' cs') (hne:t≠t'):g≠g':=by
 rintro rfl;unfold ag at h h';rw [h] at h'
 injection h' with h'
 injection h' with _ ht
 exact hne ht
theorem ag.grown {row:Option Nat} (h:ag w g t cs) (hb:w.grownBy w' row) (hg:some g≠row):ag w' g t cs:=(hb.block g h.lt hg).trans h
end
theorem dh (b o j:Nat):(⟨b,o,none⟩:Addr).add j=⟨b,o+j,none⟩:=by
 unfold Addr.add;by_cases h:j=0 <;> simp [h]
structure Ext (W:World) where
 w:World
 le:Below W.heap.size W w
theorem Ext.cell {W:World} (x:Ext W) {p:Addr} {v:Value} (h:W.cell? p=some v):x.w.cell? p=some v:=by
 have hb:p.block<W.heap.size:=by
  by_cases hp:p.block<W.heap.size
  ·exact hp
  ·have:W.heap[p.block]? = none:=Array.getElem?_eq_none (by omega)
   simp [World.cell?,this] at h
 exact (x.le.cell hb).trans h
theorem Ext.blk {W:World} (x:Ext W) {g:Nat} {t:TypeId} {cs:Array Value} (h:ag W g t cs):ag x.w g t cs:=h.call x.le
instance aaM (W:World):Nonempty (Ext W):=⟨⟨W,Below.refl _ _⟩⟩
theorem Ext.call {P:Program} {f:FuncId} {args:Array Value} {W:World} {x:Ext W} {v:Value}
  (h:Calls P f args x.w fun e w'=>e= .returned v∧Below x.w.heap.size x.w w'):Calls P f args x.w fun e w''=>e= .returned v∧∃y:Ext W,w''=y.w :=
 h.mono fun _ w'' ⟨he,hb⟩=>⟨he,⟨w'',x.le.trans (hb.mono x.le.size)⟩,rfl⟩
theorem aF {P:Program} {id:Nat} {Q:Exit→Act→World→Prop} {a:Act} {w:World} {l:List Oper} (hm:P.follows .mixedOrders=true) (hB:Region.lexB .any l.toArray=true)
  (h:wpQuiet P l.toArray (fun w'=>∃x:Ext w,w'=x.w) (fun a'=>∀w',(∃x:Ext w,w'=x.w)→Q .normal a' w') l a):(Code.region id l.toArray true).wp P Q a w :=
 wp_region_quiet (C:=fun w'=>∃x:Ext w,w'=x.w) hm hB ⟨⟨_,(Below.refl _ w).drew⟩,rfl⟩ (by simpa using h)
theorem Qz {P:Program} (t e:TypeId) (i:TypeInfo) (z:Value) (ht:P.underlying t=some (.slice e)) (hi:P.info? e=some i) (hz:i.zero=some z) (hz1:z.cells=#[z]) (hs:i.size=1)
  (kl kc:IntKind) (n:Nat) (hbytes:i.bytes*n≤281474976710656) (h63:n≤9223372036854775807) (w:World) :
  (Instr.makeSlice t (.int kl (n:Int)) (.int kc (n:Int))).run P w= .ok (.slice (some ⟨w.heap.size,0,none⟩) n n) (w.alloc (.cells (Array.replicate n z) e)):=by
 have hb:(i.bytes:Int)*(n:Int)≤281474976710656:=by
  have h:((i.bytes*n:Nat):Int)≤281474976710656:=by omega
  rwa [Int.natCast_mul] at h
 have hr:=run_make (P:=P) w t e i z ht hi hz kl kc n n (by omega) (by omega) hb (by omega);simp only [Int.toNat_natCast] at hr;rw [hr,hz1,hs,Nat.mul_one];congr 3;apply Array.toList_inj.1;rw [toList_madeCells_one,Array.toList_replicate]
theorem bY {k:IntKind} {a b:Int} (h:a=b):Ending.returned (.int k a)= .returned (.int k b):=by rw [h]
section
variable {P:Program} {ops:Array Oper} {md:Region.Mode} {C:World→Prop}
def Fv (P:Program) (md:Region.Mode) (ops:Array Oper) (C:World→Prop) (n:Nat) (L:Array Bool→Act→Prop):Nat→Array Bool→Act→Prop
 | 0,listed,a=>L listed a
 | f+1,listed,a=>Region.ready md ops listed≠[]∧∀i∈Region.ready md ops listed,i<n∧qOp P ops C i (Fv P md ops C n L f (listed.setIfInBounds i true)) a
theorem qz {n g:Nat} {L:Array Bool→Act→Prop} {Q':Exit→Act→World→Prop} (hL:∀listed a w,C w→L listed a→wpAny P md ops Q' g listed a w) :
  ∀(f:Nat) (listed:Array Bool) (a:Act) (w:World),C w→Fv P md ops C n L f listed a→wpAny P md ops Q' (f+g) listed a w
 | 0,listed,a,w,hw,h=>by rw [Nat.zero_add];exact hL _ _ _ hw h
 | f+1,listed,a,w,hw,h=>by
  rw [show f+1+g=(f+g)+1 by omega];exact ⟨fun h0=>absurd h0 h.1,fun i hi=>wpOp_of_qOp hw (fun a' w' hw' h'=>qz hL f _ a' w' hw' h') (h.2 i hi).2⟩
theorem Lf {n i:Nat} {oi:Oper} {v:Value} {L:Array Bool→Act→Prop} (hi:ops[i]? = some oi) (hsel:∀(j:Nat) (o:Oper) cs b,ops[j]? = some o→o.op≠.select cs b)
  (hs:Region.sinkB md ops n=true) (hc:Region.chainB md ops n=true) (hn:n<ops.size) (hin:i<n) (hdone:∀listed a,L listed a→∀j∈Region.ready md ops listed,n≤j) :
  ∀(f:Nat) (listed:Array Bool) (a:Act),HeadInv md ops n listed →
   (∀j oj,ops[j]? = some oj→j≠i→listed.getD j true=false→(∀e∈oj.after,Region.binds md e=true→e.on≠i)→oi.apart ops oj=true) →
   i∈Region.ready md ops listed→YieldsIn P ops C oi v a →
   Fv P md ops C n L f (listed.setIfInBounds i true) (a.put oi.dst v)→Fv P md ops C n L (f+1) listed a:=by
 intro f;induction f with
 | zero =>
  intro listed a inv _ hr hy H;have hun:=(mem_ready.1 hr).1;refine ⟨fun h=>(by rw [h] at hr;cases hr),fun j hj=>?_⟩;have hjn:j<n:=by
   by_cases h:j<n
   ·exact h
   ·exact absurd hj (tail_waits hs hc hn inv _ i rfl hin hun j (by omega))
  refine ⟨hjn,?_⟩;by_cases hji:j=i
  ·subst hji;exact hy.qOp hi H
  ·have:=hdone _ _ H j (ready_mono hj hji)
   omega
 | succ f ih =>
  intro listed a inv hfree hr hy H;have hun:=(mem_ready.1 hr).1;refine ⟨fun h=>(by rw [h] at hr;cases hr),fun j hj=>?_⟩;have hjn:j<n:=by
   by_cases h:j<n
   ·exact h
   ·exact absurd hj (tail_waits hs hc hn inv _ i rfl hin hun j (by omega))
  refine ⟨hjn,?_⟩;by_cases hji:j=i
  ·subst hji;exact hy.qOp hi H
  ·have h1:=(H.2 j (ready_mono hj hji)).2
   obtain ⟨hjun,oj,hoj,hall⟩:=mem_ready.1 hj;have hnot:∀e∈oj.after,Region.binds md e=true→e.on≠i:=fun e he hb heq=>by
    have h1:=hall e he hb;rw [heq,getD_both hun] at h1;cases h1
   have h2:=qOp_put hoj (hfree j oj hoj hji hjun hnot) (fun cs b=>hsel i oi cs b hi) (fun cs b=>hsel j oj cs b hoj) hy h1;have hfree':∀k ok,ops[k]? = some ok→k≠i→(listed.setIfInBounds j true).getD k true=false →
     (∀e∈ok.after,Region.binds md e=true→e.on≠i)→oi.apart ops ok=true:=fun k ok hk hki hu hno=>by
    refine hfree k ok hk hki ?_ hno;by_cases hjk:j=k
    ·subst hjk;exact hjun
    ·rw [getD_set_ne true hjk] at hu;exact hu
   refine qOp_mono (fun a' h3=>ih (listed.setIfInBounds j true) a' (inv.set hj hjn) hfree' (ready_mono hr (Ne.symm hji)) h3.1 ?_) h2;rw [Array.setIfInBounds_comm _ _ hji];exact h3.2
theorem Ao {n g:Nat} {Lq:Act→Prop} (hsel:Region.noSelect ops=true) (hs:Region.sinkB md ops n=true) (hc:Region.chainB md ops n=true) (hn:n<ops.size) :
  ∀(l:List Oper) (k:Nat) (listed:Array Bool) (a:Act),(∀j,j<l.length→l[j]? = ops[k+j]?)→k+l.length=n→HeadInv md ops n listed →
  Region.lexHead md ops g l.length k listed=true→wpQuiet P ops C Lq l a →
  Fv P md ops C n (fun listed' a'=>Region.seqB md ops g n listed'=true∧Lq a') l.length listed a
 | [],k,listed,a,_,hk,_,hB,h=>by
  obtain rfl:k=n:=by simpa using hk
  exact ⟨by simpa [Region.lexHead] using hB,h⟩
 | o::l,k,listed,a,hl,hk,inv,hB,h=>by
  have h0:ops[k]? = some o:=by simpa using (hl 0 (by simp)).symm
  simp only [List.length_cons,Region.lexHead,Bool.and_eq_true] at hB;obtain ⟨⟨hr,hf⟩,hB'⟩:=hB;have hkn:k<n:=by simp only [List.length_cons] at hk;omega
  have hr':k∈Region.ready md ops listed:=by simpa using hr
  have hst:qOp P ops C k (wpQuiet P ops C Lq l) a:=by unfold qOp;simp only [h0];exact h
  obtain ⟨v,hy,hK⟩:=yieldsIn_of_qOp h0 hst;exact Lf h0 (Region.noSelect_spec hsel) hs hc hn hkn (fun listed' a' hL=>seqB_ready hL.1) l.length listed a inv (Region.free_spec h0 hf) hr' hy
   (Ao hsel hs hc hn l (k+1) _ _ (fun j hj=>by have:=hl (j+1) (by simp;omega);simpa [Nat.add_assoc,Nat.add_comm 1 j] using this) (by simp only [List.length_cons] at hk;omega) (inv.set hr' hkn) hB' hK)
theorem dH {id:Nat} {Q:Exit→Act→World→Prop} {a:Act} {w:World} {l:List Oper} (n:Nat) (hm:P.follows .mixedOrders=true) (hB:Region.lexTailB .any l.toArray n=true)
  (h:wpQuiet P l.toArray (fun w'=>∃x:Ext w,w'=x.w) (fun a'=>∀x:Ext w,wpList P l.toArray Q (l.drop n) a' x.w) (l.take n) a):(Code.region id l.toArray true).wp P Q a w:=by
 simp only [Region.lexTailB,Bool.and_eq_true,decide_eq_true_eq] at hB;obtain ⟨⟨⟨⟨hsel,hn⟩,hs⟩,hc⟩,hlex⟩:=hB;have hn':n<l.length:=by simpa using hn
 have htl:(l.take n).length=n:=by simp;omega
 have hdl:(l.drop n).length=l.toArray.size - n:=by simp
 have inv0:HeadInv .any l.toArray n (Array.replicate l.toArray.size false) :=
  ⟨by simp,fun j oj _ hl=>(by rw [getD_replicate_false] at hl;cases hl),fun t _ ht=>getD_in (by simpa using ht) (getD_replicate_false _ _)⟩
 have H:=Ao (md:=.any) (g:=l.toArray.size - n) hsel hs hc hn (l.take n) 0 _ a (fun j hj=>by
  have hj':j<n:=by rw [htl] at hj;exact hj
  simp [hj']) (by simpa using htl) inv0 (by rw [htl];exact hlex) h
 refine wp_region_any hm ?_;have:=qz (Q':=Q) (g:=l.toArray.size - n) (fun listed a' w' hw' hL=>by
  obtain ⟨x,rfl⟩:=hw';have:=wpAny_of_seq (md:=.any) (Q':=Q) (l.drop n) n listed a' x.w (fun j=>by simp [List.getElem?_drop]) (by rw [hdl];exact hL.1) (hL.2 x)
  rwa [hdl] at this) _ _ _ _ (⟨⟨_,(Below.refl _ w).drew⟩,rfl⟩:∃x:Ext w,({ w with drawn:=w.drawn+1 }:World)=x.w) H
 rw [htl,show n+(l.toArray.size - n)=l.toArray.size by omega] at this;exact this
end
theorem dV {a b:Bool} (h:a=b):Ending.returned (.bool a)= .returned (.bool b):=by rw [h]
theorem drop_cons {α:Type} (d:α) (xs:List α) (k:Nat) (h:k<xs.length):xs.drop k=xs.getD k d::xs.drop (k+1):=by
 rw [List.drop_eq_getElem_cons h];simp [List.getD_eq_getElem?_getD,h]
section
variable {P:Program} {Q:Exit→Act→World→Prop}
def rT (P:Program) (ops:Array Oper) (Q:Exit→Act→World→Prop) (Inv:(Nat→Bool)→Act→World→Prop):List Oper→Nat→Prop
 | [],_=>True
 | o::r,k=>(∀(D:Nat→Bool) (a:Act) (w:World),Inv D a w→D k=false→(∀e∈o.after,Region.binds .any e=true→D e.on=true) →
   (if Region.wanted o (yielded ops a.tmps) then o.wp P a w (fun a' w'=>Inv (fun j=>j==k||D j) a' w') Q else Inv (fun j=>j==k||D j) (a.put o.dst undef) w))∧rT P ops Q Inv r (k+1)
theorem rT.at_ {ops:Array Oper} {Inv:(Nat→Bool)→Act→World→Prop}:∀(l:List Oper) (k:Nat),rT P ops Q Inv l k→∀i o,l[i]? = some o →
  ∀(D:Nat→Bool) (a:Act) (w:World),Inv D a w→D (k+i)=false→(∀e∈o.after,Region.binds .any e=true→D e.on=true) →
   (if Region.wanted o (yielded ops a.tmps) then o.wp P a w (fun a' w'=>Inv (fun j=>j==(k+i)||D j) a' w') Q else Inv (fun j=>j==(k+i)||D j) (a.put o.dst undef) w)
 | [],_,_,i,o,hi=>by simp at hi
 | o::r,k,h,i,o',hi=>by
  cases i with
  | zero=>simp at hi;subst hi;exact h.1
  | succ i =>
   have:=rT.at_ r (k+1) h.2 i o' (by simpa using hi);rw [show k+1+i=k+(i+1) by omega] at this;exact this
end
structure af (T:Nat→Prop) (A B:World):Prop where
 os:B.os=A.os
 tape:B.tape=A.tape
 output:B.output=A.output
 size:A.heap.size≤B.heap.size
 block:∀k,k<A.heap.size→¬T k→B.heap[k]? = A.heap[k]?
section
variable {T T':Nat→Prop} {A B C:World}
theorem af.refl (T:Nat→Prop) (A:World):af T A A:=⟨rfl,rfl,rfl,Nat.le_refl _,fun _ _ _=>rfl⟩
theorem af.trans (h:af T A B) (k:af T B C):af T A C :=
 ⟨k.os.trans h.os,k.tape.trans h.tape,k.output.trans h.output,Nat.le_trans h.size k.size,fun i hi hT=>(k.block i (Nat.lt_of_lt_of_le hi h.size) hT).trans (h.block i hi hT)⟩
theorem af.mono (h:af T A B) (hT:∀k,k<A.heap.size→T k→T' k):af T' A B:=⟨h.os,h.tape,h.output,h.size,fun k hk hn=>h.block k hk (fun ht=>hn (hT k hk ht))⟩
theorem af.trans' (h:af T A B) (k:af T' B C) (hT:∀i,i<A.heap.size→T' i→T i):af T A C :=
 ⟨k.os.trans h.os,k.tape.trans h.tape,k.output.trans h.output,Nat.le_trans h.size k.size,fun i hi hn=>(k.block i (Nat.lt_of_lt_of_le hi h.size) (fun ht=>hn (hT i hi ht))).trans (h.block i hi hn)⟩
theorem af.of_below (h:Below A.heap.size A B):af T A B:=⟨h.os,h.tape,h.output,h.size,fun k hk _=>h.block k hk⟩
theorem af.below {n:Nat} (h:af T A B) (hn:n≤A.heap.size) (hT:∀k,k<n→¬T k):Below n A B:=⟨h.os,h.tape,h.output,h.size,fun k hk=>h.block k (by omega) (hT k hk)⟩
theorem af.alloc (h:af T A B) (o:Obj):af T A (B.alloc o):=h.trans (.of_below ((Below.refl _ _).alloc (Nat.le_refl _) o))
theorem af.drew (h:af T A B):af T A B.drew:=h.trans (.of_below ((Below.refl _ _).drew))
theorem af.setCell (h:af T A B) {p:Addr} (hp:p.block<A.heap.size→T p.block) (v:Value):af T A (B.setCell p v):=by
 refine ⟨h.os,h.tape,h.output,Nat.le_trans h.size (KeepsWalks.setCell B p v).size,fun k hk hT=>(Below.heap_setCell B p v k (fun e=>?_)).trans (h.block k hk hT)⟩;exact hT (by rw [e];exact hp (by rw [←e];exact hk))
theorem af.putObj (h:af T A B) {l:Nat} (hl:l<A.heap.size→T l) (o:Obj):af T A (B.putObj l o) :=
 ⟨h.os,h.tape,h.output,by rw [World.putObj_size];exact h.size,fun k hk hT=>(World.putObj_heap_other (fun e=>hT (by rw [e];exact hl (by rw [←e];exact hk)))).trans (h.block k hk hT)⟩
theorem af.call (h:af T A B) (hb:Below B.heap.size B C):af T A C:=h.trans (.of_below hb)
theorem af.blk {g:Nat} {t:TypeId} {cs:Array Value} (h:af T A B) (hg:ag A g t cs) (hT:¬T g):ag B g t cs:=(h.block g hg.lt hT).trans hg
theorem af.same {l:Nat} {o:Obj} (h:af T A B) (hl:A.heap[l]? = some o) (hT:¬T l):B.heap[l]? = some o:=(h.block l (Array.getElem?_eq_some_iff.1 hl).1 hT).trans hl
theorem af.cell {p:Addr} {v:Value} (h:af T A B) (hc:A.cell? p=some v) (hT:¬T p.block):B.cell? p=some v:=by
 have hb:p.block<A.heap.size:=World.block_lt_of_cell? _ _ hc;have:=h.block p.block hb hT;simp only [World.cell?] at hc ⊢;rw [this];exact hc
theorem af.ru {Bn:Nat} {Ad:Option Addr} {us:List (Int×Int)} (h:af T A B) (hr:RU A Bn Ad us) (hT:∀b o,Ad=some ⟨b,o,none⟩→¬T b):RU B Bn Ad us:=fun k hl=>by
 obtain ⟨b,o,e,hb,hc,hd⟩:=hr k hl;exact ⟨b,o,e,hb,h.cell hc (hT b o e),h.cell hd (hT b o e)⟩
end
def xX {α:Type} (P:Program) (g:Nat) (lb:Array Value) (encs:α→Array Value) (T K:Nat→Prop) (xs:List α) (w:World):Prop :=
 ∀(n l:Nat) (J Jx:List α→World→Prop) (W:World),af (fun k=>¬K k) w W →
  (∀pre A B,J pre A→af T A B→J pre B)→(∀pre A B,Jx pre A→af T A B→Jx pre B) →
  (∀m pre x W1,J pre W1→pre++[x] <+: xs→YieldAt Fence.wide m P l (encs x) W1 fun e W' =>
   (e= .returned (.bool true)∧J (pre++[x]) W'∧af (fun k=>¬K k) W1 W')∨(e= .returned (.bool false)∧Jx (pre++[x]) W')) →
  J [] W →
  CallsIn Fence.wide n P g (#[.func (.yield l) #[] #[]]++lb) W fun e W'=>(∃v,e= .returned v)∧(J xs W'∨∃pre,pre <+: xs∧Jx pre W')
theorem xX.later {α:Type} {P:Program} {g:Nat} {lb:Array Value} {encs:α→Array Value} {T K:Nat→Prop} {xs:List α} {w w':World}
  (h:xX P g lb encs T K xs w) (hw:af (fun k=>¬K k) w w'):xX P g lb encs T K xs w' :=
 fun n l J Jx W hW=>h n l J Jx W (hw.trans hW)
def QA {α:Type} (D:Nat) (K:Nat→Prop) (I:List α→World→Prop) (Ix:Code→List α→World→Prop) (xs:List α) (W:World):Exit→Act→World→Prop
 | .normal,_,W'=>af (fun k=>¬(K k∨k=D∨k=D+1)) W W'∧I xs W'
 | .ret,_,W'=>af (fun k=>¬(k=D∨k=D+1)) W W'∧Ix .ret xs W'
 | .exit id,_,W'=>af (fun k=>¬(k=D∨k=D+1)) W W'∧Ix (.exit id) xs W'
 | .goto t,_,W'=>af (fun k=>¬(k=D∨k=D+1)) W W'∧Ix (.goto t) xs W'
 | .panic _,_,_=>False
 | .outgrown,_,_=>False
abbrev eX (D:Nat):Deferred:={ target:=.collected D,args:=#[] }
theorem Fj {α:Type} {P:Program} {g:Operand} {ps:Array Tmp} {assign body:Code} {Q:Exit→Act→World→Prop} {a:Act} {w:World}
  {gf:Nat} {lb:Array Value} (hg:a.eval g= .func (.func gf) #[] lb) (eg:∀args w,(callFunc gf args).run P w= .ok (.enter gf args) w)
  {encs:α→Array Value} {T K:Nat→Prop} {xs:List α} (hseq:xX P gf lb encs T K xs w) (hps:∀x,(encs x).size=ps.size)
  (hT:∀k,T k→k<w.heap.size) (hK:∀k,K k→k<w.heap.size)
  (I:List α→World→Prop) (Ix:Code→List α→World→Prop)
  (hI:∀pre A B,I pre A→af (fun k=>T k∨k=w.heap.size∨k=w.heap.size+1) A B→I pre B)
  (hIx:∀c pre A B,Ix c pre A→af (fun k=>T k∨k=w.heap.size∨k=w.heap.size+1) A B→Ix c pre B)
  (h0:I [] w) (Ax:Nat→α→Act→World→Prop) (hAx:∀N x a' A B,Ax N x a' A→af (fun k=>k=w.heap.size+1) A B→Ax N x a' B)
  (hassign:∀(m l:Nat) (x:α) (W:World) (C:Act→World→Prop),w.heap.size+2≤W.heap.size→(∀a' W',af (fun _=>False) W W'→Ax W.heap.size x a' W'→C a' W') →
   assign.wpIn (Fence.wide.inRound l) m P (Exit.then C (fun _ _ _=>False)) { tmps:=(ps.zip (encs x)).foldl (fun t (p,v)=>t.setIfInBounds p v) a.tmps,defers:=[] } W)
  (hbody:∀(m l:Nat) (pre:List α) (x:α) (a':Act) (Wa W:World),w.heap.size+2≤W.heap.size→I pre W→Ax Wa.heap.size x a' W→pre++[x] <+: xs→I pre Wa→af (fun k=>k=w.heap.size+1) Wa W →
   body.wpIn (Fence.wide.inRound l) m P (QA w.heap.size K I Ix (pre++[x]) W) a' W)
  (hdone:∀(W:World),w.heap.size+2≤W.heap.size→I xs W→W.heap[w.heap.size]? = some (.deferred (some []))→Q .normal { a with defers:=eX w.heap.size::a.defers } W)
  (hstop:∀(c:Code) (pre:List α) (W:World),w.heap.size+2≤W.heap.size→pre <+: xs→Ix c pre W→W.heap[w.heap.size]? = some (.deferred (some []))→c.wp P Q { a with defers:=eX w.heap.size::a.defers } W) :
  (Code.rangeFunc g ps assign body).wp P Q a w:=by
 refine (wpIn_wide (n:=0)).1 (wpIn_rangeFunc fun fn _=>?_);obtain ⟨D,hD⟩:=aj (w.heap.size)
 -- the loop's record, in its three states
 obtain ⟨rec,hrec⟩:∃rec:LoopState→Option Code→Loop,rec=fun s p=>{ state:=s,pending:=p,fn,tmps:=a.tmps,params:=ps,assign,body,defers:=D }:=⟨_,rfl⟩
 obtain ⟨W1,hW1⟩:=aj ((w.alloc (.deferred (some []))).alloc (.loop (rec .ready none)));have hent:(Instr.enterLoop fn a.tmps ps assign body none).run P w= .ok (D+1,[eX D]) W1:=by
  rw [←hW1,hrec,←hD];exact run_enterLoop_outer _ _ _ _ _
 have nE:af (fun _=>False) w W1:=by rw [←hW1];exact ((af.refl _ w).alloc _).alloc _
 have hl1:W1.heap[D+1]? = some (.loop (rec .ready none)):=by
  rw [←hW1,←hD];have:=World.alloc_heap_new (w.alloc (.deferred (some []))) (.loop (rec .ready none))
  rwa [World.size_alloc] at this
 have hd1:W1.heap[D]? = some (.deferred (some [])):=by
  rw [←hW1,←hD];exact (Below.heap_alloc _ _ _ (by simp)).trans (World.alloc_heap_new w _)
 rw [hD] at hT hK hI hIx hAx hassign hbody hdone hstop;refine ⟨D+1,[eX D],W1,{ target:=.fn (.func gf) lb,args:=#[.func (.yield (D+1)) #[] #[]] },W1,gf,#[.func (.yield (D+1)) #[] #[]]++lb,W1,hent,?_,fun _ _=>trivial,?_,fun h=>(by cases h),?_⟩
 ·simp only [resolve,hg]
  simp [go_sem]
 ·simp [invoke,go_sem,eg]
 -- what the iterator carries: the loop's invariant, the record, the block for deferred calls
 let J:List α→World→Prop:=fun pre W=>I pre W∧W.heap[D+1]? = some (.loop (rec .ready none))∧W.heap[D]? = some (.deferred (some []))
 let Jx:List α→World→Prop:=fun pre W=>∃c,Ix c pre W∧W.heap[D+1]? = some (.loop (rec .done (some c)))∧W.heap[D]? = some (.deferred (some []))
 have BL:∀k,T k→k≠D∧k≠D+1:=fun k hk=>by have:=hT k hk;omega
 have Fw:∀k,K k→k≠D∧k≠D+1:=fun k hk=>by have:=hK k hk;omega
 refine (hseq _ (D+1) J Jx W1 (nE.mono (fun _ _ h=>h.elim)) (fun pre A B h hf=>⟨hI pre A B h.1 (hf.mono fun _ _ ht=>.inl ht),hf.same h.2.1 (fun h=>(BL _ h).2 rfl),hf.same h.2.2 (fun h=>(BL _ h).1 rfl)⟩)
  (fun pre A B h hf=>by
   obtain ⟨c,h1,h2,h3⟩:=h;exact ⟨c,hIx c pre A B h1 (hf.mono fun _ _ ht=>.inl ht),hf.same h2 (fun h=>(BL _ h).2 rfl),hf.same h3 (fun h=>(BL _ h).1 rfl)⟩)
  ?_ ⟨hI [] w W1 h0 (nE.mono fun _ _ h=>h.elim),hl1,hd1⟩).mono ?_
 ·-- a round
  rintro m pre x Wa ⟨hi,hl,hd⟩ hpre;have hlt:D+1<Wa.heap.size:=(Array.getElem?_eq_some_iff.1 hl).1;have hy:=run_yield (P:=P) (args:=encs x) hl (by rw [hrec];exact hps x);rw [hrec] at hy;refine ⟨fn,_,assign,body,hy,roundIn_of_wpIn trivial (hassign m (D+1) x Wa _ (by omega) fun a' Wb hab hax=>?_)⟩;have hlb:=hab.same hl id;have QB:=hab.same hd id;have hib:=hI pre Wa Wb hi (hab.mono fun _ _ h=>h.elim);have Fz:D+1<Wb.heap.size:=(Array.getElem?_eq_some_iff.1 hlb).1;refine ⟨_,run_beginRound hlb (by rw [hrec]),?_⟩;obtain ⟨Wc,hWc⟩:=aj (Wb.putObj (D+1) (.loop { rec .ready none with state:=.busy }));rw [hWc];have hbc:af (fun k=>k=D+1) Wb Wc:=by rw [←hWc];exact af.putObj (T:=fun k=>k=D+1) (af.refl _ Wb) (fun _=>rfl) _
  have hlc:Wc.heap[D+1]? = some (.loop { rec .ready none with state:=.busy }):=by rw [←hWc];exact World.putObj_heap_same Fz
  have Nc:Wc.heap[D]? = some (.deferred (some [])):=hbc.same QB (by omega);have Xm:D+1<Wc.heap.size:=(Array.getElem?_eq_some_iff.1 hlc).1;refine wpIn_mono (hbody m (D+1) pre x a' Wa Wc (by omega) (hI pre Wb Wc hib (hbc.mono fun _ _ h=>.inr (.inr h))) (hAx _ x a' Wb Wc hax hbc) hpre hi ((hab.mono fun _ _ h=>h.elim:af (fun k=>k=D+1) Wa Wb).trans hbc)) ?_
  -- what 'endRound' makes of it
  have fin:∀(j:Option Code) (Wd:World),af (fun k=>¬(k=D∨k=D+1)) Wc Wd →
    (Instr.endRound (D+1) j).run P Wd= .ok (.bool j.isNone) (Wd.putObj (D+1) (.loop (rec (if j.isNone then .ready else .done) j))) ∧
    (Wd.putObj (D+1) (.loop (rec (if j.isNone then .ready else .done) j))).heap[D+1]? = some (.loop (rec (if j.isNone then .ready else .done) j)) ∧
    (Wd.putObj (D+1) (.loop (rec (if j.isNone then .ready else .done) j))).heap[D]? = some (.deferred (some [])):=fun j Wd hcd=>by
   have hld:=hcd.same hlc (fun h=>h (.inr rfl));have he:=run_endRound (P:=P) j hld;rw [hrec] at he ⊢;exact ⟨he,World.putObj_heap_same (Array.getElem?_eq_some_iff.1 hld).1,(World.putObj_heap_other (by omega)).trans (hcd.same Nc (fun h=>h (.inl rfl)))⟩
  have back:∀(o:Obj) (Wd:World),af (fun k=>T k∨k=D∨k=D+1) Wd (Wd.putObj (D+1) o):=fun o Wd=>(af.refl _ Wd).putObj (fun _=>.inr (.inr rfl)) o
  intro e a3 Wd hp;cases e with
  | normal =>
   obtain ⟨hcd,hid⟩:=hp;obtain ⟨h1,h2,h3⟩:=fin none Wd (hcd.mono fun k _ h h'=>h (.inr h'));refine ⟨_,_,h1,.inl ⟨rfl,⟨hI _ _ _ hid (back _ Wd),h2,h3⟩,?_⟩⟩;refine (((hab.mono fun _ _ h=>h.elim:af (fun k=>¬K k) Wa Wb).trans (hbc.mono fun k _ h hk=>(Fw k hk).2 h)).trans (hcd.mono fun k _ h hk=>h (.inl hk))).putObj (fun _ hk=>(Fw _ hk).2 rfl) _
  | ret =>
   obtain ⟨hcd,hid⟩:=hp;obtain ⟨h1,h2,h3⟩:=fin (some .ret) Wd hcd;exact ⟨_,_,h1,.inr ⟨rfl,.ret,hIx _ _ _ _ hid (back _ Wd),h2,h3⟩⟩
  | exit id =>
   obtain ⟨hcd,hid⟩:=hp;obtain ⟨h1,h2,h3⟩:=fin (some (.exit id)) Wd hcd;exact ⟨_,_,h1,.inr ⟨rfl,.exit id,hIx _ _ _ _ hid (back _ Wd),h2,h3⟩⟩
  | goto t =>
   obtain ⟨hcd,hid⟩:=hp;obtain ⟨h1,h2,h3⟩:=fin (some (.goto t)) Wd hcd;exact ⟨_,_,h1,.inr ⟨rfl,.goto t,hIx _ _ _ _ hid (back _ Wd),h2,h3⟩⟩
  | panic ch=>exact hp.elim
  | outgrown=>exact hp.elim
 ·-- behind the iterator
  have back:∀(o:Obj) (Wd:World),af (fun k=>T k∨k=D∨k=D+1) Wd (Wd.putObj (D+1) o):=fun o Wd=>(af.refl _ Wd).putObj (fun _=>.inr (.inr rfl)) o
  rintro e W2 ⟨⟨v,rfl⟩,h2⟩;rcases h2 with ⟨hi,hl,hd⟩|⟨pre,hpre,c,hi,hl,hd⟩
  ·have he:=run_endLoop (P:=P) hl (by rw [hrec];simp)
   rw [hrec] at he;have hlt:D+1<W2.heap.size:=(Array.getElem?_eq_some_iff.1 hl).1;exact ⟨none,_,he,hdone _ (by rw [World.putObj_size];omega) (hI _ _ _ hi (back _ W2)) ((World.putObj_heap_other (by omega)).trans hd)⟩
  ·have he:=run_endLoop (P:=P) hl (by rw [hrec];simp)
   rw [hrec] at he;have hlt:D+1<W2.heap.size:=(Array.getElem?_eq_some_iff.1 hl).1;exact ⟨some c,_,he,(wpIn_wide (n:=0)).2 (hstop c pre _ (by rw [World.putObj_size];omega) hpre (hIx _ _ _ _ hi (back _ W2)) ((World.putObj_heap_other (by omega)).trans hd))⟩
theorem bM {P:Program} {f:FuncId} {fn:Func} {c:Code} {args:Array Value} {w:World} {R:Ending→World→Prop}
  (hf:P.funcs[f]? = some fn) (hb:fn.body=some c) (h:c.wp P (bodyPostM Fence.wide 0 P fn R) { tmps:=args++Array.replicate (fn.ntmps - args.size) undef,defers:=[] } w):Calls P f args w R :=
 (callsIn_wide (n:=0)).1 (callsIn_of_wp_marks hf hb trivial (wpIn_wide.2 h))
theorem eY {P:Program} {fn:Func} {tmps:Array Value} {w:World} {R:Ending→World→Prop} {D:Nat} {v:Value} (hd:w.heap[D]? = some (.deferred (some [])))
  (hres:(results fn tmps).run P (w.putObj D (.deferred none))= .ok v (w.putObj D (.deferred none))) (hR:R (.returned v) (w.putObj D (.deferred none))) :
  bodyPostM Fence.wide 0 P fn R .ret { tmps:=tmps,defers:=[eX D] } w :=
 ⟨by simp,.inl ⟨_,_,rfl,run_takeDeferred hd,v,hres,hR⟩⟩
theorem iw {P:Program} {fn:Func} {tmps:Array Value} {w:World} {R:Ending→World→Prop} {v:Value}
  (hres:(results fn tmps).run P w= .ok v w) (hR:R (.returned v) w):bodyPostM Fence.wide 0 P fn R .ret { tmps:=tmps,defers:=[] } w:=⟨v,hres,hR⟩
theorem QC {w W:World} {D:Nat} (h:Below w.heap.size w W) (hD:w.heap.size≤D) (o:Obj):Below w.heap.size w (W.putObj D o) :=
 ⟨h.os,h.tape,h.output,by rw [World.putObj_size];exact h.size,fun k hk=>(World.putObj_heap_other (by omega)).trans (h.block k hk)⟩
theorem aC (k:Nat):Fence.wide.fn k=True:=rfl
theorem au:Fence.wide.depth=none:=rfl
theorem az (k l:Nat):(Fence.wide.inRound l).fn k=True:=rfl
theorem ah (l:Nat):(Fence.wide.inRound l).depth=none:=rfl
def jW (N:Nat) (A B:World):Prop:=∃T,af T A B∧(∀k,T k→N≤k)∧∀k t cs,ag A k t cs→¬T k
theorem jW.blk {N:Nat} {A B:World} (h:jW N A B) {g:Nat} {t:TypeId} {cs:Array Value} (hg:ag A g t cs):ag B g t cs:=by
 obtain ⟨T,hF,_,hT⟩:=h;exact hF.blk hg (hT _ _ _ hg)
theorem jW.of_below {N:Nat} {A B:World} (h:Below A.heap.size A B):jW N A B:=⟨fun _=>False,.of_below h,fun _ h=>h.elim,fun _ _ _ _ h=>h⟩
theorem jW.refl (N:Nat) (A:World):jW N A A:=.of_below (Below.refl _ _)
def Ud {α:Type} (P:Program) (tE:TypeId) (g:Nat) (lb:Array Value) (encs:α→Array Value) (K:Nat→Prop) (xs:List α) (w:World):Prop :=
 ∀(n l:Nat) (J Jx:List α→World→Prop) (W:World),af (fun k=>¬K k) w W →
  (∀pre A B,J pre A→Below A.heap.size A B→J pre B)→(∀pre A B,Jx pre A→Below A.heap.size A B→Jx pre B) →
  (∀m (X:Nat→Prop) pre x W1,J pre W1→(∀k,X k→∃cs,ag W1 k tE cs)→pre++[x] <+: xs→YieldAt Fence.wide m P l (encs x) W1 fun e W' =>
   (e= .returned (.bool true)∧J (pre++[x]) W'∧af (fun k=>¬(K k∨X k)) W1 W')∨(e= .returned (.bool false)∧Jx (pre++[x]) W')) →
  J [] W →
  CallsIn Fence.wide n P g (#[.func (.yield l) #[] #[]]++lb) W fun e W'=>(∃v,e= .returned v)∧(J xs W'∨∃pre,pre <+: xs∧Jx pre W')
def QD {α:Type} (D:Nat) (K X:Nat→Prop) (I:List α→World→Prop) (Ix:Code→List α→World→Prop) (xs:List α) (W:World):Exit→Act→World→Prop
 | .normal,_,W'=>af (fun k=>¬(K k∨X k∨k=D∨k=D+1)) W W'∧I xs W'
 | .ret,_,W'=>af (fun k=>¬(k=D∨k=D+1)) W W'∧Ix .ret xs W'
 | .exit id,_,W'=>af (fun k=>¬(k=D∨k=D+1)) W W'∧Ix (.exit id) xs W'
 | .goto t,_,W'=>af (fun k=>¬(k=D∨k=D+1)) W W'∧Ix (.goto t) xs W'
 | .panic _,_,_=>False
 | .outgrown,_,_=>False
theorem lH {w:World} {k:Nat} {o:Obj} (h:w.heap[k]? = some o) (ho:∀cs t f,o≠.cells cs t f):∀t cs,¬ag w k t cs:=fun t cs hk=>ho cs t (0,0) (Option.some.inj (h.symm.trans hk))
theorem Ue {α:Type} {P:Program} {tE:TypeId} {g:Operand} {ps:Array Tmp} {assign body:Code} {Q:Exit→Act→World→Prop} {a:Act} {w:World}
  {gf:Nat} {lb:Array Value} (hg:a.eval g= .func (.func gf) #[] lb) (eg:∀args w,(callFunc gf args).run P w= .ok (.enter gf args) w)
  {encs:α→Array Value} {K:Nat→Prop} {xs:List α} (hseq:Ud P tE gf lb encs K xs w) (hps:∀x,(encs x).size=ps.size)
  (hK:∀k,K k→k<w.heap.size)
  (I:List α→World→Prop) (Ix:Code→List α→World→Prop)
  (hI:∀pre A B,I pre A→jW w.heap.size A B→I pre B)
  (hIx:∀c pre A B,Ix c pre A→jW w.heap.size A B→Ix c pre B)
  (h0:I [] w) (Ax:α→Act→World→Prop) (hAx:∀x a' A B,Ax x a' A→jW w.heap.size A B→Ax x a' B)
  (hassign:∀(m l:Nat) (x:α) (W:World) (C:Act→World→Prop),(∀a' W',Below W.heap.size W W'→Ax x a' W'→C a' W') →
   assign.wpIn (Fence.wide.inRound l) m P (Exit.then C (fun _ _ _=>False)) { tmps:=(ps.zip (encs x)).foldl (fun t (p,v)=>t.setIfInBounds p v) a.tmps,defers:=[] } W)
  (hbody:∀(m l:Nat) (X:Nat→Prop) (pre:List α) (x:α) (a':Act) (W:World),w.heap.size+2≤W.heap.size→(∀k,X k→∃cs,ag W k tE cs)→(∀t cs,¬ag W w.heap.size t cs)→(∀t cs,¬ag W (w.heap.size+1) t cs)→I pre W→Ax x a' W→pre++[x] <+: xs →
   body.wpIn (Fence.wide.inRound l) m P (QD w.heap.size K X I Ix (pre++[x]) W) a' W)
  (hdone:∀(W:World),w.heap.size+2≤W.heap.size→I xs W→W.heap[w.heap.size]? = some (.deferred (some []))→Q .normal { a with defers:=eX w.heap.size::a.defers } W)
  (hstop:∀(c:Code) (pre:List α) (W:World),w.heap.size+2≤W.heap.size→pre <+: xs→Ix c pre W→W.heap[w.heap.size]? = some (.deferred (some []))→c.wp P Q { a with defers:=eX w.heap.size::a.defers } W) :
  (Code.rangeFunc g ps assign body).wp P Q a w:=by
 refine (wpIn_wide (n:=0)).1 (wpIn_rangeFunc fun fn _=>?_);obtain ⟨D,hD⟩:=aj (w.heap.size)
 -- the loop's record, in its three states
 obtain ⟨rec,hrec⟩:∃rec:LoopState→Option Code→Loop,rec=fun s p=>{ state:=s,pending:=p,fn,tmps:=a.tmps,params:=ps,assign,body,defers:=D }:=⟨_,rfl⟩
 obtain ⟨W1,hW1⟩:=aj ((w.alloc (.deferred (some []))).alloc (.loop (rec .ready none)));have hent:(Instr.enterLoop fn a.tmps ps assign body none).run P w= .ok (D+1,[eX D]) W1:=by
  rw [←hW1,hrec,←hD];exact run_enterLoop_outer _ _ _ _ _
 have nE:af (fun _=>False) w W1:=by rw [←hW1];exact ((af.refl _ w).alloc _).alloc _
 have hl1:W1.heap[D+1]? = some (.loop (rec .ready none)):=by
  rw [←hW1,←hD];have:=World.alloc_heap_new (w.alloc (.deferred (some []))) (.loop (rec .ready none))
  rwa [World.size_alloc] at this
 have hd1:W1.heap[D]? = some (.deferred (some [])):=by
  rw [←hW1,←hD];exact (Below.heap_alloc _ _ _ (by simp)).trans (World.alloc_heap_new w _)
 rw [hD] at hK hI hIx hAx hbody hdone hstop;refine ⟨D+1,[eX D],W1,{ target:=.fn (.func gf) lb,args:=#[.func (.yield (D+1)) #[] #[]] },W1,gf,#[.func (.yield (D+1)) #[] #[]]++lb,W1,hent,?_,fun _ _=>trivial,?_,fun h=>(by cases h),?_⟩
 ·simp only [resolve,hg]
  simp [go_sem]
 ·simp [invoke,go_sem,eg]
 -- what the iterator carries: the loop's invariant, the record, the block for deferred calls
 let J:List α→World→Prop:=fun pre W=>I pre W∧W.heap[D+1]? = some (.loop (rec .ready none))∧W.heap[D]? = some (.deferred (some []))
 let Jx:List α→World→Prop:=fun pre W=>∃c,Ix c pre W∧W.heap[D+1]? = some (.loop (rec .done (some c)))∧W.heap[D]? = some (.deferred (some []))
 have Fw:∀k,K k→k≠D∧k≠D+1:=fun k hk=>by have:=hK k hk;omega
 have soft:∀(o:Obj) (A:World) (s p),A.heap[D+1]? = some (.loop (rec s p))→jW D A (A.putObj (D+1) o):=fun o A s p h=>⟨fun k=>k=D+1,af.putObj (T:=fun k=>k=D+1) (af.refl _ A) (fun _=>rfl) o,fun k hk=>by rw [hk];omega,fun k t cs hk e=>by subst e;exact lH h (fun _ _ _ h=>by cases h) t cs hk⟩
 refine (hseq _ (D+1) J Jx W1 (nE.mono (fun _ _ h=>h.elim)) (fun pre A B h hb=>⟨hI pre A B h.1 (.of_below hb),(hb.block _ (Array.getElem?_eq_some_iff.1 h.2.1).1).trans h.2.1,(hb.block _ (Array.getElem?_eq_some_iff.1 h.2.2).1).trans h.2.2⟩)
  (fun pre A B h hb=>by
   obtain ⟨c,h1,h2,h3⟩:=h;exact ⟨c,hIx c pre A B h1 (.of_below hb),(hb.block _ (Array.getElem?_eq_some_iff.1 h2).1).trans h2,(hb.block _ (Array.getElem?_eq_some_iff.1 h3).1).trans h3⟩)
  ?_ ⟨hI [] w W1 h0 ⟨fun _=>False,nE,fun _ h=>h.elim,fun _ _ _ _ h=>h⟩,hl1,hd1⟩).mono ?_
 ·-- a round
  rintro m X pre x Wa ⟨hi,hl,hd⟩ hXt hpre;have hlt:D+1<Wa.heap.size:=(Array.getElem?_eq_some_iff.1 hl).1;have hy:=run_yield (P:=P) (args:=encs x) hl (by rw [hrec];exact hps x);rw [hrec] at hy;refine ⟨fn,_,assign,body,hy,roundIn_of_wpIn trivial (hassign m (D+1) x Wa _ fun a' Wb hbb hax=>?_)⟩;have hab:af (fun _=>False) Wa Wb:=.of_below hbb;have hlb:=hab.same hl id;have QB:=hab.same hd id;have hib:=hI pre Wa Wb hi (.of_below hbb);have Fz:D+1<Wb.heap.size:=(Array.getElem?_eq_some_iff.1 hlb).1;refine ⟨_,run_beginRound hlb (by rw [hrec]),?_⟩;obtain ⟨Wc,hWc⟩:=aj (Wb.putObj (D+1) (.loop { rec .ready none with state:=.busy }));rw [hWc];have hbc:af (fun k=>k=D+1) Wb Wc:=by rw [←hWc];exact af.putObj (T:=fun k=>k=D+1) (af.refl _ Wb) (fun _=>rfl) _
  have hlc:Wc.heap[D+1]? = some (.loop { rec .ready none with state:=.busy }):=by rw [←hWc];exact World.putObj_heap_same Fz
  have hsc:jW D Wb Wc:=by rw [←hWc];exact soft _ _ _ _ hlb
  have Nc:Wc.heap[D]? = some (.deferred (some [])):=hbc.same QB (by omega);have Xm:D+1<Wc.heap.size:=(Array.getElem?_eq_some_iff.1 hlc).1;refine wpIn_mono (hbody m (D+1) X pre x a' Wc (by omega) (fun k hk=>(hXt k hk).imp fun cs hc=>hsc.blk ((jW.of_below (N:=D) hbb).blk hc)) (lH Nc (fun _ _ _ h=>by cases h)) (lH hlc (fun _ _ _ h=>by cases h)) (hI pre Wb Wc hib hsc) (hAx x a' Wb Wc hax hsc) hpre) ?_
  -- what 'endRound' makes of it
  have fin:∀(j:Option Code) (Wd:World),af (fun k=>¬(k=D∨k=D+1)) Wc Wd →
    (Instr.endRound (D+1) j).run P Wd= .ok (.bool j.isNone) (Wd.putObj (D+1) (.loop (rec (if j.isNone then .ready else .done) j))) ∧
    (Wd.putObj (D+1) (.loop (rec (if j.isNone then .ready else .done) j))).heap[D+1]? = some (.loop (rec (if j.isNone then .ready else .done) j)) ∧
    (Wd.putObj (D+1) (.loop (rec (if j.isNone then .ready else .done) j))).heap[D]? = some (.deferred (some [])):=fun j Wd hcd=>by
   have hld:=hcd.same hlc (fun h=>h (.inr rfl));have he:=run_endRound (P:=P) j hld;rw [hrec] at he ⊢;exact ⟨he,World.putObj_heap_same (Array.getElem?_eq_some_iff.1 hld).1,(World.putObj_heap_other (by omega)).trans (hcd.same Nc (fun h=>h (.inl rfl)))⟩
  have back:∀(o:Obj) (Wd:World),af (fun k=>¬(k=D∨k=D+1)) Wc Wd→jW D Wd (Wd.putObj (D+1) o):=fun o Wd hcd=>by
   have hld:=hcd.same hlc (fun h=>h (.inr rfl));exact ⟨fun k=>k=D+1,af.putObj (T:=fun k=>k=D+1) (af.refl _ Wd) (fun _=>rfl) o,fun k hk=>by rw [hk];omega,fun k t cs hk e=>by subst e;exact lH hld (fun _ _ _ h=>by cases h) t cs hk⟩
  have hnX:∀k,X k→k≠D∧k≠D+1:=fun k hk=>by
   obtain ⟨cs,hc⟩:=hXt k hk;exact ⟨fun e=>by subst e;exact lH hd (fun _ _ _ h=>by cases h) _ _ hc,fun e=>by subst e;exact lH hl (fun _ _ _ h=>by cases h) _ _ hc⟩
  intro e a3 Wd hp;cases e with
  | normal =>
   obtain ⟨hcd,hid⟩:=hp;have ab2:af (fun k=>¬(k=D∨k=D+1)) Wc Wd:=hcd.mono fun k _ h h'=>h (.inr (.inr h'))
   obtain ⟨h1,h2,h3⟩:=fin none Wd ab2;refine ⟨_,_,h1,.inl ⟨rfl,⟨hI _ _ _ hid (back _ Wd ab2),h2,h3⟩,?_⟩⟩;refine (((hab.mono fun _ _ h=>h.elim:af (fun k=>¬(K k∨X k)) Wa Wb).trans (hbc.mono fun k _ h hk=>hk.elim (fun hk=>(Fw k hk).2 h) (fun hk=>(hnX k hk).2 h))).trans (hcd.mono fun k _ h hk=>h (hk.elim .inl (fun h=>.inr (.inl h))))).putObj (fun _ hk=>hk.elim (fun hk=>(Fw _ hk).2 rfl) (fun hk=>(hnX _ hk).2 rfl)) _
  | ret =>
   obtain ⟨hcd,hid⟩:=hp;obtain ⟨h1,h2,h3⟩:=fin (some .ret) Wd hcd;exact ⟨_,_,h1,.inr ⟨rfl,.ret,hIx _ _ _ _ hid (back _ Wd hcd),h2,h3⟩⟩
  | exit id =>
   obtain ⟨hcd,hid⟩:=hp;obtain ⟨h1,h2,h3⟩:=fin (some (.exit id)) Wd hcd;exact ⟨_,_,h1,.inr ⟨rfl,.exit id,hIx _ _ _ _ hid (back _ Wd hcd),h2,h3⟩⟩
  | goto t =>
   obtain ⟨hcd,hid⟩:=hp;obtain ⟨h1,h2,h3⟩:=fin (some (.goto t)) Wd hcd;exact ⟨_,_,h1,.inr ⟨rfl,.goto t,hIx _ _ _ _ hid (back _ Wd hcd),h2,h3⟩⟩
  | panic ch=>exact hp.elim
  | outgrown=>exact hp.elim
 ·-- behind the iterator
  rintro e W2 ⟨⟨v,rfl⟩,h2⟩;rcases h2 with ⟨hi,hl,hd⟩|⟨pre,hpre,c,hi,hl,hd⟩
  ·have he:=run_endLoop (P:=P) hl (by rw [hrec];simp)
   rw [hrec] at he;have hlt:D+1<W2.heap.size:=(Array.getElem?_eq_some_iff.1 hl).1;exact ⟨none,_,he,hdone _ (by rw [World.putObj_size];omega) (hI _ _ _ hi (soft _ _ _ _ hl)) ((World.putObj_heap_other (by omega)).trans hd)⟩
  ·have he:=run_endLoop (P:=P) hl (by rw [hrec];simp)
   rw [hrec] at he;have hlt:D+1<W2.heap.size:=(Array.getElem?_eq_some_iff.1 hl).1;exact ⟨some c,_,he,(wpIn_wide (n:=0)).2 (hstop c pre _ (by rw [World.putObj_size];omega) hpre (hIx _ _ _ _ hi (soft _ _ _ _ hl)) ((World.putObj_heap_other (by omega)).trans hd))⟩
abbrev Sp:=Int×Int
def bB (x:Sp):Bool:=decide (0≤x.1)&&decide (x.1<1024)&&decide (1≤x.2)&&decide (x.2≤1024 - x.1)
theorem av {x:Sp}:bB x=true↔0≤x.1∧x.1<1024∧1≤x.2∧x.2≤1024 - x.1:=by simp [bB,and_assoc]
def aW:Int→List Sp→Bool
 | _,[]=>true
 | e,x::r=>decide (e<x.1)&&aW (x.1+x.2) r
def dX (s:List Sp):Int:=if 512<s.length then 3 else if s.all bB=false then 7 else if aW (-1) s then 0 else 6
def mem (p:Int) (s:List Sp):Bool:=s.any fun x=>decide (x.1≤p)&&decide (p<x.1+x.2)
def Can (s:List Sp):Prop:=(∀x∈s,bB x=true)∧aW (-1) s=true
theorem fB {p:Int}:mem p []=false:=rfl
theorem mem_cons {p:Int} {x:Sp} {s:List Sp}:mem p (x::s)=((decide (x.1≤p)&&decide (p<x.1+x.2))||mem p s):=rfl
theorem mem_append {p:Int} {s t:List Sp}:mem p (s++t)=(mem p s||mem p t):=by simp [mem]
theorem bK {p:Int} {x:Sp} {s:List Sp}:mem p (x::s)=true↔(x.1≤p∧p<x.1+x.2)∨mem p s=true:=by simp [mem_cons]
theorem aJ {e:Int} {x:Sp} {s:List Sp}:aW e (x::s)=true↔e<x.1∧aW (x.1+x.2) s=true:=by simp [aW]
theorem rU {e e':Int} {s:List Sp} (h:aW e s=true) (he:e'≤e):aW e' s=true:=by
 cases s with
 | nil=>rfl
 | cons x s=>rw [aJ] at h ⊢;exact ⟨by omega,h.2⟩
theorem uo {p:Int}:∀{s:List Sp} {e:Int},aW e s=true→(∀x∈s,0≤x.2)→mem p s=true→e<p
 | [],_,_,_,h=>by simp [fB] at h
 | x::s,e,hf,hw,h=>by
  rw [aJ] at hf;have:=hw x (by simp);rcases bK.1 h with h|h
  ·omega
  ·have:=uo hf.2 (fun y hy=>hw y (by simp [hy])) h
   omega
theorem uniq:∀(s t:List Sp) (e:Int),(∀x∈s,1≤x.2)→(∀x∈t,1≤x.2)→aW e s=true→aW e t=true→(∀p:Int,mem p s=mem p t)→s=t
 | [],[],_,_,_,_,_,_=>rfl
 | [],y::t,_,_,ht,_,_,h=>by
  have:=h y.1;have h1:=ht y (by simp);rw [fB,mem_cons] at this;simp at this;omega
 | x::s,[],_,hs,_,_,_,h=>by
  have:=h x.1;have h1:=hs x (by simp);rw [fB,mem_cons] at this;simp at this;omega
 | x::s,y::t,e,hs,ht,fs,ft,h=>by
  have hx:=hs x (by simp);have hy:=ht y (by simp);rw [aJ] at fs ft;have hs':∀z∈s,1≤z.2:=fun z hz=>hs z (by simp [hz])
  have ht':∀z∈t,1≤z.2:=fun z hz=>ht z (by simp [hz])
  have low:∀p,mem p s=true→x.1+x.2<p:=fun p hp=>uo fs.2 (fun z hz=>by have:=hs' z hz;omega) hp
  have Uf:∀p,mem p t=true→y.1+y.2<p:=fun p hp=>uo ft.2 (fun z hz=>by have:=ht' z hz;omega) hp
  have e1:x.1=y.1:=by
   have a:=h x.1;have b:=h y.1;have a1:mem x.1 (x::s)=true:=bK.2 (.inl (by omega));have b1:mem y.1 (y::t)=true:=bK.2 (.inl (by omega));rw [a1] at a;rw [b1] at b;rcases bK.1 a.symm with h1|h1 <;> rcases bK.1 b with h2|h2
   ·omega
   ·have:=low _ h2;omega
   ·have:=Uf _ h1;omega
   ·have:=low _ h2;have:=Uf _ h1;omega
  have e2:x.2=y.2:=by
   have a:=h (x.1+x.2);have b:=h (y.1+y.2);have a1:mem (x.1+x.2) (x::s)=false:=by
    rw [Bool.eq_false_iff];intro hh;rcases bK.1 hh with h1|h1
    ·omega
    ·have:=low _ h1;omega
   have b1:mem (y.1+y.2) (y::t)=false:=by
    rw [Bool.eq_false_iff];intro hh;rcases bK.1 hh with h1|h1
    ·omega
    ·have:=Uf _ h1;omega
   rw [a1] at a;rw [b1] at b;have a2:¬(y.1≤x.1+x.2∧x.1+x.2<y.1+y.2):=fun hh=>by
    have:mem (x.1+x.2) (y::t)=true:=bK.2 (.inl hh);rw [←a] at this;cases this
   have b2:¬(x.1≤y.1+y.2∧y.1+y.2<x.1+x.2):=fun hh=>by
    have:mem (y.1+y.2) (x::s)=true:=bK.2 (.inl hh);rw [b] at this;cases this
   omega
  have exy:x=y:=Prod.ext e1 e2;subst exy;congr 1;refine uniq s t (x.1+x.2) hs' ht' fs.2 ft.2 fun p=>?_
  have hp:=h p;rw [mem_cons,mem_cons] at hp;by_cases hin:x.1≤p∧p<x.1+x.2
  ·have z1:mem p s=false:=by rw [Bool.eq_false_iff];intro hh;have:=low _ hh;omega
   have z2:mem p t=false:=by rw [Bool.eq_false_iff];intro hh;have:=Uf _ hh;omega
   rw [z1,z2]
  ·have:(decide (x.1≤p)&&decide (p<x.1+x.2))=false:=by simp;omega
   simpa [this] using hp
theorem Can.eq {s t:List Sp} (hs:Can s) (ht:Can t) (h:∀p:Int,mem p s=mem p t):s=t :=
 uniq s t (-1) (fun x hx=>(av.1 (hs.1 x hx)).2.2.1) (fun x hx=>(av.1 (ht.1 x hx)).2.2.1) hs.2 ht.2 h
theorem Ka:∀(s:List Sp) (e:Int),e<1024→(∀x∈s,bB x=true)→aW e s=true→2*(s.length:Int)≤1024 - e
 | [],e,he,_,_=>by simp;omega
 | x::s,e,_,hv,hf=>by
  rw [aJ] at hf;have hx:=av.1 (hv x (by simp));cases s with
  | nil=>simp;omega
  | cons y r =>
   have hf2:=aJ.1 hf.2;have hy:=av.1 (hv y (by simp));have:=(Ka (y::r) (x.1+x.2) (by omega) (fun z hz=>hv z (List.mem_cons_of_mem _ hz)) hf.2);simp only [List.length_cons] at this ⊢;omega
theorem Can.len {s:List Sp} (h:Can s):s.length≤512:=by
 have:=Ka s (-1) (by omega) h.1 h.2;omega
theorem bP {s:List Sp}:dX s=0↔Can s:=by
 unfold dX;constructor
 ·intro h
  split at h
  ·cases h
  ·split at h
   ·cases h
   ·split at h
    ·rename_i h1 h2 h3
     exact ⟨fun x hx=>by simpa using List.all_eq_true.1 (by simpa using h2:s.all bB=true) x hx,h3⟩
    ·cases h
 ·intro h
  rw [if_neg (by have:=h.len;omega),if_neg (by rw [Bool.not_eq_false];exact List.all_eq_true.2 h.1),if_pos h.2]
def fQ:Nat→List Sp→List Sp→List Sp
 | 0,_,_=>[]
 | _+1,[],_=>[]
 | _+1,_::_,[]=>[]
 | k+1,x::a,y::b =>
  (if max x.1 y.1<min (x.1+x.2) (y.1+y.2) then [(max x.1 y.1,min (x.1+x.2) (y.1+y.2) - max x.1 y.1)] else []) ++
   (if x.1+x.2<y.1+y.2 then fQ k a (y::b) else fQ k (x::a) b)
def ay (a b:List Sp):List Sp:=fQ (a.length+b.length) a b
theorem BM {k:Nat} {b:List Sp}:fQ k [] b=[]:=by cases k <;> rfl
theorem zR {k:Nat} {a:List Sp}:fQ k a []=[]:=by cases k <;> cases a <;> rfl
theorem Jc (x y:Sp) (a b:List Sp):ay (x::a) (y::b) =
  (if max x.1 y.1<min (x.1+x.2) (y.1+y.2) then [(max x.1 y.1,min (x.1+x.2) (y.1+y.2) - max x.1 y.1)] else []) ++
   (if x.1+x.2<y.1+y.2 then ay a (y::b) else ay (x::a) b):=by
 unfold ay;rw [show (x::a).length+(y::b).length=(a.length+(y::b).length)+1 by simp;omega];rw [fQ];rw [show (x::a).length+b.length=a.length+(y::b).length by simp;omega]
theorem Lg {b:List Sp}:ay [] b=[]:=BM
theorem Jd {a:List Sp}:ay a []=[]:=zR
theorem nR:∀(k:Nat) (a b:List Sp) (ea eb e:Int),(∀x∈a,0≤x.2)→(∀x∈b,0≤x.2)→aW ea a=true→aW eb b=true→(e≤ea∨e≤eb)→aW e (fQ k a b)=true
 | 0,_,_,_,_,_,_,_,_,_,_=>rfl
 | _+1,[],_,_,_,_,_,_,_,_,_=>rfl
 | _+1,_::_,[],_,_,_,_,_,_,_,_=>rfl
 | k+1,x::a,y::b,ea,eb,e,ha,hb,fa,fb,he=>by
  have Xn:=aJ.1 fa;have Xo:=aJ.1 fb;have hx:=ha x (by simp);have hy:=hb y (by simp);have ha':∀z∈a,0≤z.2:=fun z hz=>ha z (by simp [hz])
  have hb':∀z∈b,0≤z.2:=fun z hz=>hb z (by simp [hz])
  rw [fQ];by_cases hlt:max x.1 y.1<min (x.1+x.2) (y.1+y.2)
  ·rw [if_pos hlt,List.singleton_append,aJ]
   refine ⟨by simp only;omega,?_⟩;simp only;split
   ·exact nR k a (y::b) (x.1+x.2) eb _ ha' hb Xn.2 fb (by omega)
   ·exact nR k (x::a) b ea (y.1+y.2) _ ha hb' fa Xo.2 (by omega)
  ·rw [if_neg hlt,List.nil_append]
   split
   ·exact nR k a (y::b) (x.1+x.2) eb _ ha' hb Xn.2 fb (by omega)
   ·exact nR k (x::a) b ea (y.1+y.2) _ ha hb' fa Xo.2 (by omega)
theorem xY:∀(k:Nat) (a b:List Sp),(∀x∈a,bB x=true)→(∀x∈b,bB x=true)→∀x∈fQ k a b,bB x=true
 | 0,_,_,_,_=>by simp [fQ]
 | _+1,[],_,_,_=>by simp [fQ]
 | _+1,_::_,[],_,_=>by simp [fQ]
 | k+1,x::a,y::b,ha,hb=>by
  have hx:=av.1 (ha x (by simp));have hy:=av.1 (hb y (by simp));have ha':∀z∈a,bB z=true:=fun z hz=>ha z (by simp [hz])
  have hb':∀z∈b,bB z=true:=fun z hz=>hb z (by simp [hz])
  intro z hz;rw [fQ,List.mem_append] at hz;rcases hz with hz|hz
  ·split at hz
   ·simp only [List.mem_singleton] at hz
    subst hz;rw [av];simp only;omega
   ·simp at hz
  ·split at hz
   ·exact xY k a (y::b) ha' hb z hz
   ·exact xY k (x::a) b ha hb' z hz
theorem iy (p:Int):∀(k:Nat) (a b:List Sp) (ea eb:Int),a.length+b.length≤k→(∀x∈a,0≤x.2)→(∀x∈b,0≤x.2)→aW ea a=true→aW eb b=true→mem p (fQ k a b)=(mem p a&&mem p b)
 | 0,[],_,_,_,_,_,_,_,_=>rfl
 | _+1,[],_,_,_,_,_,_,_,_=>rfl
 | 0,_::_,_,_,_,h,_,_,_,_=>by simp at h
 | _+1,_::_,[],_,_,_,_,_,_,_=>by simp [fQ,fB]
 | k+1,x::a,y::b,ea,eb,hk,ha,hb,fa,fb=>by
  have Xn:=aJ.1 fa;have Xo:=aJ.1 fb;have hx:=ha x (by simp);have hy:=hb y (by simp);have ha':∀z∈a,0≤z.2:=fun z hz=>ha z (by simp [hz])
  have hb':∀z∈b,0≤z.2:=fun z hz=>hb z (by simp [hz])
  have agI:mem p a=true→x.1+x.2<p:=fun hp=>uo Xn.2 ha' hp
  have agJ:mem p b=true→y.1+y.2<p:=fun hp=>uo Xo.2 hb' hp
  simp only [List.length_cons] at hk;have hpc:mem p (if max x.1 y.1<min (x.1+x.2) (y.1+y.2) then [(max x.1 y.1,min (x.1+x.2) (y.1+y.2) - max x.1 y.1)] else [])=true↔(x.1≤p∧p<x.1+x.2)∧(y.1≤p∧p<y.1+y.2):=by
   split
   ·rw [bK];simp only [fB];simp;omega
   ·simp only [fB];simp;omega
  rw [fQ,mem_append,Bool.eq_iff_iff,Bool.or_eq_true,hpc,Bool.and_eq_true,bK,bK];by_cases hlt:x.1+x.2<y.1+y.2
  ·rw [if_pos hlt,iy p k a (y::b) (x.1+x.2) eb (by simp;omega) ha' hb Xn.2 fb,Bool.and_eq_true,bK]
   constructor
   ·rintro (⟨h1,h2⟩|⟨h1,h2⟩)
    ·exact ⟨.inl h1,.inl h2⟩
    ·exact ⟨.inr h1,h2⟩
   ·rintro ⟨h1|h1,h2⟩
    ·rcases h2 with h2|h2
     ·exact .inl ⟨h1,h2⟩
     ·have:=agJ h2;omega
    ·exact .inr ⟨h1,h2⟩
  ·rw [if_neg hlt,iy p k (x::a) b ea (y.1+y.2) (by simp;omega) ha hb' fa Xo.2,Bool.and_eq_true,bK]
   constructor
   ·rintro (⟨h1,h2⟩|⟨h1,h2⟩)
    ·exact ⟨.inl h1,.inl h2⟩
    ·exact ⟨h1,.inr h2⟩
   ·rintro ⟨h1,h2|h2⟩
    ·rcases h1 with h1|h1
     ·exact .inl ⟨h1,h2⟩
     ·have:=agI h1;omega
    ·exact .inr ⟨h1,h2⟩
theorem Can.common {a b:List Sp} (ha:Can a) (hb:Can b):Can (ay a b) :=
 ⟨xY _ a b ha.1 hb.1,nR _ a b (-1) (-1) (-1) (fun x hx=>by have:=(av.1 (ha.1 x hx)).2.2.1;omega) (fun x hx=>by have:=(av.1 (hb.1 x hx)).2.2.1;omega) ha.2 hb.2 (.inl (by omega))⟩
theorem Can.iy {a b:List Sp} (ha:Can a) (hb:Can b) (p:Int):mem p (ay a b)=(mem p a&&mem p b) :=
 Go.Pol.iy p _ a b (-1) (-1) (Nat.le_refl _) (fun x hx=>by have:=(av.1 (ha.1 x hx)).2.2.1;omega) (fun x hx=>by have:=(av.1 (hb.1 x hx)).2.2.1;omega) ha.2 hb.2
theorem Can.one {x:Sp} (h:bB x=true):Can [x]:=⟨by simpa using h,by rw [aJ];have:=(av.1 h).1;exact ⟨by omega,rfl⟩⟩
theorem iM {p:Int} {x:Sp}:mem p [x]=true↔x.1≤p∧p<x.1+x.2:=by simp [mem]
def nS:Int→Int→List Sp→List Sp
 | n,e,[]=>if n<e then [(n,e - n)] else []
 | n,e,x::r=>(if n<x.1 then [(n,x.1 - n)] else [])++nS (x.1+x.2) e r
def aZ (s:List Sp) (i:Sp):List Sp:=nS i.1 (i.1+i.2) (ay s [i])
theorem Av:∀(l:List Sp) (n e n':Int),n'<n→(∀x∈l,1≤x.2)→aW (n - 1) l=true→aW n' (nS n e l)=true
 | [],n,e,n',h,_,_=>by
  rw [nS];split
  ·rw [aJ];exact ⟨h,rfl⟩
  ·rfl
 | x::r,n,e,n',h,hw,hf=>by
  have hf':=aJ.1 hf;have hx:=hw x (by simp);have hw':∀z∈r,1≤z.2:=fun z hz=>hw z (by simp [hz])
  rw [nS];split
  ·rw [List.singleton_append,aJ]
   exact ⟨h,Av r (x.1+x.2) e _ (by simp only;omega) hw' (rU hf'.2 (by omega))⟩
  ·rw [List.nil_append]
   exact Av r (x.1+x.2) e _ (by omega) hw' (rU hf'.2 (by omega))
theorem Kb:∀(l:List Sp) (n e:Int),0≤n→e≤1024→(∀x∈l,bB x=true)→∀x∈nS n e l,bB x=true
 | [],n,e,h0,h1,_=>by
  rw [nS];intro x hx;split at hx
  ·simp only [List.mem_singleton] at hx;subst hx;rw [av];simp only;omega
  ·simp at hx
 | x::r,n,e,h0,h1,hv=>by
  have hx:=av.1 (hv x (by simp));rw [nS];intro y hy;rw [List.mem_append] at hy;rcases hy with hy|hy
  ·split at hy
   ·simp only [List.mem_singleton] at hy;subst hy;rw [av];simp only;omega
   ·simp at hy
  ·exact Kb r _ e (by omega) h1 (fun z hz=>hv z (by simp [hz])) y hy
theorem Kc (p:Int):∀(l:List Sp) (n e:Int),n≤e→(∀x∈l,1≤x.2∧x.1+x.2≤e)→aW (n - 1) l=true→(mem p (nS n e l)=true↔(n≤p∧p<e)∧mem p l=false)
 | [],n,e,_,_,_=>by
  rw [nS];split
  ·rw [bK];simp [fB];omega
  ·simp [fB];omega
 | x::r,n,e,hne,hw,hf=>by
  have hf':=aJ.1 hf;have hx:=hw x (by simp);have hw':∀z∈r,1≤z.2∧z.1+z.2≤e:=fun z hz=>hw z (by simp [hz])
  have low:mem p r=true→x.1+x.2<p:=fun hp=>uo hf'.2 (fun z hz=>by have:=hw' z hz;omega) hp
  have ih:=Kc p r (x.1+x.2) e (by omega) hw' (rU hf'.2 (by omega));have h1:mem p (if n<x.1 then [(n,x.1 - n)] else [])=true↔n≤p∧p<x.1:=by
   split
   ·rw [bK];simp [fB];omega
   ·simp [fB];omega
  have h2:mem p (x::r)=false↔¬(x.1≤p∧p<x.1+x.2)∧mem p r=false:=by rw [mem_cons];simp
  rw [nS,mem_append,Bool.or_eq_true,h1,ih,h2];constructor
  ·rintro (h|⟨h,hr⟩)
   ·refine ⟨by omega,by omega,?_⟩
    rw [Bool.eq_false_iff];intro hh;have:=low hh;omega
   ·exact ⟨by omega,by omega,hr⟩
  ·rintro ⟨h,hn,hr⟩
   by_cases hp:p<x.1
   ·exact .inl (by omega)
   ·exact .inr ⟨by omega,hr⟩
theorem Can.DU {s:List Sp} {i:Sp} (hs:Can s) (hi:bB i=true):Can (aZ s i)∧∀p,mem p (aZ s i)=true↔(i.1≤p∧p<i.1+i.2)∧mem p s=false:=by
 have hi':=av.1 hi;have hc:=hs.common (Can.one hi);have hm:=hs.iy (Can.one hi);have hin:∀x∈ay s [i],i.1≤x.1∧x.1+x.2≤i.1+i.2:=fun x hx=>by
  have hv:=av.1 (hc.1 x hx);have hx1:mem x.1 (ay s [i])=true:=List.any_eq_true.2 ⟨x,hx,by simp;omega⟩;have hx2:mem (x.1+x.2 - 1) (ay s [i])=true:=List.any_eq_true.2 ⟨x,hx,by simp;omega⟩;rw [hm,Bool.and_eq_true,iM] at hx1 hx2;omega
 have hf:aW (i.1 - 1) (ay s [i])=true:=by
  have:=hc.2;cases hl:ay s [i] with
  | nil=>rfl
  | cons x r =>
   rw [hl] at this hin;rw [aJ] at this ⊢;have hh:=this;have:=hin x (by simp);exact ⟨by omega,hh.2⟩
 refine ⟨⟨Kb _ _ _ hi'.1 (by omega) hc.1,Av _ _ _ _ (by omega) (fun x hx=>(av.1 (hc.1 x hx)).2.2.1) hf⟩,fun p=>?_⟩;unfold aZ;rw [Kc p _ _ _ (by omega) (fun x hx=>⟨(av.1 (hc.1 x hx)).2.2.1,(hin x hx).2⟩) hf,hm];constructor
 ·rintro ⟨h1,h2⟩
  have:mem p [i]=true:=iM.2 h1;rw [this,Bool.and_true] at h2;exact ⟨h1,h2⟩
 ·rintro ⟨h1,h2⟩
  exact ⟨h1,by rw [h2];rfl⟩
def bump (l:List Sp):List Sp:=match l.reverse with|[]=>[]|x::r=>r.reverse++[(x.1,x.2+1)]
theorem Aw (l:List Sp) (x:Sp):bump (l++[x])=l++[(x.1,x.2+1)]:=by simp [bump]
def cK (f:Nat→Bool):Nat→List Sp
 | 0=>[]
 | p+1=>if f p then (if decide (0<p)&&f (p - 1) then bump (cK f p) else cK f p++[((p:Int),1)]) else cK f p
def Ay:Int→List Sp→Int
 | e,[]=>e
 | _,x::r=>Ay (x.1+x.2) r
theorem xZ (e:Int):∀(l:List Sp) (x:Sp),Ay e (l++[x])=x.1+x.2
 | [],_=>rfl
 | y::r,x=>xZ (y.1+y.2) r x
theorem lS:∀(l:List Sp) (e:Int) (x:Sp),aW e (l++[x])=true↔aW e l=true∧Ay e l<x.1
 | [],e,x=>by simp [aW,Ay]
 | y::r,e,x=>by rw [List.cons_append,aJ,aJ,lS r,Ay];simp only [and_assoc]
theorem nG {p:Int} {l:List Sp} {x:Sp}:mem p (l++[x])=true↔mem p l=true∨(x.1≤p∧p<x.1+x.2):=by rw [mem_append,Bool.or_eq_true,iM]
structure ad4 (f:Nat→Bool) (p:Nat) (l:List Sp):Prop where
 wid:∀x∈l,0≤x.1∧1≤x.2∧x.1+x.2≤p
 form:aW (-1) l=true
 mem:∀q:Int,mem q l=true↔(0≤q∧q<p)∧f q.toNat=true
 last:0<p→f (p - 1)=true→∃(r:List Sp) (x:Sp),l=r++[x]∧x.1+x.2=(p:Int)
 open_:(0<p→f (p - 1)=false)→Ay (-1) l<p
theorem vD (f:Nat→Bool):∀p,ad4 f p (cK f p)
 | 0=>⟨by simp [cK],rfl,fun q=>by simp [cK,fB];omega,fun h=>absurd h (by omega),fun _=>by simp [cK,Ay]⟩
 | p+1=>by
  have ih:=vD f p;rw [cK];by_cases hp:f p=true
  ·rw [if_pos hp]
   by_cases hq:0<p∧f (p - 1)=true
   ·rw [if_pos (by simp [hq])]
    obtain ⟨r,x,hl,hx⟩:=ih.last hq.1 hq.2;have hw:=ih.wid;have hf:=ih.form;have hm:=ih.mem;rw [hl] at hw hf hm ⊢;rw [Aw];refine ⟨fun y hy=>?_,?_,fun q=>?_,fun _ _=>⟨r,_,rfl,by simp only;omega⟩,fun h=>?_⟩
    ·rw [List.mem_append,List.mem_singleton] at hy
     rcases hy with hy|rfl
     ·have:=hw y (by simp [hy]);omega
     ·have:=hw x (by simp);simp only;omega
    ·rw [lS] at hf ⊢;exact hf
    ·have h1:=hm q
     rw [nG] at h1 ⊢;simp only;have hx':=hw x (by simp);by_cases xR:q=(p:Int)
     ·constructor
      ·intro _;exact ⟨by omega,by rw [xR];simpa using hp⟩
      ·intro _;right;omega
     ·constructor
      ·rintro (h|h)
       ·have:=h1.1 (.inl h)
        exact ⟨by omega,this.2⟩
       ·have:=h1.1 (.inr (by omega))
        exact ⟨by omega,this.2⟩
      ·rintro ⟨h2,h3⟩
       rcases h1.2 ⟨by omega,h3⟩ with h|h
       ·exact .inl h
       ·exact .inr (by omega)
    ·rw [Nat.add_sub_cancel] at h
     have:=h (by omega);rw [hp] at this;cases this
   ·rw [if_neg (by simpa using hq)]
    have hop:=ih.open_ (fun h0=>by
     cases h:f (p - 1) with
     | false=>rfl
     | true=>exact absurd ⟨h0,h⟩ hq)
    refine ⟨fun y hy=>?_,?_,fun q=>?_,fun _ _=>⟨_,_,rfl,by simp only;omega⟩,fun h=>?_⟩
    ·rw [List.mem_append,List.mem_singleton] at hy
     rcases hy with hy|rfl
     ·have:=ih.wid y hy;omega
     ·simp only;omega
    ·rw [lS];exact ⟨ih.form,hop⟩
    ·rw [nG,ih.mem q]
     simp only;by_cases xR:q=p
     ·subst xR
      constructor
      ·intro _;exact ⟨by omega,by simpa using hp⟩
      ·intro _;right;omega
     ·constructor
      ·rintro (⟨h,h2⟩|h)
       ·exact ⟨by omega,h2⟩
       ·omega
      ·rintro ⟨h,h2⟩;exact .inl ⟨by omega,h2⟩
    ·rw [Nat.add_sub_cancel] at h
     have:=h (by omega);rw [hp] at this;cases this
  ·rw [if_neg hp]
   have hp':f p=false:=by simpa using hp
   refine ⟨fun y hy=>by have:=ih.wid y hy;omega,ih.form,fun q=>?_,fun _ h=>?_,fun _=>?_⟩
   ·rw [ih.mem q]
    constructor
    ·rintro ⟨h1,h2⟩;exact ⟨by omega,h2⟩
    ·rintro ⟨h1,h2⟩
     refine ⟨?_,h2⟩;by_cases xR:q=p
     ·subst xR;rw [Int.toNat_natCast,hp'] at h2;cases h2
     ·omega
   ·rw [Nat.add_sub_cancel,hp'] at h;cases h
   ·by_cases hq:0<p∧f (p - 1)=true
    ·obtain ⟨r,x,hl,hx⟩:=ih.last hq.1 hq.2
     rw [hl,xZ,hx];omega
    ·have:=ih.open_ (fun h0=>by
      cases h:f (p - 1) with
      | false=>rfl
      | true=>exact absurd ⟨h0,h⟩ hq)
     omega
def iX (f:Nat→Bool):List Sp:=cK f 1024
theorem Da (f:Nat→Bool):Can (iX f):=⟨fun x hx=>by have:=(vD f 1024).wid x hx;rw [av];omega,(vD f 1024).form⟩
theorem Db (f:Nat→Bool) (q:Int):mem q (iX f)=true↔(0≤q∧q<1024)∧f q.toNat=true:=(vD f 1024).mem q
theorem Can.range {s:List Sp} (h:Can s) {p:Int} (hp:mem p s=true):0≤p∧p<1024:=by
 obtain ⟨x,hx,hh⟩:=List.any_eq_true.1 hp;have:=av.1 (h.1 x hx);simp at hh;omega
def gD (size en:Int):Nat→Int→List Sp
 | 0,_=>[]
 | k+1,at_=>if at_<en then (at_,min size (en - at_))::gD size en k (at_+size+1) else []
def aA (pg n f b ev:Int):List Sp:=gD (if ev=0 then 1024 else ev) (pg+n - b) 1025 (pg+f)
def lenOf:Option Value→Nat
 | some (.slice _ n _)=>n
 | _=>0
structure dS (pg n f b ev:Int):Prop where
 De:0≤pg
 Xp:pg<1024
 n0:1≤n
 n1:n≤1024 - pg
 f0:0≤f
 f1:f≤16
 b0:0≤b
 b1:b≤16
 e0:0≤ev
 e1:ev≤1024
 fb:f+b<n
def j4 (f b ev:Int):Bool:=!(decide (0≤f)&&decide (f≤16)&&decide (0≤b)&&decide (b≤16)&&decide (0≤ev)&&decide (ev≤1024))
theorem uu {f b ev:Int}:j4 f b ev=false↔(0≤f∧f≤16)∧(0≤b∧b≤16)∧0≤ev∧ev≤1024:=by simp [j4,and_assoc]
def bN (pg n f b ev:Int):Int:=if bB (pg,n)=false∨j4 f b ev=true then 7 else if n≤f+b then 4 else 0
theorem bU {pg n f b ev:Int}:bN pg n f b ev=0↔dS pg n f b ev:=by
 unfold bN;constructor
 ·intro h
  split at h
  ·cases h
  ·rename_i h1
   split at h
   ·cases h
   ·have h2:bB (pg,n)=true:=by cases hv:bB (pg,n) with|true=>rfl|false=>exact absurd (.inl hv) h1
    have h3:j4 f b ev=false:=by cases hv:j4 f b ev with|false=>rfl|true=>exact absurd (.inr hv) h1
    have h2':=av.1 h2;have h3':=uu.1 h3;simp only at h2';exact ⟨h2'.1,h2'.2.1,h2'.2.2.1,h2'.2.2.2,h3'.1.1,h3'.1.2,h3'.2.1.1,h3'.2.1.2,h3'.2.2.1,h3'.2.2.2,by omega⟩
 ·intro h
  have h1:bB (pg,n)=true:=av.2 ⟨h.De,h.Xp,h.n0,h.n1⟩;have h2:j4 f b ev=false:=uu.2 ⟨⟨h.f0,h.f1⟩,⟨h.b0,h.b1⟩,h.e0,h.e1⟩;rw [h1,h2];have:=h.fb;simp;omega
theorem Vj (x:Sp):dX [x]=if bB x=true then 0 else 7:=by
 by_cases h:bB x=true
 ·rw [if_pos h];exact bP.2 (Can.one h)
 ·rw [if_neg h];simp [dX,h]
theorem Nk {w:World} {B:Nat} {t:TypeId} {p n:Int} (h:ag w B t #[.int .i64 p,.int .i64 n]):RU w w.heap.size (some ⟨B,0,none⟩) [(p,n)]:=fun k hk=>by
 obtain rfl:k=0:=by simp at hk;omega
 exact ⟨B,0,rfl,h.lt,h.cell 0,h.cell 1⟩
end Go.Pol
namespace Go.Proofs.YtjmmgoijnhnnaaaGreat
open Go Go.Proofs Go.RowKit Go.Pol Tryz
theorem wF (p n:Int) (w:World) :
  Calls prog 167 #[.agg #[.int .i64 p,.int .i64 n]] w fun e w'=>e= .returned (.bool (!bB (p,n)))∧Below w.heap.size w w':=by
 have hb0:=aV w (.cells #[.int .i64 p,.int .i64 n] 140);by_cases h1:p<0
 ·have h1':decide (p<0)=true:=by simpa using h1
  go_enter func167,ntmps167
  go_wp2
  go_ret;exact ⟨dV (by simp [bB];omega),hb0⟩
 have h1':decide (p<0)=false:=by simpa using h1
 by_cases h2:1024≤p
 ·have h2':decide (1024≤p)=true:=by simpa using h2
  go_enter func167,ntmps167
  go_wp2
  go_ret;exact ⟨dV (by simp [bB];omega),hb0⟩
 have h2':decide (1024≤p)=false:=by simpa using h2
 by_cases h3:n<1
 ·have h3':decide (n<1)=true:=by simpa using h3
  go_enter func167,ntmps167
  go_wp2
  go_ret;exact ⟨dV (by simp [bB];omega),hb0⟩
 have h3':decide (n<1)=false:=by simpa using h3
 go_enter func167,ntmps167
 go_wp2
 go_ret;exact ⟨dV (by rw [Bool.eq_iff_iff];simp [bB];omega),hb0⟩
theorem jl (p n:Int) (w:World) (hp : -100000≤p∧p≤100000) (hn : -100000≤n∧n≤100000) :
  Calls prog 168 #[.agg #[.int .i64 p,.int .i64 n]] w fun e w'=>e= .returned (.int .i64 (p+n))∧Below w.heap.size w w':=by
 have hb0:=aV w (.cells #[.int .i64 p,.int .i64 n] 140);go_enter func168,ntmps168
 go_wp2
 go_ret;exact ⟨rfl,hb0⟩
def j3:List Sp→Nat
 | []=>0
 | x::r=>if bB x=true then j3 r+1 else 0
theorem rW:∀(s:List Sp),(j3 s=s.length↔s.all bB=true)
 | []=>by simp [j3]
 | x::r=>by
  have:=rW r;simp only [j3,List.length_cons,List.all_cons];by_cases h:bB x=true
  ·rw [if_pos h];simp [h,this]
  ·rw [if_neg h];simp [h]
theorem Dc:∀(s:List Sp) (k:Nat),(∀j,j<k→j<s.length→bB (s.getD j (0,0))=true)→k<s.length→bB (s.getD k (0,0))=false→j3 s=k
 | [],k,_,h,_=>by simp at h
 | x::r,0,_,_,h=>by simp at h;simp [j3,h]
 | x::r,k+1,hj,hk,h=>by
  have h0:=hj 0 (by omega) (by simp);simp at h0;rw [j3,if_pos h0,Dc r k (fun j h1 h2=>by simpa using hj (j+1) (by omega) (by simp;omega)) (by simpa using hk) (by simpa using h)]
theorem FC (s:List Sp) (h:∀j,j<s.length→bB (s.getD j (0,0))=true):j3 s=s.length:=by
 rw [rW,List.all_eq_true];intro x hx;obtain ⟨j,hj,rfl⟩:=List.getElem_of_mem hx;simpa [List.getD_eq_getElem?_getD,hj] using h j hj
theorem FD (A:Option Addr) (n cap:Nat) (us:List Sp) (w:World) (hn:us.length=n) (hm:n≤maxLen) (hr:RU w w.heap.size A us) :
  Calls prog 201 #[.slice A n cap,.func (.func 167) #[] #[]] w fun e w'=>e= .returned (.int .i64 (if j3 us=n then -1 else (j3 us:Nat)))∧Below w.heap.size w w':=by
 unfold maxLen at hm;have hn':=ae hn;clear hn;obtain ⟨R,hR0⟩:∃R:Int,(if j3 us=n then -1 else ((j3 us:Nat):Int))=R:=⟨_,rfl⟩;rw [hR0];have hR:=ae hR0;clear hR0;go_enter func201,ntmps201
 go_wp2
 go_loopw [8] (fun i wr=>∃(k:Int),0≤k∧k≤n∧i= .int .i64 k∧Below w.heap.size w wr∧Hid (∀j:Nat,(j:Int)<k→j<us.length→bB (us.getD j (0,0))=true)) (fun i _=>n - (intOf i).toNat)
 case atStart=>exact ⟨0,by omega,by omega,rfl,Below.refl _ _,ae (fun j hj=>absurd hj (by omega))⟩
 case round =>
  obtain ⟨k,hk0,hk,rfl,hB,hL⟩:=hrel;by_cases hlt:k<n
  ·obtain ⟨b,o,rfl,_,hc,hd⟩:=RU.at_' (hr.below hB) (k:=k.toNat) (by have:=hn'.out;omega)
   have hX:Hid (us.getD k.toNat (0,0)=us.getD k.toNat (0,0)):=ae rfl;generalize hu:us.getD k.toNat (0,0)=u at *;have hu':=ae hu;clear hu hX;obtain ⟨x,y⟩:=u;dsimp only at hc hd;by_cases hv:bB (x,y)=true
   ·have hv':(!bB (x,y))=false:=by simp [hv]
    go_wp2_with (go_at_call 167;refine (wF _ _ _).mono ?_;rintro e w1 ⟨rfl,hq⟩)
    have hB1:=hB.trans (hq.mono hB.size);go_roundw
    case rel =>
     refine ⟨k+1,by omega,by omega,rfl,hB1,ae (fun j hj hl=>?_)⟩;by_cases hjk:(j:Int)<k
     ·exact hL.out j hjk hl
     ·obtain rfl:j=k.toNat:=by omega
      rw [hu'.out];exact hv
    case measure=>simp [intOf];omega
   ·have hv':(!bB (x,y))=true:=by simpa using hv
    have hE:Hid (j3 us=k.toNat):=ae (Dc us k.toNat (fun j h1 h2=>hL.out j (by omega) h2) (by have:=hn'.out;omega) (by rw [hu'.out];simpa using hv));clear hv
    go_wp2_with (go_at_call 167;refine (wF _ _ _).mono ?_;rintro e w1 ⟨rfl,hq⟩)
    go_ret;exact ⟨bY (by rw [←hR.out,hE.out,if_neg (by omega)];omega),hB.trans (hq.mono hB.size)⟩
  ·have hE:Hid (j3 us=n):=ae (by rw [←hn'.out];exact FC us (fun j h2=>hL.out j (by have:=hn'.out;omega) h2))
   go_wp2
   go_ret;exact ⟨bY (by rw [←hR.out,if_pos hE.out]),hB⟩
theorem uq (A:Option Addr) (n cap:Nat) (us:List Sp) (w:World) (hn:us.length=n) (hm:n≤maxLen) (hr:RU w w.heap.size A us) :
  Calls prog 166 #[.slice A n cap,.func (.func 167) #[] #[]] w fun e w'=>e= .returned (.bool (!us.all bB))∧Below w.heap.size w w':=by
 have HI:=ae (FD A n cap us w hn hm hr);have hR:Hid (decide (0≤(if j3 us=n then (-1:Int) else ((j3 us:Nat):Int)))=!us.all bB):=ae (by
  have h:=rW us;rw [hn] at h;by_cases hb:j3 us=n
  ·rw [if_pos hb,h.1 hb];rfl
  ·have:us.all bB=false:=by rw [Bool.eq_false_iff];exact fun hh=>hb (h.2 hh)
   rw [if_neg hb,this];simp)
 generalize (if j3 us=n then (-1:Int) else ((j3 us:Nat):Int))=R at *;clear hn hr;go_enter func166,ntmps166
 go_wp2_with (go_at_call 201;refine (HI.out).mono ?_;rintro e w1 ⟨rfl,hq⟩)
 go_ret;exact ⟨dV hR.out,hq⟩
theorem FH (us:List Sp) (e:Int) (k:Nat) (hk:k+1<us.length) (h:aW e us=true↔aW ((us.getD k (0,0)).1+(us.getD k (0,0)).2) (us.drop (k+1))=true) :
  aW e us=true↔(us.getD k (0,0)).1+(us.getD k (0,0)).2<(us.getD (k+1) (0,0)).1∧aW ((us.getD (k+1) (0,0)).1+(us.getD (k+1) (0,0)).2) (us.drop (k+2))=true:=by
 rw [h,drop_cons (0,0) us (k+1) hk,aJ]
theorem DV (us:List Sp) (h0:0<us.length) (hv:us.all bB=true):aW (-1) us=true↔aW ((us.getD 0 (0,0)).1+(us.getD 0 (0,0)).2) (us.drop 1)=true:=by
 cases us with
 | nil=>simp at h0
 | cons x r =>
  have:=av.1 ((by simpa using hv:bB x=true∧_).1);rw [aJ];simp;intro;omega
theorem Fp {us:List Sp} (hv:us.all bB=true) {k:Nat} (hk:k<us.length):bB (us.getD k (0,0))=true:=by
 have:=List.all_eq_true.1 hv us[k] (List.getElem_mem hk);simpa [List.getD_eq_getElem?_getD,hk] using this
theorem dx (A:Option Addr) (n cap:Nat) (us:List Sp) (w:World) (hn:us.length=n) (hm:n≤maxLen) (hr:RU w w.heap.size A us) :
  Calls prog 98 #[.slice A n cap] w fun e w'=>e= .returned (.int .i64 (dX us))∧Below w.heap.size w w':=by
 have HC:=ae (uq A n cap us w hn hm hr);unfold maxLen at hm;have hn':=ae hn;clear hn;obtain ⟨R,hR0⟩:∃R:Int,dX us=R:=⟨_,rfl⟩;rw [hR0];have hR:=ae hR0;clear hR0;by_cases hlen:512<n
 ·have hlen':decide (512<(n:Int))=true:=by simp;omega
  go_enter func98,ntmps98
  go_wp2
  go_ret;exact ⟨bY (by rw [←hR.out,dX,if_pos (by rw [hn'.out];exact hlen)]),Below.refl _ _⟩
 have hlen':decide (512<(n:Int))=false:=by simp;omega
 by_cases hall:us.all bB=true
 case neg =>
  have x8:(!us.all bB)=true:=by simpa using hall
  have hE:Hid (R=7):=ae (by rw [←hR.out,dX,if_neg (by rw [hn'.out];exact hlen),if_pos (by simpa using hall)]);rw [x8] at HC;clear hall x8 hr;go_enter func98,ntmps98
  go_wp2_with (go_at_call 166;refine (HC.out).mono ?_;rintro e w1 ⟨rfl,hq⟩)
  go_ret;exact ⟨bY hE.out.symm,hq⟩
 have x8:(!us.all bB)=false:=by rw [hall];rfl
 have hR2:Hid (R=if aW (-1) us=true then 0 else 6):=ae (by rw [←hR.out,dX,if_neg (by rw [hn'.out];exact hlen),if_neg (by rw [hall];decide)]);have hA:=ae hall;rw [x8] at HC;clear hall x8 hR;go_enter func98,ntmps98
 go_wp2_with (go_at_call 166;refine (HC.out).mono ?_;rintro e w1 ⟨rfl,hq⟩)
 go_loopw [3] (fun i wr=>∃(k:Nat),(k+1≤n∨n=0∧k=0)∧i= .int .i64 ((k:Int)+1)∧Below w.heap.size w wr∧Hid (0<n→(aW (-1) us=true↔aW ((us.getD k (0,0)).1+(us.getD k (0,0)).2) (us.drop (k+1))=true))) (fun i _=>n+1 - (intOf i).toNat)
 case atStart=>exact ⟨0,by omega,by simp,hq,ae (fun h=>DV us (by rw [hn'.out];exact h) hA.out)⟩
 case round =>
  obtain ⟨k,hk,rfl,hB,hL⟩:=hrel;by_cases hlt:k+1<n
  ·have hlt':decide ((k:Int)+1<(n:Int))=true:=by simp;omega
   obtain ⟨b,o,rfl,hbl,hc,hd⟩:=RU.at_' (hr.below hB) (k:=k) (by have:=hn'.out;omega);obtain ⟨b',o',had,_,hc2,hd2⟩:=RU.at_' (hr.below hB) (k:=k+1) (by have:=hn'.out;omega);obtain ⟨rfl,rfl⟩:b=b'∧o=o':=by simpa using had
   clear had;have hst:=ae (FH us (-1) k (by have:=hn'.out;omega) (hL.out (by omega)));have hv1:=av.1 (Fp hA.out (k:=k) (by have:=hn'.out;omega));have hv2:=av.1 (Fp hA.out (k:=k+1) (by have:=hn'.out;omega));generalize hu:us.getD k (0,0)=u at *;generalize hv:us.getD (k+1) (0,0)=v at *;have hv':=ae hv;clear hu hv hL;obtain ⟨x,y⟩:=u;obtain ⟨x2,y2⟩:=v;dsimp only at hc hd hc2 hd2 hst hv1 hv2;have q1:=fun y:Ext wr=>y.cell hc
   have q2:=fun y:Ext wr=>y.cell hd
   have q3:=fun y:Ext wr=>y.cell hc2
   have q4:=fun y:Ext wr=>y.cell hd2
   have HEC:Hid (∀z:Ext wr,Calls prog 168 #[.agg #[.int .i64 x,.int .i64 y]] z.w fun e w''=>e= .returned (.int .i64 (x+y))∧∃t:Ext wr,w''=t.w):=ae (fun z=>Ext.call (jl x y _ (by omega) (by omega)));by_cases hle:x2≤x+y
   ·have Nf:decide (x2≤x+y)=true:=by simpa using hle
    have hE:Hid (R=6):=ae (by rw [hR2.out,if_neg (by rw [hst.out];omega)]);clear hst hR2 hv1 hv2;go_upto_region 8 with fail
    refine aF (by kernel_rfl) (by kernel_rfl) ?_
    repeat (go_big_quiet_step ((go_at_call 168;exact HEC.out _)))
    refine wpQuiet_nil ?_;rintro w2 ⟨⟨_,hw2⟩,rfl⟩;go_wp2_with fail;go_ret;exact ⟨bY hE.out.symm,hB.trans (hw2.mono hB.size)⟩
   ·have Nf:decide (x2≤x+y)=false:=by simpa using hle
    have hst':Hid (aW (-1) us=true↔aW (x2+y2) (us.drop (k+1+1))=true):=ae (by rw [hst.out];exact ⟨fun h=>h.2,fun h=>⟨by omega,h⟩⟩);clear hst hv1 hv2;go_upto_region 8 with fail
    refine aF (by kernel_rfl) (by kernel_rfl) ?_
    repeat (go_big_quiet_step ((go_at_call 168;exact HEC.out _)))
    refine wpQuiet_nil ?_;rintro w2 ⟨⟨_,hw2⟩,rfl⟩;go_wp2_with fail;go_roundw
    case rel=>exact ⟨k+1,by omega,by simp,hB.trans (hw2.mono hB.size),ae (fun _=>by rw [hv'.out];exact hst'.out)⟩
    case measure=>simp [intOf];omega
  ·have hlt':decide ((k:Int)+1<(n:Int))=false:=by simp;omega
   have hE:Hid (R=0):=ae (by
    rw [hR2.out,if_pos];by_cases h0:0<n
    ·rw [hL.out h0,List.drop_of_length_le (by have:=hn'.out;omega)];rfl
    ·rw [List.eq_nil_of_length_eq_zero (by have:=hn'.out;omega:us.length=0)];rfl)
   clear hR2;go_wp2_with fail;go_ret;exact ⟨bY hE.out.symm,hB⟩
def lq (s:List Sp) (x:Sp):Int:=if dX s=0 then (if bB x=true then 0 else 7) else dX s
theorem Ng (A:Option Addr) (n cap:Nat) (us:List Sp) (p q:Int) (w:World) (hn:us.length=n) (hm:n≤maxLen) (hr:RU w w.heap.size A us) :
  Calls prog 130 #[.slice A n cap,.agg #[.int .i64 p,.int .i64 q]] w fun e w'=>e= .returned (.int .i64 (lq us (p,q)))∧Below w.heap.size w w':=by
 have HC:=ae (fun W (h:RU W W.heap.size A us)=>dx A n cap us W hn hm h);obtain ⟨R,hR0⟩:∃R:Int,lq us (p,q)=R:=⟨_,rfl⟩;rw [hR0];have hR:=ae hR0;clear hR0;have hb0:=aV w (.cells #[.int .i64 p,.int .i64 q] 140);have k0:=ag.new w 140 #[.int .i64 p,.int .i64 q];have hr0:RU _ _ A us:=(hr.below hb0).more hb0.size;clear hr hn;by_cases hc:dX us=0
 ·rw [hc] at HC
  by_cases hv:bB (p,q)=true
  ·have hv':(!bB (p,q))=false:=by simp [hv]
   have hE:Hid (R=0):=ae (by rw [←hR.out,lq,if_pos hc,if_pos hv]);clear hv hc;go_enter func130,ntmps130
   go_wp2_with (first
    | (go_at_call 98;refine (HC.out _ hr0).mono ?_;rintro e w1 ⟨rfl,hq⟩;have k1:=k0.call hq;have c1:=k1.cell)
    | (go_at_call 167;refine (wF _ _ _).mono ?_;rintro e w2 ⟨rfl,hq2⟩))
   go_ret;have hB1:=hb0.trans (hq.mono hb0.size);exact ⟨bY hE.out.symm,hB1.trans (hq2.mono hB1.size)⟩
  ·have hv':(!bB (p,q))=true:=by simpa using hv
   have hE:Hid (R=7):=ae (by rw [←hR.out,lq,if_pos hc,if_neg hv]);clear hv hc;go_enter func130,ntmps130
   go_wp2_with (first
    | (go_at_call 98;refine (HC.out _ hr0).mono ?_;rintro e w1 ⟨rfl,hq⟩;have k1:=k0.call hq;have c1:=k1.cell)
    | (go_at_call 167;refine (wF _ _ _).mono ?_;rintro e w2 ⟨rfl,hq2⟩))
   go_ret;have hB1:=hb0.trans (hq.mono hb0.size);exact ⟨bY hE.out.symm,hB1.trans (hq2.mono hB1.size)⟩
 ·have hE:Hid (R=dX us):=ae (by rw [←hR.out,lq,if_neg hc])
  generalize dX us=c at *;have hc':(c != 0)=true:=by simpa using hc
  clear hc;go_enter func130,ntmps130
  go_wp2_with (first
   | (go_at_call 98;refine (HC.out _ hr0).mono ?_;rintro e w1 ⟨rfl,hq⟩;have k1:=k0.call hq;have c1:=k1.cell))
  go_ret;exact ⟨bY hE.out.symm,hb0.trans (hq.mono hb0.size)⟩
theorem agL (x1 x2 y1 y2:Int) (w:World):(Op.equalIn 10000 140 (.agg #[.int .i64 x1,.int .i64 x2]) (.agg #[.int .i64 y1,.int .i64 y2])).run prog w= .ok (decide (x1=y1∧x2=y2)) w:=by
 have u3:=underlying3;have a3:=Tryz.isAgg3;have z3:=Tryz.sizeOf3;rw [show (10000:Nat)=9999+1 from rfl];by_cases h1:x1=y1 <;> by_cases h2:x2=y2 <;> go_simp <;> simp [h1,h2]
theorem Vg (A B:Option Addr) (n m cap cap':Nat) (xs ys:List Sp) (w:World) (hn:xs.length=n) (hm:n≤maxLen) (hn2:ys.length=m) (hm2:m≤maxLen) (hr:RU w w.heap.size A xs) (hs:RU w w.heap.size B ys) :
  Calls prog 81 #[.slice A n cap,.slice B m cap'] w fun e w'=>e= .returned (.bool (decide (xs=ys)))∧Below w.heap.size w w':=by
 unfold maxLen at hm hm2;have hn':=ae hn;have hm':=ae hn2;clear hn hn2;by_cases hnm:n=m
 case neg =>
  have hne:((n:Int) != m)=true:=by rw [bne_iff_ne];omega
  have H:Hid (decide (xs=ys)=false):=ae (by rw [decide_eq_false_iff_not];rintro rfl;exact hnm (hn'.out.symm.trans hm'.out));go_enter func81,ntmps81
  go_wp2
  go_ret;exact ⟨dV H.out.symm,Below.refl _ _⟩
 case pos =>
  subst hnm;have hne:((n:Int) != n)=false:=by simp
  go_enter func81,ntmps81
  go_wp2
  go_loopw [5] (fun i wr=>∃(k:Int),0≤k∧k≤n∧i= .int .i64 k∧Below w.heap.size w wr∧Hid (xs=ys↔xs.drop k.toNat=ys.drop k.toNat)) (fun i _=>n - (intOf i).toNat)
  case atStart=>exact ⟨0,by omega,by omega,rfl,Below.refl _ _,ae (by simp)⟩
  case round =>
   obtain ⟨k,hk1,hk,rfl,hB,hL⟩:=hrel;have hr1:=hr.below hB;have hs1:=hs.below hB;by_cases hlt:k<n
   ·have hlt':decide (k<(n:Int))=true:=by simpa using hlt
    obtain ⟨b,o,rfl,_,hc,hd⟩:=RU.at_' hr1 (k:=k.toNat) (by have:=hn'.out;omega);obtain ⟨b2,o2,rfl,_,hc2,hd2⟩:=RU.at_' hs1 (k:=k.toNat) (by have:=hm'.out;omega);have hd1:=ae (drop_cons (0,0) xs k.toNat (by have:=hn'.out;omega));have ab3:=ae (drop_cons (0,0) ys k.toNat (by have:=hm'.out;omega));have hsucc:Hid ((k+1).toNat=k.toNat+1):=ae (by omega);generalize xs.getD k.toNat (0,0)=x at *;generalize ys.getD k.toNat (0,0)=y at *;obtain ⟨x1,x2⟩:=x;obtain ⟨y1,y2⟩:=y;dsimp only at hc hd hc2 hd2;have hcx:=fun y:Ext wr=>y.cell hc
    have hcy:=fun y:Ext wr=>y.cell hc2
    have hdx:=fun y:Ext wr=>y.cell hd
    have hdy:=fun y:Ext wr=>y.cell hd2
    have hq:=fun (W:World)=>agL x1 x2 y1 y2 W
    by_cases hxy:x1=y1∧x2=y2
    ·have hxy':decide (x1=y1∧x2=y2)=true:=by simpa using hxy
     have hst:Hid (xs=ys↔xs.drop (k+1).toNat=ys.drop (k+1).toNat):=ae (by rw [hL.out,hd1.out,ab3.out,hsucc.out];simp [hxy]);rw [hxy'] at hq;clear hxy hxy';go_upto_region 6 with fail
     refine aF (by kernel_rfl) (by kernel_rfl) ?_
     repeat (go_big_quiet_step (fail))
     refine wpQuiet_nil ?_;rintro w1 ⟨⟨_,hw1⟩,rfl⟩;go_wp2_with fail;go_roundw
     case rel=>exact ⟨k+1,by omega,by omega,rfl,hB.trans (hw1.mono hB.size),hst⟩
     case measure=>simp [intOf];omega
    ·have hxy':decide (x1=y1∧x2=y2)=false:=by simpa using hxy
     have hE:Hid (decide (xs=ys)=false):=ae (by
      rw [decide_eq_false_iff_not,hL.out,hd1.out,ab3.out];intro h
      injection h with h1 _
      exact hxy (by simpa using h1))
     rw [hxy'] at hq;clear hxy hxy';go_upto_region 6 with fail
     refine aF (by kernel_rfl) (by kernel_rfl) ?_
     repeat (go_big_quiet_step (fail))
     refine wpQuiet_nil ?_;rintro w1 ⟨⟨_,hw1⟩,rfl⟩;go_wp2_with fail;go_ret;exact ⟨dV hE.out.symm,hB.trans (hw1.mono hB.size)⟩
   ·have hlt':decide (k<(n:Int))=false:=by simp;omega
    go_wp2_with fail;go_ret;have:decide (xs=ys)=true:=by rw [decide_eq_true_eq,hL.out,List.drop_of_length_le (by have:=hn'.out;omega),List.drop_of_length_le (by have:=hm'.out;omega)]
    exact ⟨dV this.symm,hB⟩
attribute [local go_sem] Oper.semAt_some aC au az ah
abbrev eQ (pg n f b ev:Int):Value:=.agg #[.int .i64 pg,.int .i64 n,.int .i64 f,.int .i64 b,.int .i64 ev]
abbrev bf (pg n f b ev:Int):Array Value:=#[.int .i64 pg,.int .i64 n,.int .i64 f,.int .i64 b,.int .i64 ev]
abbrev Xq (x:Sp):Array Value:=#[.agg #[.int .i64 x.1,.int .i64 x.2]]
theorem QE (pg n f b ev:Int) (w:World) (hp:dS pg n f b ev) :
  Calls prog 176 #[eQ pg n f b ev] w fun e w'=>e= .returned (.tuple #[.int .i64 (pg+f),.int .i64 (pg+n - b)])∧Below w.heap.size w w':=by
 obtain ⟨h1,h2,h3,h4,h5,h6,h7,h8,h9,h10,h11⟩:=hp;have hb0:=aV w (.cells (bf pg n f b ev) 25);have k0:=ag.new w 25 (bf pg n f b ev);have q:=fun (x:Ext (w.alloc (.cells (bf pg n f b ev) 25)))=>(x.blk k0).cell
 go_enter func176,ntmps176;go_upto_region 1 with fail
 refine aF (by kernel_rfl) (by kernel_rfl) ?_
 repeat (go_big_quiet_step (fail))
 refine wpQuiet_nil ?_;rintro w2 ⟨⟨_,hw2⟩,rfl⟩;go_wp2_with fail;go_ret2;exact ⟨rfl,hb0.trans (hw2.mono hb0.size)⟩
theorem jm {α:Type} {pre rest xs:List α} {x:α} (h:xs=pre++x::rest):pre++[x] <+: xs:=⟨rest,by simp [h]⟩
theorem Az (pg n f b ev:Int) (B:Nat) (w:World) (hp:dS pg n f b ev) (hB:ag w B 25 (bf pg n f b ev)) :
  xX prog 175 #[.pointer (some ⟨B,0,none⟩)] Xq (fun _=>False) (fun k=>k=B) (aA pg n f b ev) w:=by
 intro m l J Jx W hW hJ hJx hY h0;have kB:=hW.blk hB (by simp);have HI:=ae (QE pg n f b ev · hp);obtain ⟨h1,h2,h3,h4,h5,h6,h7,h8,h9,h10,h11⟩:=hp;refine callsIn_of_wp func175 rfl trivial ?_ rfl;simp only [ntmps175,List.size_toArray,List.length_cons,List.length_nil,Nat.reduceAdd,Nat.reduceSub,Array.replicate_succ,Array.replicate_zero,List.push_toArray,List.append_toArray,List.nil_append,List.cons_append];have cB:=kB.cell;by_cases he:ev=0
 ·subst he
  have hR:Hid (aA pg n f b 0=gD 1024 (pg+n - b) 1025 (pg+f)):=ae rfl
  gi_wp2_with (gi_at_call 176;refine (callsIn_wide.2 (HI.out W)).mono ?_;rintro e w1 ⟨rfl,hq⟩;have k1:=kB.call hq;have c1:=k1.cell;have Vh:=hJ [] W w1 h0 (.of_below hq))
  gi_loopw [6] (fun i wr=>∃(k:Nat) (a:Int) (pre:List Sp),i= .int .i64 a∧0≤a∧a≤4096∧pg+n - b - a<k∧J pre wr∧Hid (aA pg n f b 0=pre++gD 1024 (pg+n - b) k a)) (fun i _=>(pg+n - b - intOf i).toNat)
  case atStart=>exact ⟨1025,pg+f,[],rfl,by omega,by omega,by omega,Vh,ae (by rw [hR.out];rfl)⟩
  case round =>
   obtain ⟨k,a,pre,rfl,ha0,ha1,hk,hJs,hL⟩:=hrel;by_cases hlt:a<pg+n - b
   ·have hlt':decide (a<pg+n - b)=true:=by simpa using hlt
    obtain ⟨k',rfl⟩:∃k',k=k'+1:=⟨k - 1,by omega⟩;by_cases hmi:1024≤pg+n - b - a
    ·have hL2:Hid (aA pg n f b 0=pre++(a,1024)::gD 1024 (pg+n - b) k' (a+1024+1)):=ae (by rw [hL.out,gD,if_pos hlt,show min 1024 (pg+n - b - a)=1024 by omega])
     obtain ⟨fn,tmps,assign,body,hy,qA⟩:=hY (m - 1) pre (a,1024) wr hJs (jm hL2.out);clear hL hY
     gi_wp2
     refine qA.mono ?_;rintro e W3 (⟨rfl,hJ3,_⟩|⟨rfl,hJx3⟩)
     ·gi_wp2
      go_roundw
      case rel=>exact ⟨k',a+1024+1,pre++[(a,1024)],by go_num,by omega,by omega,by omega,hJ3,ae (by rw [hL2.out];simp)⟩
      case measure=>simp [intOf];omega
     ·gi_wp2
      refine bodyPost_ret (results_none rfl _ _ _) rfl ?_;exact ⟨⟨_,rfl⟩,.inr ⟨pre++[(a,1024)],jm hL2.out,hJx3⟩⟩
    ·have hL2:Hid (aA pg n f b 0=pre++(a,pg+n - b - a)::gD 1024 (pg+n - b) k' (a+1024+1)):=ae (by rw [hL.out,gD,if_pos hlt,show min 1024 (pg+n - b - a)=pg+n - b - a by omega])
     obtain ⟨fn,tmps,assign,body,hy,qA⟩:=hY (m - 1) pre (a,pg+n - b - a) wr hJs (jm hL2.out);clear hL hY
     gi_wp2
     refine qA.mono ?_;rintro e W3 (⟨rfl,hJ3,_⟩|⟨rfl,hJx3⟩)
     ·gi_wp2
      go_roundw
      case rel=>exact ⟨k',a+1024+1,pre++[(a,pg+n - b - a)],by go_num,by omega,by omega,by omega,hJ3,ae (by rw [hL2.out];simp)⟩
      case measure=>simp [intOf];omega
     ·gi_wp2
      refine bodyPost_ret (results_none rfl _ _ _) rfl ?_;exact ⟨⟨_,rfl⟩,.inr ⟨pre++[(a,pg+n - b - a)],jm hL2.out,hJx3⟩⟩
   ·have hlt':decide (a<pg+n - b)=false:=by simpa using hlt
    have hL2:Hid (pre=aA pg n f b 0):=ae (by
     rw [hL.out];cases k with
     | zero=>simp [gD]
     | succ k=>rw [gD,if_neg hlt];simp)
    gi_wp2
    go_end0
    exact ⟨⟨_,rfl⟩,.inl (by rw [←hL2.out];exact hJs)⟩
 ·have he':(ev==0)=false:=by simpa using he
  have hR:Hid (aA pg n f b ev=gD ev (pg+n - b) 1025 (pg+f)):=ae (by unfold aA;rw [if_neg he])
  gi_wp2_with (gi_at_call 176;refine (callsIn_wide.2 (HI.out W)).mono ?_;rintro e w1 ⟨rfl,hq⟩;have k1:=kB.call hq;have c1:=k1.cell;have Vh:=hJ [] W w1 h0 (.of_below hq))
  gi_loopw [6] (fun i wr=>∃(k:Nat) (a:Int) (pre:List Sp),i= .int .i64 a∧0≤a∧a≤4096∧pg+n - b - a<k∧J pre wr∧Hid (aA pg n f b ev=pre++gD ev (pg+n - b) k a)) (fun i _=>(pg+n - b - intOf i).toNat)
  case atStart=>exact ⟨1025,pg+f,[],rfl,by omega,by omega,by omega,Vh,ae (by rw [hR.out];rfl)⟩
  case round =>
   obtain ⟨k,a,pre,rfl,ha0,ha1,hk,hJs,hL⟩:=hrel;by_cases hlt:a<pg+n - b
   ·have hlt':decide (a<pg+n - b)=true:=by simpa using hlt
    obtain ⟨k',rfl⟩:∃k',k=k'+1:=⟨k - 1,by omega⟩;by_cases hmi:ev≤pg+n - b - a
    ·have hL2:Hid (aA pg n f b ev=pre++(a,ev)::gD ev (pg+n - b) k' (a+ev+1)):=ae (by rw [hL.out,gD,if_pos hlt,show min ev (pg+n - b - a)=ev by omega])
     obtain ⟨fn,tmps,assign,body,hy,qA⟩:=hY (m - 1) pre (a,ev) wr hJs (jm hL2.out);clear hL hY
     gi_wp2
     refine qA.mono ?_;rintro e W3 (⟨rfl,hJ3,_⟩|⟨rfl,hJx3⟩)
     ·gi_wp2
      go_roundw
      case rel=>exact ⟨k',a+ev+1,pre++[(a,ev)],by go_num,by omega,by omega,by omega,hJ3,ae (by rw [hL2.out];simp)⟩
      case measure=>simp [intOf];omega
     ·gi_wp2
      refine bodyPost_ret (results_none rfl _ _ _) rfl ?_;exact ⟨⟨_,rfl⟩,.inr ⟨pre++[(a,ev)],jm hL2.out,hJx3⟩⟩
    ·have hL2:Hid (aA pg n f b ev=pre++(a,pg+n - b - a)::gD ev (pg+n - b) k' (a+ev+1)):=ae (by rw [hL.out,gD,if_pos hlt,show min ev (pg+n - b - a)=pg+n - b - a by omega])
     obtain ⟨fn,tmps,assign,body,hy,qA⟩:=hY (m - 1) pre (a,pg+n - b - a) wr hJs (jm hL2.out);clear hL hY
     gi_wp2
     refine qA.mono ?_;rintro e W3 (⟨rfl,hJ3,_⟩|⟨rfl,hJx3⟩)
     ·gi_wp2
      go_roundw
      case rel=>exact ⟨k',a+ev+1,pre++[(a,pg+n - b - a)],by go_num,by omega,by omega,by omega,hJ3,ae (by rw [hL2.out];simp)⟩
      case measure=>simp [intOf];omega
     ·gi_wp2
      refine bodyPost_ret (results_none rfl _ _ _) rfl ?_;exact ⟨⟨_,rfl⟩,.inr ⟨pre++[(a,pg+n - b - a)],jm hL2.out,hJx3⟩⟩
   ·have hlt':decide (a<pg+n - b)=false:=by simpa using hlt
    have hL2:Hid (pre=aA pg n f b ev):=ae (by
     rw [hL.out];cases k with
     | zero=>simp [gD]
     | succ k=>rw [gD,if_neg hlt];simp)
    gi_wp2
    go_end0
    exact ⟨⟨_,rfl⟩,.inl (by rw [←hL2.out];exact hJs)⟩
theorem Xr {w:World} {B:Nat} {b o:Nat} {x:Sp} {us:List Sp} (h:RU w B (some ⟨b,o,none⟩) (x::us)):RU w B (some ⟨b,o+2,none⟩) us:=fun k hk=>by
 obtain ⟨b',o',e,hb,hc,hd⟩:=h (k+1) (by simp;omega);obtain ⟨rfl,rfl⟩:b=b'∧o=o':=by simpa using e
 refine ⟨b,o+2,rfl,hb,?_,?_⟩
 ·rw [show o+2+k*2=o+(k+1)*2 by omega];simpa using hc
 ·rw [show o+2+k*2+1=o+(k+1)*2+1 by omega];simpa using hd
theorem vE {w:World} {B:Nat} {A:Option Addr} {x:Sp} {us:List Sp} (h:RU w B A (x::us)):∃b o,A=some ⟨b,o,none⟩∧b<B∧w.cell? ⟨b,o,none⟩=some (.int .i64 x.1)∧w.cell? ⟨b,o+1,none⟩=some (.int .i64 x.2):=by
 obtain ⟨b,o,e,hb,hc,hd⟩:=h 0 (by simp);exact ⟨b,o,e,hb,by simpa using hc,by simpa using hd⟩
theorem tail_at {w:World} {N:Nat} {p o d:Nat} {x:Sp} {us:List Sp} (h:RU w N (some ⟨p,o,none⟩) (x::us)) (hd:us.length+1≤d) :
  ∃q,(if d=1 then (some ⟨p,o,none⟩:Option Addr) else some ⟨p,o+2,none⟩)=some ⟨p,q,none⟩∧RU w N (some ⟨p,q,none⟩) us:=by
 by_cases h1:d=1
 ·obtain rfl:us=[]:=List.eq_nil_of_length_eq_zero (by omega)
  exact ⟨o,by rw [if_pos h1],RU.nil⟩
 ·exact ⟨o+2,by rw [if_neg h1],Xr h⟩
structure Left (w:World) (N:Nat) (K:Nat→Prop) (B1 B2:Nat) (P:Option Addr) (m d:Nat) (us:List Sp):Prop where
 len:us.length=m
 cap:m≤d
 max:d≤9223372036854775807
 ru:RU w N P us
 own:us≠[]→∀b o,P=some ⟨b,o,none⟩→K b∧b≠B1∧b≠B2
 vl:∀x∈us,bB x=true
theorem Left.far {T:Nat→Prop} {w w':World} {N:Nat} {K:Nat→Prop} {B1 B2:Nat} {P:Option Addr} {m d:Nat} {us:List Sp} (h:Left w N K B1 B2 P m d us) (hf:af T w w') (hT:∀k,K k→k≠B1→k≠B2→¬T k):Left w' N K B1 B2 P m d us :=
 ⟨h.len,h.cap,h.max,by
  by_cases h0:us=[]
  ·subst h0;exact RU.nil
  ·exact hf.ru h.ru (fun b o e=>by have:=h.own h0 b o e;exact hT b this.1 this.2.1 this.2.2),h.own,h.vl⟩
theorem wG (A1 A2:Option Addr) (n1 c1 n2 c2:Nat) (us vs:List Sp) (B1 B2 N:Nat) (K:Nat→Prop) (w:World) (hK1:K B1) (hK2:K B2) (hne:B1≠B2)
  (k1:ag w B1 41 #[.slice A1 n1 c1]) (k2:ag w B2 41 #[.slice A2 n2 c2]) (hA:Left w N K B1 B2 A1 n1 c1 us) (hB:Left w N K B1 B2 A2 n2 c2 vs) :
  xX prog 178 #[.pointer (some ⟨B1,0,none⟩),.pointer (some ⟨B2,0,none⟩)] Xq (fun k=>k=B1∨k=B2) K (ay us vs) w:=by
 intro m l J Jx W hW hJ hJx hY h0;have kB1:=hW.blk k1 (by simpa using hK1);have kB2:=hW.blk k2 (by simpa using hK2);have lA:=hA.far hW (fun k hk _ _ h=>h hk);have lB:=hB.far hW (fun k hk _ _ h=>h hk);refine callsIn_of_wp func178 rfl trivial ?_ rfl;simp only [ntmps178,List.size_toArray,List.length_cons,List.length_nil,Nat.reduceAdd,Nat.reduceSub,Array.replicate_succ,Array.replicate_zero,List.push_toArray,List.append_toArray,List.nil_append,List.cons_append]
 gi_wp2_with fail
 gi_loopw [4] (fun _ wr=>∃(eG vs' pre:List Sp) (P1 P2:Option Addr) (m1 m2 d1 d2:Nat),ag wr B1 41 #[.slice P1 m1 d1]∧ag wr B2 41 #[.slice P2 m2 d2]∧Left wr N K B1 B2 P1 m1 d1 eG∧Left wr N K B1 B2 P2 m2 d2 vs'∧J pre wr∧Hid (ay us vs=pre++ay eG vs'))
  (fun _ wr=>lenOf (wr.cell? ⟨B1,0,none⟩)+lenOf (wr.cell? ⟨B2,0,none⟩))
 case atStart=>exact ⟨us,vs,[],A1,A2,n1,n2,c1,c2,kB1,kB2,lA,lB,h0,ae rfl⟩
 case round =>
  obtain ⟨eG,vs',pre,P1,P2,m1,m2,d1,d2,b1,b2,l1,l2,hJs,hL⟩:=hrel;have q1:=b1.cell;have q2:=b2.cell;have f1:=b1.frozen;have f2:=b2.frozen;cases eG with
  | nil =>
   obtain rfl:m1=0:=by have:=l1.len;simpa using this.symm
   have hE:Hid (pre=ay us vs):=ae (by rw [hL.out,Lg,List.append_nil])
   gi_wp2_with fail
   go_end0
   exact ⟨⟨_,rfl⟩,.inl (by rw [←hE.out];exact hJs)⟩
  | cons x r =>
   have h1':decide (0<m1)=true:=by have:=l1.len;simp at this;simp;omega
   cases vs' with
   | nil =>
    obtain rfl:m2=0:=by have:=l2.len;simpa using this.symm
    have hE:Hid (pre=ay us vs):=ae (by rw [hL.out,Jd,List.append_nil])
    gi_wp2_with fail
    go_end0
    exact ⟨⟨_,rfl⟩,.inl (by rw [←hE.out];exact hJs)⟩
   | cons y s =>
    have h2':decide (0<m2)=true:=by have:=l2.len;simp at this;simp;omega
    have hlx:=l1.len;have hly:=l2.len;simp only [List.length_cons] at hlx hly;have hmx:=l1.max;have hmy:=l2.max;have hcx:=l1.cap;have hcy:=l2.cap;obtain ⟨p1,o1,rfl,hp1,x1,x2⟩:=vE l1.ru;obtain ⟨p2,o2,rfl,hp2,y1,y2⟩:=vE l2.ru;have kZ:=av.1 (l1.vl x (by simp));have hvy:=av.1 (l2.vl y (by simp));obtain ⟨xa,xb⟩:=x;obtain ⟨ya,yb⟩:=y;dsimp only at x1 x2 y1 y2 kZ hvy;have e1:=fun z:Ext wr=>z.cell x1
    have e2:=fun z:Ext wr=>z.cell x2
    have e3:=fun z:Ext wr=>z.cell y1
    have e4:=fun z:Ext wr=>z.cell y2
    have e5:=fun z:Ext wr=>(z.blk b1).cell
    have e6:=fun z:Ext wr=>(z.blk b2).cell
    have HE1:Hid (∀z:Ext wr,Calls prog 168 #[.agg #[.int .i64 xa,.int .i64 xb]] z.w fun e w''=>e= .returned (.int .i64 (xa+xb))∧∃t:Ext wr,w''=t.w):=ae (fun z=>Ext.call (jl xa xb _ (by omega) (by omega)));have HE2:Hid (∀z:Ext wr,Calls prog 168 #[.agg #[.int .i64 ya,.int .i64 yb]] z.w fun e w''=>e= .returned (.int .i64 (ya+yb))∧∃t:Ext wr,w''=t.w):=ae (fun z=>Ext.call (jl ya yb _ (by omega) (by omega)))
    gi_upto_region 1 with fail
    refine wpIn_wide.2 ?_;refine aF (by kernel_rfl) (by kernel_rfl) ?_
    repeat (go_big_quiet_step ((go_at_call 168;first|exact HE1.out _|exact HE2.out _)))
    refine wpQuiet_nil ?_;rintro w2 ⟨⟨_,hw2⟩,rfl⟩;have hL1:=hL.out;rw [Jc] at hL1;dsimp only at hL1;generalize hfr:(if xa<ya then ya else xa)=fr;generalize hto:(if ya+yb<xa+xb then ya+yb else xa+xb)=te;rw [show max xa ya=fr by omega,show min (xa+xb) (ya+yb)=te by omega] at hL1;have hb1:0≤fr∧fr≤1024∧0≤te∧te≤1024:=by omega
    clear hfr hto;have hJ2:=hJ pre wr w2 hJs (.of_below hw2);have hM1:=ae (b1.cell 0);have hM2:=ae (b2.cell 0);have QF:=b1.call hw2;have QG:=b2.call hw2;have Xt:=l1.far (.of_below hw2:af (fun _=>False) _ _) (fun _ _ _ _ h=>h);have Xu:=l2.far (.of_below hw2:af (fun _=>False) _ _) (fun _ _ _ _ h=>h);clear e1 e2 e3 e4 e5 e6 HE1 HE2 q1 q2 f1 f2 x1 x2 y1 y2 b1 b2 l1 l2 hJs hL h1' h2';by_cases hft:fr<te
    ·have agO:decide (fr<te)=true:=by simpa using hft
     rw [if_pos hft] at hL1;have QH:=ae hL1;clear hL1;obtain ⟨fn,tmps,assign,body,hy,qA⟩:=hY (m - 1) pre (fr,te - fr) w2 hJ2 ⟨_,by rw [QH.out,List.append_assoc]⟩;clear hY
     gi_wp2_with fail
     refine qA.mono ?_;rintro e W3 (⟨rfl,hJ3,ma⟩|⟨rfl,hJx3⟩)
     ·have Xv:=ma.blk QF (by simpa using hK1)
      have Xw:=ma.blk QG (by simpa using hK2);have l1c:=Xt.far ma (fun k hk _ _ h=>h hk);have l2c:=Xu.far ma (fun k hk _ _ h=>h hk);have hL3:Hid (ay us vs=(pre++[(fr,te - fr)])++(if xa+xb<ya+yb then ay r ((ya,yb)::s) else ay ((xa,xb)::r) s)):=ae (by rw [QH.out];simp);clear QH hJ2 qA QF QG Xt Xu;have Xx:=(Xv).cell;have Xy:=(Xw).cell;have Xz:=(Xv).frozen;have XA:=(Xw).frozen;obtain ⟨p1',o1',Nh,_,Lh,Lj⟩:=vE (l1c).ru;obtain ⟨rfl,rfl⟩:p1=p1'∧o1=o1':=by simpa using Nh
      obtain ⟨p2',o2',Ni,_,Ll,Lm⟩:=vE (l2c).ru;obtain ⟨rfl,rfl⟩:p2=p2'∧o2=o2':=by simpa using Ni
      clear Nh Ni;dsimp only at Lh Lj Ll Lm;have t1:=fun z:Ext W3=>z.cell Lh
      have t2:=fun z:Ext W3=>z.cell Lj
      have t3:=fun z:Ext W3=>z.cell Ll
      have t4:=fun z:Ext W3=>z.cell Lm
      have t5:=fun z:Ext W3=>(z.blk Xv).cell
      have t6:=fun z:Ext W3=>(z.blk Xw).cell
      have HT1:Hid (∀z:Ext W3,Calls prog 168 #[.agg #[.int .i64 xa,.int .i64 xb]] z.w fun e w''=>e= .returned (.int .i64 (xa+xb))∧∃t:Ext W3,w''=t.w):=ae (fun z=>Ext.call (jl xa xb _ (by omega) (by omega)));have HT2:Hid (∀z:Ext W3,Calls prog 168 #[.agg #[.int .i64 ya,.int .i64 yb]] z.w fun e w''=>e= .returned (.int .i64 (ya+yb))∧∃t:Ext W3,w''=t.w):=ae (fun z=>Ext.call (jl ya yb _ (by omega) (by omega)));by_cases hlt:xa+xb<ya+yb
      ·have hlt':decide (xa+xb<ya+yb)=true:=by simpa using hlt
       have hLz:Hid (ay us vs=(pre++[(fr,te - fr)])++ay r ((ya,yb)::s)):=ae ((hL3.out).trans (by rw [if_pos hlt]));clear hlt
       gi_upto_region 3 with fail
       refine wpIn_wide.2 ?_;refine aF (by kernel_rfl) (by kernel_rfl) ?_
       repeat (go_big_quiet_step ((go_at_call 168;first|exact HT1.out _|exact HT2.out _)))
       refine wpQuiet_nil ?_;rintro w5 ⟨⟨_,mf⟩,rfl⟩;have wH:=(Xv).call mf;have wI:=(Xw).call mf;have AA:=(l1c).far (.of_below mf:af (fun _=>False) _ _) (fun _ _ _ _ h=>h);have AB:=(l2c).far (.of_below mf:af (fun _=>False) _ _) (fun _ _ _ _ h=>h);have Je:=hJ (pre++[(fr,te - fr)]) W3 w5 hJ3 (.of_below mf);have q1z:=wH.cell;have q2z:=wI.cell;have f1z:=wH.frozen;have f2z:=wI.frozen;clear t1 t2 t3 t4 t5 t6 HT1 HT2 Xx Xy Xz XA Lh Lj Ll Lm;have hne1:=(AA.own (by simp) p1 o1 rfl);have hne2:=(AB.own (by simp) p2 o2 rfl);obtain ⟨q,hq⟩:=tail_at AA.ru (d:=d1) (by have:=AA.cap;omega);have Nj:=ae hq.1;have QI:=hq.2;clear hq
       gi_wp2_with fail
       rw [Nj.out];have hfz:af (fun k=>k=B1∨k=B2) w5 (w5.setCell ⟨B1,0,none⟩ (.slice (some ⟨p1,q,none⟩) (m1 - 1) (d1 - 1))):=af.setCell (.refl _ _) (fun _=>.inl rfl) _;go_roundw
       case rel =>
        refine ⟨r,(ya,yb)::s,(pre++[(fr,te - fr)]),some ⟨p1,q,none⟩,some ⟨p2,o2,none⟩,m1 - 1,m2,d1 - 1,d2,wH.aO 0 _,wI.far (p:=⟨B1,0,none⟩) (fun h=>hne h.symm) _,?_,AB.far hfz (fun k _ h1 h2 h=>h.elim h1 h2),hJ _ _ _ Je hfz,hLz⟩;have lr:Left w5 N K B1 B2 (some ⟨p1,q,none⟩) (m1 - 1) (d1 - 1) r:=⟨by omega,by omega,by omega,QI,fun _ b o e=>by cases e;exact hne1,fun z hz=>AA.vl z (by simp [hz])⟩;exact lr.far hfz (fun k _ h1 h2 h=>h.elim h1 h2)
       case measure=>rw [(wH.aO 0 (.slice (some ⟨p1,q,none⟩) (m1 - 1) (d1 - 1))).cell 0,(wI.far (p:=⟨B1,0,none⟩) (fun h=>hne h.symm) (.slice (some ⟨p1,q,none⟩) (m1 - 1) (d1 - 1))).cell 0,hM1.out,hM2.out];simp [lenOf];omega
      ·have hlt':decide (xa+xb<ya+yb)=false:=by simpa using hlt
       have hLz:Hid (ay us vs=(pre++[(fr,te - fr)])++ay ((xa,xb)::r) s):=ae ((hL3.out).trans (by rw [if_neg hlt]));clear hlt
       gi_upto_region 3 with fail
       refine wpIn_wide.2 ?_;refine aF (by kernel_rfl) (by kernel_rfl) ?_
       repeat (go_big_quiet_step ((go_at_call 168;first|exact HT1.out _|exact HT2.out _)))
       refine wpQuiet_nil ?_;rintro w5 ⟨⟨_,mf⟩,rfl⟩;have wH:=(Xv).call mf;have wI:=(Xw).call mf;have AA:=(l1c).far (.of_below mf:af (fun _=>False) _ _) (fun _ _ _ _ h=>h);have AB:=(l2c).far (.of_below mf:af (fun _=>False) _ _) (fun _ _ _ _ h=>h);have Je:=hJ (pre++[(fr,te - fr)]) W3 w5 hJ3 (.of_below mf);have q1z:=wH.cell;have q2z:=wI.cell;have f1z:=wH.frozen;have f2z:=wI.frozen;clear t1 t2 t3 t4 t5 t6 HT1 HT2 Xx Xy Xz XA Lh Lj Ll Lm;have hne1:=(AA.own (by simp) p1 o1 rfl);have hne2:=(AB.own (by simp) p2 o2 rfl);obtain ⟨q,hq⟩:=tail_at AB.ru (d:=d2) (by have:=AB.cap;omega);have Nj:=ae hq.1;have QI:=hq.2;clear hq
       gi_wp2_with fail
       rw [Nj.out];have hfz:af (fun k=>k=B1∨k=B2) w5 (w5.setCell ⟨B2,0,none⟩ (.slice (some ⟨p2,q,none⟩) (m2 - 1) (d2 - 1))):=af.setCell (.refl _ _) (fun _=>.inr rfl) _;go_roundw
       case rel =>
        refine ⟨(xa,xb)::r,s,(pre++[(fr,te - fr)]),some ⟨p1,o1,none⟩,some ⟨p2,q,none⟩,m1,m2 - 1,d1,d2 - 1,wH.far (p:=⟨B2,0,none⟩) hne _,wI.aO 0 _,AA.far hfz (fun k _ h1 h2 h=>h.elim h1 h2),?_,hJ _ _ _ Je hfz,hLz⟩;have lr:Left w5 N K B1 B2 (some ⟨p2,q,none⟩) (m2 - 1) (d2 - 1) s:=⟨by omega,by omega,by omega,QI,fun _ b o e=>by cases e;exact hne2,fun z hz=>AB.vl z (by simp [hz])⟩;exact lr.far hfz (fun k _ h1 h2 h=>h.elim h1 h2)
       case measure=>rw [(wH.far (p:=⟨B2,0,none⟩) hne (.slice (some ⟨p2,q,none⟩) (m2 - 1) (d2 - 1))).cell 0,(wI.aO 0 (.slice (some ⟨p2,q,none⟩) (m2 - 1) (d2 - 1))).cell 0,hM1.out,hM2.out];simp [lenOf];omega
     ·gi_wp2_with fail
      refine bodyPost_ret (results_none rfl _ _ _) rfl ?_;exact ⟨⟨_,rfl⟩,.inr ⟨pre++[(fr,te - fr)],⟨_,by rw [QH.out,List.append_assoc]⟩,hJx3⟩⟩
    ·have agO:decide (fr<te)=false:=by simpa using hft
     rw [if_neg hft,List.nil_append] at hL1;have QH:=ae hL1;clear hL1;have Xx:=(QF).cell;have Xy:=(QG).cell;have Xz:=(QF).frozen;have XA:=(QG).frozen;obtain ⟨p1',o1',Nh,_,Lh,Lj⟩:=vE (Xt).ru;obtain ⟨rfl,rfl⟩:p1=p1'∧o1=o1':=by simpa using Nh
     obtain ⟨p2',o2',Ni,_,Ll,Lm⟩:=vE (Xu).ru;obtain ⟨rfl,rfl⟩:p2=p2'∧o2=o2':=by simpa using Ni
     clear Nh Ni;dsimp only at Lh Lj Ll Lm;have t1:=fun z:Ext w2=>z.cell Lh
     have t2:=fun z:Ext w2=>z.cell Lj
     have t3:=fun z:Ext w2=>z.cell Ll
     have t4:=fun z:Ext w2=>z.cell Lm
     have t5:=fun z:Ext w2=>(z.blk QF).cell
     have t6:=fun z:Ext w2=>(z.blk QG).cell
     have HT1:Hid (∀z:Ext w2,Calls prog 168 #[.agg #[.int .i64 xa,.int .i64 xb]] z.w fun e w''=>e= .returned (.int .i64 (xa+xb))∧∃t:Ext w2,w''=t.w):=ae (fun z=>Ext.call (jl xa xb _ (by omega) (by omega)));have HT2:Hid (∀z:Ext w2,Calls prog 168 #[.agg #[.int .i64 ya,.int .i64 yb]] z.w fun e w''=>e= .returned (.int .i64 (ya+yb))∧∃t:Ext w2,w''=t.w):=ae (fun z=>Ext.call (jl ya yb _ (by omega) (by omega)));by_cases hlt:xa+xb<ya+yb
     ·have hlt':decide (xa+xb<ya+yb)=true:=by simpa using hlt
      have hLz:Hid (ay us vs=pre++ay r ((ya,yb)::s)):=ae ((QH.out).trans (by rw [if_pos hlt]));clear hlt
      gi_upto_region 3 with fail
      refine wpIn_wide.2 ?_;refine aF (by kernel_rfl) (by kernel_rfl) ?_
      repeat (go_big_quiet_step ((go_at_call 168;first|exact HT1.out _|exact HT2.out _)))
      refine wpQuiet_nil ?_;rintro w5 ⟨⟨_,mf⟩,rfl⟩;have wH:=(QF).call mf;have wI:=(QG).call mf;have AA:=(Xt).far (.of_below mf:af (fun _=>False) _ _) (fun _ _ _ _ h=>h);have AB:=(Xu).far (.of_below mf:af (fun _=>False) _ _) (fun _ _ _ _ h=>h);have Je:=hJ pre w2 w5 hJ2 (.of_below mf);have q1z:=wH.cell;have q2z:=wI.cell;have f1z:=wH.frozen;have f2z:=wI.frozen;clear t1 t2 t3 t4 t5 t6 HT1 HT2 Xx Xy Xz XA Lh Lj Ll Lm;have hne1:=(AA.own (by simp) p1 o1 rfl);have hne2:=(AB.own (by simp) p2 o2 rfl);obtain ⟨q,hq⟩:=tail_at AA.ru (d:=d1) (by have:=AA.cap;omega);have Nj:=ae hq.1;have QI:=hq.2;clear hq
      gi_wp2_with fail
      rw [Nj.out];have hfz:af (fun k=>k=B1∨k=B2) w5 (w5.setCell ⟨B1,0,none⟩ (.slice (some ⟨p1,q,none⟩) (m1 - 1) (d1 - 1))):=af.setCell (.refl _ _) (fun _=>.inl rfl) _;go_roundw
      case rel =>
       refine ⟨r,(ya,yb)::s,pre,some ⟨p1,q,none⟩,some ⟨p2,o2,none⟩,m1 - 1,m2,d1 - 1,d2,wH.aO 0 _,wI.far (p:=⟨B1,0,none⟩) (fun h=>hne h.symm) _,?_,AB.far hfz (fun k _ h1 h2 h=>h.elim h1 h2),hJ _ _ _ Je hfz,hLz⟩;have lr:Left w5 N K B1 B2 (some ⟨p1,q,none⟩) (m1 - 1) (d1 - 1) r:=⟨by omega,by omega,by omega,QI,fun _ b o e=>by cases e;exact hne1,fun z hz=>AA.vl z (by simp [hz])⟩;exact lr.far hfz (fun k _ h1 h2 h=>h.elim h1 h2)
      case measure=>rw [(wH.aO 0 (.slice (some ⟨p1,q,none⟩) (m1 - 1) (d1 - 1))).cell 0,(wI.far (p:=⟨B1,0,none⟩) (fun h=>hne h.symm) (.slice (some ⟨p1,q,none⟩) (m1 - 1) (d1 - 1))).cell 0,hM1.out,hM2.out];simp [lenOf];omega
     ·have hlt':decide (xa+xb<ya+yb)=false:=by simpa using hlt
      have hLz:Hid (ay us vs=pre++ay ((xa,xb)::r) s):=ae ((QH.out).trans (by rw [if_neg hlt]));clear hlt
      gi_upto_region 3 with fail
      refine wpIn_wide.2 ?_;refine aF (by kernel_rfl) (by kernel_rfl) ?_
      repeat (go_big_quiet_step ((go_at_call 168;first|exact HT1.out _|exact HT2.out _)))
      refine wpQuiet_nil ?_;rintro w5 ⟨⟨_,mf⟩,rfl⟩;have wH:=(QF).call mf;have wI:=(QG).call mf;have AA:=(Xt).far (.of_below mf:af (fun _=>False) _ _) (fun _ _ _ _ h=>h);have AB:=(Xu).far (.of_below mf:af (fun _=>False) _ _) (fun _ _ _ _ h=>h);have Je:=hJ pre w2 w5 hJ2 (.of_below mf);have q1z:=wH.cell;have q2z:=wI.cell;have f1z:=wH.frozen;have f2z:=wI.frozen;clear t1 t2 t3 t4 t5 t6 HT1 HT2 Xx Xy Xz XA Lh Lj Ll Lm;have hne1:=(AA.own (by simp) p1 o1 rfl);have hne2:=(AB.own (by simp) p2 o2 rfl);obtain ⟨q,hq⟩:=tail_at AB.ru (d:=d2) (by have:=AB.cap;omega);have Nj:=ae hq.1;have QI:=hq.2;clear hq
      gi_wp2_with fail
      rw [Nj.out];have hfz:af (fun k=>k=B1∨k=B2) w5 (w5.setCell ⟨B2,0,none⟩ (.slice (some ⟨p2,q,none⟩) (m2 - 1) (d2 - 1))):=af.setCell (.refl _ _) (fun _=>.inr rfl) _;go_roundw
      case rel =>
       refine ⟨(xa,xb)::r,s,pre,some ⟨p1,o1,none⟩,some ⟨p2,q,none⟩,m1,m2 - 1,d1,d2 - 1,wH.far (p:=⟨B2,0,none⟩) hne _,wI.aO 0 _,AA.far hfz (fun k _ h1 h2 h=>h.elim h1 h2),?_,hJ _ _ _ Je hfz,hLz⟩;have lr:Left w5 N K B1 B2 (some ⟨p2,q,none⟩) (m2 - 1) (d2 - 1) s:=⟨by omega,by omega,by omega,QI,fun _ b o e=>by cases e;exact hne2,fun z hz=>AB.vl z (by simp [hz])⟩;exact lr.far hfz (fun k _ h1 h2 h=>h.elim h1 h2)
      case measure=>rw [(wH.far (p:=⟨B2,0,none⟩) hne (.slice (some ⟨p2,q,none⟩) (m2 - 1) (d2 - 1))).cell 0,(wI.aO 0 (.slice (some ⟨p2,q,none⟩) (m2 - 1) (d2 - 1))).cell 0,hM1.out,hM2.out];simp [lenOf];omega
theorem qW (n a b:Int) (w:World) :
  Calls prog 203 #[.int .i64 n,.int .i64 a,.int .i64 b] w fun e w'=>e= .returned (.bool (!(decide (a≤n)&&decide (n≤b))))∧w=w':=by
 by_cases h:n<a
 ·have h':decide (n<a)=true:=by simpa using h
  have h2:decide (a≤n)=false:=by simpa using h
  go_enter func203,ntmps203
  go_wp2
  go_ret;simp [h2]
 ·have h':decide (n<a)=false:=by simpa using h
  have h2:decide (a≤n)=true:=by simpa using h
  go_enter func203,ntmps203
  go_wp2
  go_ret;simp [];rw [Bool.eq_iff_iff];simp
theorem Nl (f b ev:Int) (w:World) :
  Calls prog 174 #[.agg #[.int .i64 f,.int .i64 b,.int .i64 ev]] w fun e w'=>e= .returned (.bool (j4 f b ev))∧Below w.heap.size w w':=by
 have hb0:=aV w (.cells #[.int .i64 f,.int .i64 b,.int .i64 ev] 23);have HO:=ae (fun (n a b:Int) W=>qW n a b W);obtain ⟨c1,hc1⟩:∃c,(!(decide (0≤f)&&decide (f≤16)))=c:=⟨_,rfl⟩;obtain ⟨c2,hc2⟩:∃c,(!(decide (0≤b)&&decide (b≤16)))=c:=⟨_,rfl⟩;obtain ⟨c3,hc3⟩:∃c,(!(decide (0≤ev)&&decide (ev≤1024)))=c:=⟨_,rfl⟩;have hR:Hid (j4 f b ev=(c1||(c2||c3))):=ae (by rw [←hc1,←hc2,←hc3];unfold j4;cases decide (0≤f) <;> cases decide (f≤16) <;> cases decide (0≤b) <;> cases decide (b≤16) <;> rfl);have H1:=ae (fun W=>qW f 0 16 W);have H2:=ae (fun W=>qW b 0 16 W);have H3:=ae (fun W=>qW ev 0 1024 W);rw [hc1] at H1;rw [hc2] at H2;rw [hc3] at H3;clear hc1 hc2 hc3;cases c1 with
 | true =>
  go_enter func174,ntmps174
  go_wp2_with (go_at_call 203;refine (H1.out _).mono ?_;rintro e w' ⟨rfl,rfl⟩)
  go_ret;exact ⟨dV (by rw [hR.out];rfl),hb0⟩
 | false =>
  cases c2 with
  | true =>
   go_enter func174,ntmps174
   go_wp2_with (go_at_call 203;first|(refine (H1.out _).mono ?_;clear H1;rintro e w' ⟨rfl,rfl⟩)|(refine (H2.out _).mono ?_;rintro e w' ⟨rfl,rfl⟩))
   go_ret;exact ⟨dV (by rw [hR.out];rfl),hb0⟩
  | false =>
   go_enter func174,ntmps174
   go_wp2_with (go_at_call 203;first|(refine (H1.out _).mono ?_;clear H1;rintro e w' ⟨rfl,rfl⟩)|(refine (H2.out _).mono ?_;clear H2;rintro e w' ⟨rfl,rfl⟩)|(refine (H3.out _).mono ?_;rintro e w' ⟨rfl,rfl⟩))
   go_ret;exact ⟨dV (by rw [hR.out];rfl),hb0⟩
theorem uw (pg n f b ev:Int) (w:World) :
  Calls prog 115 #[eQ pg n f b ev] w fun e w'=>e= .returned (.int .i64 (bN pg n f b ev))∧Below w.heap.size w w':=by
 obtain ⟨R,hR0⟩:∃R:Int,bN pg n f b ev=R:=⟨_,rfl⟩;rw [hR0];have hR:=ae hR0;clear hR0;have hb0:=aV w (.cells (bf pg n f b ev) 25);have k0:=ag.new w 25 (bf pg n f b ev);have hb1:=hb0.alloc hb0.size (.cells #[.int .i64 pg,.int .i64 n] 140);have k1:=k0.alloc (.cells #[.int .i64 pg,.int .i64 n] 140);have kS:=ag.new (w.alloc (.cells (bf pg n f b ev) 25)) 140 #[.int .i64 pg,.int .i64 n];rw [World.size_alloc] at kS;have HC:=ae (dx (some ⟨w.heap.size+1,0,none⟩) 1 1 [(pg,n)] _ rfl (by unfold maxLen;omega) (Nk kS));rw [Vj] at HC;by_cases hv:bB (pg,n)=true
 case neg =>
  rw [if_neg hv] at HC;have hE:Hid (R=7):=ae (by rw [←hR.out,bN,if_pos (.inl (by simpa using hv))]);clear hv hR;go_enter func115,ntmps115
  go_wp2_with (go_at_call 98;refine (HC.out).mono ?_;rintro e w1 ⟨rfl,hq⟩;have k2:=k1.call hq;have c2:=k2.cell)
  go_ret;exact ⟨bY hE.out.symm,hb1.trans (hq.mono hb1.size)⟩
 case pos =>
  rw [if_pos hv] at HC;have HW:=ae (fun W=>Nl f b ev W);cases hw:j4 f b ev with
  | true =>
   rw [hw] at HW;have hE:Hid (R=7):=ae (by rw [←hR.out,bN,if_pos (.inr hw)]);clear hv hR hw;go_enter func115,ntmps115
   go_wp2_with (first
    | (go_at_call 98;refine (HC.out).mono ?_;rintro e w1 ⟨rfl,hq⟩;have k2:=k1.call hq;have c2:=k2.cell)
    | (go_at_call 174;refine (HW.out _).mono ?_;rintro e w3 ⟨rfl,hq3⟩))
   go_ret;have hb2:=hb1.trans (hq.mono hb1.size);exact ⟨bY hE.out.symm,hb2.trans (hq3.mono hb2.size)⟩
  | false =>
   rw [hw] at HW;have hE:Hid (R=if n≤f+b then 4 else 0):=ae (by rw [←hR.out,bN,if_neg (by simp [hv,hw])]);have hv':=av.1 hv;have hw':=uu.1 hw;dsimp only at hv';clear hv hR hw;by_cases hn:n≤f+b
   ·have hn':decide (n≤f+b)=true:=by simpa using hn
    rw [if_pos hn] at hE;clear hn;go_enter func115,ntmps115
    go_wp2_with (first
     | (go_at_call 98;refine (HC.out).mono ?_;rintro e w1 ⟨rfl,hq⟩;have k2:=k1.call hq;have c2:=k2.cell)
     | (go_at_call 174;refine (HW.out _).mono ?_;rintro e w3 ⟨rfl,hq3⟩;have k3:=k2.call hq3;have c3:=k3.cell))
    go_ret;have hb2:=hb1.trans (hq.mono hb1.size);exact ⟨bY hE.out.symm,hb2.trans (hq3.mono hb2.size)⟩
   ·have hn':decide (n≤f+b)=false:=by simpa using hn
    rw [if_neg hn] at hE;clear hn;go_enter func115,ntmps115
    go_wp2_with (first
     | (go_at_call 98;refine (HC.out).mono ?_;rintro e w1 ⟨rfl,hq⟩;have k2:=k1.call hq;have c2:=k2.cell)
     | (go_at_call 174;refine (HW.out _).mono ?_;rintro e w3 ⟨rfl,hq3⟩;have k3:=k2.call hq3;have c3:=k3.cell))
    go_ret;have hb2:=hb1.trans (hq.mono hb1.size);exact ⟨bY hE.out.symm,hb2.trans (hq3.mono hb2.size)⟩
end Go.Proofs.YtjmmgoijnhnnaaaGreat
