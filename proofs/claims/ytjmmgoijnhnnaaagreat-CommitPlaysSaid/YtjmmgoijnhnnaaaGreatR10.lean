/- Words for memory that all walks of this seat share: a slice that reads as a list of integers or of structs of integers; how such readings are carried into world. -/
import Derived.Below
import Derived.Laws.OwnMore
import Derived.Laws.MakeOwn
import Derived.Laws.CopyOwn
import Derived.Deep.RegionLaw
import Derived.Deep.AppendLies
import Derived.Deep.Draws
import Derived.Deep.QuietTactic
import Derived.BigQuiet
import Derived.Lib.Hide
import Derived.WalkKit
import Derived.WalkSpells
import Derived.WalkLawsBesides
import Derived.Maps.AppendAt
import Derived.StillTailTactics
import Derived.Deep.RegionHeld3
import Derived.Deep.DeepCutAuto
import Derived.Deep.DeepFit
import Derived.ChangeSame
import Derived.Deep.Slices
import Derived.Deep.Fields
import Derived.Lib.SmallJoins
import Derived.OpenShut
import Derived.ProofKit
import Derived.OpenVars
import Derived.JoinedOf
import Derived.RangeFuncNested
import Derived.RangeFuncBound
import Derived.RangeFuncCalls
import Derived.RangeFuncLeaves
import Derived.OwnWalkIn
import Derived.TacticsInMore
import Derived.LoopNIn
import Derived.LoopIn
import Derived.Test.YtjmmgoijnhnnaaaGreatChecked
import Derived.Laws.StructEq
import Derived.Sort.CutIn
import Derived.Shelf.Abstract
import Derived.OrdersHeld
import Derived.Lib.BitFns
import Derived.Lib.Strings
import Derived.Lib.Small
import Derived.Lib.Walk
import Derived.Deep.MidRow
import Derived.OrdersIn
import Derived.Laws.AppendOwn
import Derived.DeepKeys
import Derived.Test.YtjmmgoijnhnnaaaGreatR9
set_option maxRecDepth 100000
set_option maxHeartbeats 12800000
namespace Go.Pol
open Go Go.RowKit Go.Proofs.Tryz
section
variable {P:Program} {Q:Exit→Act→World→Prop}
def pG:List Oper→Nat→Bool
 | [],_=>true
 | o::r,k=>o.after.all (fun e=>!Region.binds .any e||decide (e.on<k))&&pG r (k+1)
theorem vv:∀(l:List Oper) (k:Nat),pG l k=true→∀i o,l[i]? = some o→∀e∈o.after,Region.binds .any e=true→e.on<k+i
 | [],_,_,_,_,h=>by simp at h
 | o::r,k,h,i,o',hi=>by
  simp only [pG,Bool.and_eq_true] at h;cases i with
  | zero =>
   simp at hi;subst hi;intro e he hb;have:=Array.all_eq_true'.1 h.1 e he;simpa [hb] using this
  | succ i =>
   intro e he hb;have:=vv r (k+1) h.2 i o' (by simpa using hi) e he hb;omega
theorem JJ {l:List Oper} {Inv:(Nat→Bool)→Act→World→Prop} (hB:pG l 0=true) (hs:rT P l.toArray Q Inv l 0)
  (UM:∀D D' a w,(∀i,i<l.length→D i=D' i)→Inv D a w→Inv D' a w)
  (he:∀a w,Inv (fun _=>true) a w→Q .normal a w):∀(fuel:Nat) (listed:Array Bool) (a:Act) (w:World),listed.size=l.length→(l.length≤fuel+(listed.toList.filter id).length) →
   Inv (fun i=>listed.getD i true) a w→wpAny P .any l.toArray Q fuel listed a w:=by
 have hnil:∀(listed:Array Bool) (a:Act) (w:World),listed.size=l.length→Inv (fun i=>listed.getD i true) a w→Region.ready .any l.toArray listed=[]→Q .normal a w:=by
  intro listed a w hsz hi hr;refine he a w (UM _ _ a w (fun i hil=>?_) hi)
  -- the least place that is not listed would be ready
  have hmin:∀i,i<l.length→listed.getD i true=true:=by
   intro i;induction i using Nat.strongRecOn with
   | _ i ih =>
    intro hil;cases hb:listed.getD i true with
    | true=>rfl
    | false =>
     exfalso;obtain ⟨o,ho⟩:∃o,l[i]? = some o:=⟨l[i],List.getElem?_eq_getElem hil⟩;have:i∈Region.ready .any l.toArray listed:=mem_ready.2 ⟨hb,o,by simpa using ho,fun e hem hbind=>by
      have hlt:=vv l 0 hB i o ho e hem hbind;have h1:=ih e.on (by omega) (by omega);have h2:e.on<listed.size:=by omega
      simp [h2] at h1 ⊢;exact h1⟩
     rw [hr] at this;cases this
  exact hmin i hil
 intro fuel;induction fuel with
 | zero =>
  intro listed a w hsz hf hi;have hall:Region.ready .any l.toArray listed=[]:=by
   cases hr:Region.ready .any l.toArray listed with
   | nil=>rfl
   | cons i rs =>
    exfalso;have hmem:i∈Region.ready .any l.toArray listed:=by rw [hr];simp
    obtain ⟨hun,o,ho,_⟩:=mem_ready.1 hmem;have hil:i<l.length:=by have:=(Array.getElem?_eq_some_iff.1 ho).1;simpa using this
    have hlen:=List.length_filter_lt_length_iff_exists (p:=(id:Bool→Bool)) (l:=listed.toList) |>.2 ⟨listed.getD i true,by
     have:i<listed.size:=by omega
     simp [this],by simp [hun]⟩
    have:listed.toList.length=l.length:=by simpa using hsz
    omega
  exact ⟨hall,hnil listed a w hsz hi hall⟩
 | succ fuel ih =>
  intro listed a w hsz hf hi;refine ⟨hnil listed a w hsz hi,fun i hmem=>?_⟩;obtain ⟨hun,o,ho,hall⟩:=mem_ready.1 hmem;have hil:i<l.length:=by have:=(Array.getElem?_eq_some_iff.1 ho).1;simpa using this
  have hst:=rT.at_ l 0 hs i o (by simpa using ho) (fun i=>listed.getD i true) a w hi (by simpa using hun) (fun e hem hbind=>by
   have h1:=hall e hem hbind;have h2:e.on<listed.size:=by have:=vv l 0 hB i o (by simpa using ho) e hem hbind;omega
   simp [h2] at h1 ⊢;exact h1)
  rw [Nat.zero_add] at hst;have hnext:∀a' w',Inv (fun j=>j==i||listed.getD j true) a' w'→wpAny P .any l.toArray Q fuel (listed.setIfInBounds i true) a' w':=by
   intro a' w' h';refine ih _ a' w' (by simpa using hsz) ?_ (UM _ _ a' w' (fun j hj=>?_) h')
   ·have hc:((listed.setIfInBounds i true).toList.filter id).length=(listed.toList.filter id).length+1:=by
     have hi':i<listed.toList.length:=by simp;omega
     have hf':listed.toList[i]=false:=by
      have:i<listed.size:=by omega
      simp [this] at hun;simpa using hun
     rw [Array.toList_setIfInBounds];have e1:=List.take_append_drop i listed.toList;have e2:listed.toList.drop i=false::listed.toList.drop (i+1):=by rw [List.drop_eq_getElem_cons hi',hf']
     have e3:listed.toList.set i true=listed.toList.take i++true::listed.toList.drop (i+1):=by
      rw [List.set_eq_take_append_cons_drop,if_pos hi']
     rw [e3]
     conv=>rhs;rw [←e1,e2]
     simp;omega
    omega
   ·by_cases hji:j=i
    ·subst hji
     have:j<listed.size:=by omega
     simp [this]
    ·have:j<listed.size:=by omega
     simp [hji,this,Ne.symm hji]
  unfold wpOp;rw [ho];show if Region.wanted o (yielded l.toArray a.tmps)=true then _ else _
  split
  ·rename_i hw
   rw [if_pos hw] at hst;exact .inl (Oper.wp_mono hnext hst)
  ·rename_i hw
   rw [if_neg hw] at hst;exact hnext _ _ hst
theorem OZ {id:Nat} {a:Act} {w:World} {l:List Oper} (Inv:(Nat→Bool)→Act→World→Prop) (hm:P.follows .mixedOrders=true) (hB:pG l 0=true)
  (UM:∀D D' a w,(∀i,i<l.length→D i=D' i)→Inv D a w→Inv D' a w)
  (h0:∀D,(∀i,i<l.length→D i=false)→Inv D a { w with drawn:=w.drawn+1 }) (hs:rT P l.toArray Q Inv l 0) (he:∀a w,Inv (fun _=>true) a w→Q .normal a w):(Code.region id l.toArray true).wp P Q a w:=by
 refine wp_region_any hm (JJ hB hs UM he _ _ _ _ (by simp) (by simp) (h0 _ (fun i hi=>?_)));have:i<(Array.replicate l.toArray.size false).size:=by simpa using hi
 simp [hi]
end
theorem Can.og {s:List Sp} (h:Can s) (f:Nat→Bool) (hf:∀p:Nat,p<1024→f p=mem p s):s=iX f:=by
 refine h.eq (Da f) fun p=>?_
 rw [Bool.eq_iff_iff,Db];constructor
 ·intro hp
  have:=h.range hp;refine ⟨this,?_⟩;rw [hf _ (by omega),Int.toNat_of_nonneg this.1];exact hp
 ·rintro ⟨h1,h2⟩
  rw [hf _ (by omega),Int.toNat_of_nonneg h1.1] at h2;exact h2
def sS (pg n f b ev page:Int):Int :=
 if page - pg<0∨n≤page - pg then 4 else if page - pg<f then 1 else if n - b≤page - pg then 2 else if 0<ev∧(page - pg - f+1) % (ev+1)=0 then 3 else 0
section
variable {pg n f b ev:Int}
theorem Ex (hp:dS pg n f b ev) (q:Int):sS pg n f b ev q=0↔mem q (aA pg n f b ev)=true:=by
 obtain ⟨a1,a2,a3,a4,a5,a6,a7,a8,a9,a10,a11⟩:=hp;rw [(vH ⟨a1,a2,a3,a4,a5,a6,a7,a8,a9,a10,a11⟩).2.2 q];unfold sS;by_cases h1:q - pg<0∨n≤q - pg
 ·rw [if_pos h1];constructor
  ·intro h;cases h
  ·rintro ⟨h,_⟩;omega
 rw [if_neg h1];by_cases h2:q - pg<f
 ·rw [if_pos h2];constructor
  ·intro h;cases h
  ·rintro ⟨h,_⟩;omega
 rw [if_neg h2];by_cases h3:n - b≤q - pg
 ·rw [if_pos h3];constructor
  ·intro h;cases h
  ·rintro ⟨h,_⟩;omega
 rw [if_neg h3,show q - (pg+f)+1=q - pg - f+1 by omega];by_cases h0:ev=0
 ·subst h0
  rw [if_neg (by omega),if_pos rfl];have:(q - pg - f+1) % (1024+1)=q - pg - f+1:=Int.emod_eq_of_lt (by omega) (by omega);rw [this];omega
 ·rw [if_neg h0]
  by_cases h4:(q - pg - f+1) % (ev+1)=0
  ·rw [if_pos ⟨by omega,h4⟩];constructor
   ·intro h;cases h
   ·rintro ⟨_,h⟩;exact absurd h4 h
  ·rw [if_neg (fun h=>h4 h.2)]
   exact ⟨fun _=>⟨by omega,h4⟩,fun _=>rfl⟩
end
theorem xm:∀(s:List Sp) (e:Int) (m:Int),(∀x∈s,1≤x.2∧x.1+x.2≤m)→aW e s=true→e≤m→(s.length:Int)≤m - e
 | [],e,m,_,_,h=>by simp;omega
 | x::r,e,m,hw,hf,_=>by
  have hf':=aJ.1 hf;have hx:=hw x (by simp);have:=xm r (x.1+x.2) m (fun y hy=>hw y (by simp [hy])) hf'.2 hx.2;simp only [List.length_cons];omega
theorem Mw (x:Sp) (j:Nat):gJ x (j+1)=gJ x j++[x.1+(j:Int)]:=by simp [gJ,List.range_succ]
theorem Mx:bR []=[]:=rfl
theorem E9 (l r:List Sp):bR (l++r)=bR l++bR r:=by simp [bR]
theorem zt {a:Int}:∀u∈[Value.int .i64 a],u.oneCell'=true:=by
 intro u hu;simp only [List.mem_cons,List.not_mem_nil,or_false] at hu;subst hu;rfl
theorem Fu {w:World} {g:Nat} {t:TypeId} {a:Int} (h:ag w g t #[.int .i64 a]):∀(j:Nat) (u:Value),[Value.int .i64 a][j]? = some u→w.cell? ((⟨g,0,none⟩:Addr).add j)=some u:=by
 intro j u hu;rw [dh,Nat.zero_add,h.cell];simpa using hu
theorem O1 {w:World} {base:Nat} {e:TypeId} {v:Value} {n:Nat} {xs:List Int} (h:w.ownsRow base e 1 v n (xs.map (Value.int .i64))) (hn:xs.length=n):∃(A:Option Addr) (cap:Nat),v= .slice A n cap∧RI w w.heap.size A xs:=by
 have hv:=h;rcases h.2 with ⟨rfl,h0⟩|⟨g,cap,cur,rfl,hg,hk,_⟩
 ·subst h0
  obtain rfl:xs=[]:=List.eq_nil_of_length_eq_zero hn;exact ⟨none,0,rfl,RI.nil⟩
 ·refine ⟨_,cap,rfl,fun k hk'=>?_⟩
  have hk2:k<xs.length:=by simpa using hk'
  have hc:=hv.cellAt k (by omega);refine ⟨g,0,rfl,ag.lt hk,?_⟩;rw [Nat.zero_add,hc];exact List.getElem?_eq_getElem hk'
theorem ed {w:World} {g:Nat} {t:TypeId} {cs:Array Value} (h:ag w g t cs):w.rangeAt g 0 cs.toList:=fun j v hj=>by
 rw [Nat.zero_add,h.cell];simpa using hj
def yO (pg n f b ev:Int) (us:Bool) (j:Nat) (q:Nat):Bool:=decide (pg≤(q:Int)∧(q:Int)<pg+j)&&((sS pg n f b ev q==0)==us)
section
variable {pg n f b ev:Int}
theorem Sb (hp:dS pg n f b ev):iX (yO pg n f b ev true n.toNat)=aA pg n f b ev:=by
 refine ((bL hp).og _ fun p hp2=>?_).symm;have h:=Ex hp (p:Int);have hr:=(vH hp).2.2 (p:Int);have a1:=hp.f0;have a2:=hp.b0;have a3:=hp.n0;rw [Bool.eq_iff_iff];simp only [yO,Bool.and_eq_true,decide_eq_true_eq,beq_iff_eq];rw [←h];constructor
 ·rintro ⟨_,h2⟩;simpa using h2
 ·intro h2
  have:=hr.1 (h.1 h2);refine ⟨by omega,by simpa using h2⟩
end
def Zb {α:Type} (D:Nat) (K X:Nat→Prop) (I:(Nat→Prop)→List α→World→Prop) (Ix:Code→(Nat→Prop)→List α→World→Prop) (xs:List α) (W:World):Exit→Act→World→Prop
 | .normal,_,W'=>af (fun k=>¬(K k∨X k∨k=D∨k=D+1)) W W'∧I X xs W'
 | .ret,_,W'=>af (fun k=>¬(k=D∨k=D+1)) W W'∧Ix .ret X xs W'
 | .exit id,_,W'=>af (fun k=>¬(k=D∨k=D+1)) W W'∧Ix (.exit id) X xs W'
 | .goto t,_,W'=>af (fun k=>¬(k=D∨k=D+1)) W W'∧Ix (.goto t) X xs W'
 | .panic _,_,_=>False
 | .outgrown,_,_=>False
theorem abB {α:Type} {P:Program} {g:Operand} {ps:Array Tmp} {assign body:Code} {Q:Exit→Act→World→Prop} {a:Act} {w:World}
  {gf:Nat} {lb:Array Value} (hg:a.eval g= .func (.func gf) #[] lb) (eg:∀args w,(callFunc gf args).run P w= .ok (.enter gf args) w)
  {encs:α→Array Value} {T K:Nat→Prop} {xs:List α} (hseq:D6 P gf lb encs T K xs w) (hps:∀x,(encs x).size=ps.size)
  (hT:∀k,T k→k<w.heap.size) (hK:∀k,K k→k<w.heap.size)
  (I:(Nat→Prop)→List α→World→Prop) (Ix:Code→(Nat→Prop)→List α→World→Prop)
  (hI:∀X pre A B,I X pre A→af (fun k=>T k∨X k∨k=w.heap.size∨k=w.heap.size+1) A B→I X pre B)
  (hIx:∀c X pre A B,Ix c X pre A→af (fun k=>T k∨X k∨k=w.heap.size∨k=w.heap.size+1) A B→Ix c X pre B)
  (hnew:∀X X' pre A,I X pre A→(∀k,X' k→X k∨A.heap.size≤k)→I X' pre A)
  (h0:I (fun _=>False) [] w) (Ax:Nat→α→Act→World→Prop) (hAx:∀N x a' A B,Ax N x a' A→af (fun k=>k=w.heap.size+1) A B→Ax N x a' B)
  (hassign:∀(m l:Nat) (x:α) (W:World) (C:Act→World→Prop),w.heap.size+2≤W.heap.size→(∀a' W',af (fun _=>False) W W'→Ax W.heap.size x a' W'→C a' W') →
   assign.wpIn (Fence.wide.inRound l) m P (Exit.then C (fun _ _ _=>False)) { tmps:=(ps.zip (encs x)).foldl (fun t (p,v)=>t.setIfInBounds p v) a.tmps,defers:=[] } W)
  (hbody:∀(m l:Nat) (X:Nat→Prop) (pre:List α) (x:α) (a':Act) (Wa W:World),w.heap.size+2≤W.heap.size→(∀k,X k→k<Wa.heap.size∧k≠w.heap.size∧k≠w.heap.size+1)→I X pre W→Ax Wa.heap.size x a' W→pre++[x] <+: xs→I X pre Wa→af (fun k=>k=w.heap.size+1) Wa W →
   body.wpIn (Fence.wide.inRound l) m P (Zb w.heap.size K X I Ix (pre++[x]) W) a' W)
  (hdone:∀(X:Nat→Prop) (W:World),w.heap.size+2≤W.heap.size→I X xs W→W.heap[w.heap.size]? = some (.deferred (some []))→Q .normal { a with defers:=eX w.heap.size::a.defers } W)
  (hstop:∀(c:Code) (X:Nat→Prop) (pre:List α) (W:World),w.heap.size+2≤W.heap.size→pre <+: xs→Ix c X pre W→W.heap[w.heap.size]? = some (.deferred (some []))→c.wp P Q { a with defers:=eX w.heap.size::a.defers } W) :
  (Code.rangeFunc g ps assign body).wp P Q a w:=by
 refine (wpIn_wide (n:=0)).1 (wpIn_rangeFunc fun fn _=>?_);obtain ⟨D,hD⟩:=aj (w.heap.size)
 -- the loop's record, in its three states
 obtain ⟨rec,hrec⟩:∃rec:LoopState→Option Code→Loop,rec=fun s p=>{ state:=s,pending:=p,fn,tmps:=a.tmps,params:=ps,assign,body,defers:=D }:=⟨_,rfl⟩
 obtain ⟨W1,hW1⟩:=aj ((w.alloc (.deferred (some []))).alloc (.loop (rec .ready none)));have hent:(Instr.enterLoop fn a.tmps ps assign body none).run P w= .ok (D+1,[eX D]) W1:=by
  rw [←hW1,hrec,←hD];exact run_enterLoop_outer _ _ _ _ _
 have nE:af (fun _=>False) w W1:=by rw [←hW1];exact ((af.refl _ w).alloc _).alloc _
 have hl1:W1.heap[D+1]? = some (.loop (rec .ready none)):=by
  rw [←hW1,←hD];have:=World.alloc_heap_new (w.alloc (.deferred (some []))) (.loop (rec .ready none))
  rwa [World.size_alloc] at this
 have hd1:W1.heap[D]? = some (.deferred (some [])):=by
  rw [←hW1,←hD];exact (Below.heap_alloc _ _ _ (by simp)).trans (World.alloc_heap_new w _)
 rw [hD] at hT hK hI hIx hAx hassign hbody hdone hstop;refine ⟨D+1,[eX D],W1,{ target:=.fn (.func gf) lb,args:=#[.func (.yield (D+1)) #[] #[]] },W1,gf,#[.func (.yield (D+1)) #[] #[]]++lb,W1,hent,?_,fun _ _=>trivial,?_,fun h=>(by cases h),?_⟩
 ·simp only [resolve,hg]
  simp [go_sem]
 ·simp [invoke,go_sem,eg]
 -- what the iterator carries: the loop's invariant, the record, the block for deferred calls
 let J:(Nat→Prop)→List α→World→Prop:=fun X pre W=>I X pre W∧W.heap[D+1]? = some (.loop (rec .ready none))∧W.heap[D]? = some (.deferred (some []))∧¬X D∧¬X (D+1)
 let Jx:(Nat→Prop)→List α→World→Prop:=fun X pre W=>∃c,Ix c X pre W∧W.heap[D+1]? = some (.loop (rec .done (some c)))∧W.heap[D]? = some (.deferred (some []))∧¬X D∧¬X (D+1)
 have BL:∀k,T k→k≠D∧k≠D+1:=fun k hk=>by have:=hT k hk;omega
 have Fw:∀k,K k→k≠D∧k≠D+1:=fun k hk=>by have:=hK k hk;omega
 have up:∀{X:Nat→Prop} {k:Nat},T k∨X k→T k∨X k∨k=D∨k=D+1:=fun h=>h.elim .inl (fun h=>.inr (.inl h))
 refine (hseq _ (D+1) J Jx W1 (nE.mono (fun _ _ h=>h.elim))
  (fun X pre A B h hf=>⟨hI X pre A B h.1 (hf.mono fun _ _ ht=>up ht),hf.same h.2.1 (fun h'=>h'.elim (fun h=>(BL _ h).2 rfl) h.2.2.2.2),hf.same h.2.2.1 (fun h'=>h'.elim (fun h=>(BL _ h).1 rfl) h.2.2.2.1),h.2.2.2⟩)
  (fun X pre A B h hf=>by
   obtain ⟨c,h1,h2,h3,h4,h5⟩:=h;exact ⟨c,hIx c X pre A B h1 (hf.mono fun _ _ ht=>up ht),hf.same h2 (fun h'=>h'.elim (fun h=>(BL _ h).2 rfl) h5),hf.same h3 (fun h'=>h'.elim (fun h=>(BL _ h).1 rfl) h4),h4,h5⟩)
  (fun X X' pre A h hX=>by
   have l1:D<A.heap.size:=(Array.getElem?_eq_some_iff.1 h.2.2.1).1;have l2:D+1<A.heap.size:=(Array.getElem?_eq_some_iff.1 h.2.1).1;exact ⟨hnew X X' pre A h.1 hX,h.2.1,h.2.2.1,fun hd=>(hX _ hd).elim h.2.2.2.1 (fun h=>by omega),fun hd=>(hX _ hd).elim h.2.2.2.2 (fun h=>by omega)⟩)
  ?_ ⟨hI _ [] w W1 h0 (nE.mono fun _ _ h=>h.elim),hl1,hd1,id,id⟩).mono ?_
 ·-- a round
  rintro m X pre x Wa ⟨hi,hl,hd,Zc,Sc⟩ hXlt hpre;have hlt:D+1<Wa.heap.size:=(Array.getElem?_eq_some_iff.1 hl).1;have hy:=run_yield (P:=P) (args:=encs x) hl (by rw [hrec];exact hps x);rw [hrec] at hy;refine ⟨fn,_,assign,body,hy,roundIn_of_wpIn trivial (hassign m (D+1) x Wa _ (by omega) fun a' Wb hab hax=>?_)⟩;have hlb:=hab.same hl id;have QB:=hab.same hd id;have hib:=hI X pre Wa Wb hi (hab.mono fun _ _ h=>h.elim);have Fz:D+1<Wb.heap.size:=(Array.getElem?_eq_some_iff.1 hlb).1;refine ⟨_,run_beginRound hlb (by rw [hrec]),?_⟩;obtain ⟨Wc,hWc⟩:=aj (Wb.putObj (D+1) (.loop { rec .ready none with state:=.busy }));rw [hWc];have hbc:af (fun k=>k=D+1) Wb Wc:=by rw [←hWc];exact af.putObj (T:=fun k=>k=D+1) (af.refl _ Wb) (fun _=>rfl) _
  have hlc:Wc.heap[D+1]? = some (.loop { rec .ready none with state:=.busy }):=by rw [←hWc];exact World.putObj_heap_same Fz
  have Nc:Wc.heap[D]? = some (.deferred (some [])):=hbc.same QB (by omega);have Xm:D+1<Wc.heap.size:=(Array.getElem?_eq_some_iff.1 hlc).1;refine wpIn_mono (hbody m (D+1) X pre x a' Wa Wc (by omega) (fun k hk=>⟨hXlt k hk,fun h=>Zc (h ▸ hk),fun h=>Sc (h ▸ hk)⟩) (hI X pre Wb Wc hib (hbc.mono fun _ _ h=>.inr (.inr (.inr h)))) (hAx _ x a' Wb Wc hax hbc) hpre hi ((hab.mono fun _ _ h=>h.elim:af (fun k=>k=D+1) Wa Wb).trans hbc)) ?_
  -- what 'endRound' makes of it
  have fin:∀(j:Option Code) (Wd:World),af (fun k=>¬(k=D∨k=D+1)) Wc Wd →
    (Instr.endRound (D+1) j).run P Wd= .ok (.bool j.isNone) (Wd.putObj (D+1) (.loop (rec (if j.isNone then .ready else .done) j))) ∧
    (Wd.putObj (D+1) (.loop (rec (if j.isNone then .ready else .done) j))).heap[D+1]? = some (.loop (rec (if j.isNone then .ready else .done) j)) ∧
    (Wd.putObj (D+1) (.loop (rec (if j.isNone then .ready else .done) j))).heap[D]? = some (.deferred (some [])):=fun j Wd hcd=>by
   have hld:=hcd.same hlc (fun h=>h (.inr rfl));have he:=run_endRound (P:=P) j hld;rw [hrec] at he ⊢;exact ⟨he,World.putObj_heap_same (Array.getElem?_eq_some_iff.1 hld).1,(World.putObj_heap_other (by omega)).trans (hcd.same Nc (fun h=>h (.inl rfl)))⟩
  have back:∀(Y:Nat→Prop) (o:Obj) (Wd:World),af (fun k=>T k∨Y k∨k=D∨k=D+1) Wd (Wd.putObj (D+1) o):=fun Y o Wd=>(af.refl _ Wd).putObj (fun _=>.inr (.inr (.inr rfl))) o
  intro e a3 Wd hp;cases e with
  | normal =>
   obtain ⟨hcd,hid⟩:=hp;obtain ⟨h1,h2,h3⟩:=fin none Wd (hcd.mono fun k _ h h'=>h (.inr (.inr h')));refine ⟨_,_,h1,.inl ⟨rfl,⟨hI _ _ _ _ hid (back _ _ Wd),h2,h3,Zc,Sc⟩,?_⟩⟩;refine (((hab.mono fun _ _ h=>h.elim:af (fun k=>¬(K k∨X k)) Wa Wb).trans (hbc.mono fun k _ h hk=>hk.elim (fun hk=>(Fw k hk).2 h) (fun hk=>Sc (h ▸ hk)))).trans (hcd.mono fun k _ h hk=>h (hk.elim .inl (fun h=>.inr (.inl h))))).putObj (fun _ hk=>hk.elim (fun hk=>(Fw _ hk).2 rfl) Sc) _
  | ret =>
   obtain ⟨hcd,hid⟩:=hp;obtain ⟨h1,h2,h3⟩:=fin (some .ret) Wd hcd;exact ⟨_,_,h1,.inr ⟨rfl,.ret,hIx _ _ _ _ _ hid (back _ _ Wd),h2,h3,Zc,Sc⟩⟩
  | exit id =>
   obtain ⟨hcd,hid⟩:=hp;obtain ⟨h1,h2,h3⟩:=fin (some (.exit id)) Wd hcd;exact ⟨_,_,h1,.inr ⟨rfl,.exit id,hIx _ _ _ _ _ hid (back _ _ Wd),h2,h3,Zc,Sc⟩⟩
  | goto t =>
   obtain ⟨hcd,hid⟩:=hp;obtain ⟨h1,h2,h3⟩:=fin (some (.goto t)) Wd hcd;exact ⟨_,_,h1,.inr ⟨rfl,.goto t,hIx _ _ _ _ _ hid (back _ _ Wd),h2,h3,Zc,Sc⟩⟩
  | panic ch=>exact hp.elim
  | outgrown=>exact hp.elim
 ·-- behind the iterator
  have back:∀(Y:Nat→Prop) (o:Obj) (Wd:World),af (fun k=>T k∨Y k∨k=D∨k=D+1) Wd (Wd.putObj (D+1) o):=fun Y o Wd=>(af.refl _ Wd).putObj (fun _=>.inr (.inr (.inr rfl))) o
  rintro e W2 ⟨⟨v,rfl⟩,h2⟩;rcases h2 with ⟨X,hi,hl,hd,_⟩|⟨X,pre,hpre,c,hi,hl,hd,_⟩
  ·have he:=run_endLoop (P:=P) hl (by rw [hrec];simp)
   rw [hrec] at he;have hlt:D+1<W2.heap.size:=(Array.getElem?_eq_some_iff.1 hl).1;exact ⟨none,_,he,hdone _ _ (by rw [World.putObj_size];omega) (hI _ _ _ _ hi (back _ _ W2)) ((World.putObj_heap_other (by omega)).trans hd)⟩
  ·have he:=run_endLoop (P:=P) hl (by rw [hrec];simp)
   rw [hrec] at he;have hlt:D+1<W2.heap.size:=(Array.getElem?_eq_some_iff.1 hl).1;exact ⟨some c,_,he,(wpIn_wide (n:=0)).2 (hstop c _ pre _ (by rw [World.putObj_size];omega) hpre (hIx _ _ _ _ _ hi (back _ _ W2)) ((World.putObj_heap_other (by omega)).trans hd))⟩
section
variable {P:Program} (w:World)
theorem JL (base:Nat) (t ty e:TypeId) (i:TypeInfo) (z:Value) (size bytes:Nat) (ht:P.underlying t=some (.slice e)) (hi:P.info? e=some i) (hz:i.zero=some z)
  (hsize:i.size=size) (hby:i.bytes=bytes) (hzs:z.cells.size=size) (hsz:0<size)
  (v:Value) (n:Nat) (xs:List Value) (hown:w.ownsRow base e size v n xs)
  (a:Addr) (m c:Nat) (news:List Value) (hl:news.length=m*size) (hnews:∀j u,news[j]? = some u→w.cell? (a.add j)=some u) (h1:∀u∈news,u.oneCell'=true)
  (h63:n+m≤maxLen) (hbytes:(n+m)*bytes≤140737488355328) (hbase:base≤w.heap.size) :
  ∃v' w',(Builtin.append_ #[t,t] ty #[v,.slice (some a) m c]).run P w= .ok v' w'∧w'.ownsRow base e size v' (n+m) (xs++news)∧w.grownBy w' v.ownBlock ∧
   ∀g,v'.ownBlock=some g→v.ownBlock=some g∨w.heap.size≤g:=by
 obtain ⟨v',w',hr,r1,r2,_⟩:=run_append_own (P:=P) w base t ty e i z size bytes ht hi hz hsize hby hzs hsz v n xs hown a m c news hl hnews h1 h63 hbytes hbase;refine ⟨v',w',hr,r1,r2,fun g' hg'=>?_⟩;have hsmall:n+m≤9223372036854775807:=by simp only [maxLen] at h63;omega
 rcases hown.2 with ⟨hv,h0⟩|⟨g,cap,cur,hv,hbg,hg,hnc,hcm,hcs,htake⟩
 ·subst h0
  have hx:xs=[]:=List.eq_nil_of_length_eq_zero (by simpa using hown.1);have hown2:w.ownsRow w.heap.size e size v 0 xs:=by rw [hv,hx];exact World.ownsRow_nil _ _ _ _
  obtain ⟨v2,w2,hr2,s1,_,_⟩:=run_append_own (P:=P) w w.heap.size t ty e i z size bytes ht hi hz hsize hby hzs hsz v 0 xs hown2 a m c news hl hnews h1 h63 hbytes (Nat.le_refl _);rw [hr] at hr2
  injection hr2 with e1 e2
  subst e1;subst e2;exact .inr (s1.lt g' hg').1
 ·subst hsize
  subst hby
  subst hv;by_cases hroom:n+m≤cap
  ·have hfit:n*i.size+news.length≤cur.size:=by rw [hl,hcs,←Nat.add_mul];exact Nat.mul_le_mul_right _ hroom
   have hr2:=run_append_room (P:=P) w t ty e i ht hi g n cap cur hg a m c news hl hnews h1 hroom hfit;rw [hr] at hr2
   injection hr2 with e1 e2
   subst e1;exact .inl hg'
  ·have holds:∀j u,xs[j]? = some u→w.cell? ((⟨g,0,none⟩:Addr).add j)=some u:=hown.cells (g:=g) rfl
   have hr2:=run_append_grow (P:=P) w t ty e i z ht hi hz ⟨g,0,none⟩ n cap xs hown.1 holds a m c news hl hnews (by omega) (by omega) (growslice_fits (by omega) hbytes);rw [hr] at hr2
   injection hr2 with e1 e2
   subst e1;simp only [Value.ownBlock,Option.some.injEq] at hg';exact .inr (by omega)
end
theorem BB {F:Fence} {n:Nat} {P:Program} (w:World) {ops:Array Oper} {rest:List Oper} {o:Oper} {a:Act} {Q:Exit→Act→World→Prop}
  (hg:o.guard=none) (s x:Operand) (t:TypeId) (hop:o.op=Op.call { callee:=Callee.builtin Builtin.append,args:=#[s,x],argTypes:=#[t,t] })
  (base:Nat) (e:TypeId) (i:TypeInfo) (z:Value) (size bytes:Nat) (h1:P.underlying t=some (.slice e)) (h2:P.info? e=some i) (h3:i.zero=some z) (h4:i.size=size) (h5:i.bytes=bytes) (h6:z.cells.size=size) (h7:0<size)
  (v:Value) (k:Nat) (xs:List Value) (hs:a.eval s=v) (hown:w.ownsRow base e size v k xs) (ad:Addr) (m c:Nat) (news:List Value) (hx:a.eval x= .slice (some ad) m c) (hn:news.length=m*size)
  (hc:∀j u,news[j]? = some u→w.cell? (ad.add j)=some u) (h1c:∀u∈news,u.oneCell'=true) (b1:k+m≤maxLen) (b2:(k+m)*bytes≤140737488355328) (b3:base≤w.heap.size)
  (hK:∀v' w',w'.ownsRow base e size v' (k+m) (xs++news)→w.grownBy w' v.ownBlock→(∀g,v'.ownBlock=some g→v.ownBlock=some g∨w.heap.size≤g)→wpListIn F n P ops Q rest (a.put o.dst v') w') :
  wpListIn F n P ops Q (o::rest) a w:=by
 refine wpListIn_plain hg fun K hK'=>?_
 obtain ⟨v',w',hrun,r1,r2,r3⟩:=JL (P:=P) w base t o.type e i z size bytes h1 h2 h3 h4 h5 h6 h7 v k xs hown ad m c news hn hc h1c b1 b2 b3;unfold Oper.wpIn;refine ⟨?_,?_⟩
 ·simp [Oper.about,hop,resolve,Target.leads,Sem.run_pure]
 ·rw [Oper.semAt_plain F _ _ (by rw [hop];intro c hc';cases hc')]
  simp [execOp,hop,resolve,invoke,builtin,hs,hx,hrun,Result.andThen];exact hK' _ _ (hK v' w' r1 r2 r3)
theorem jX.byte {cs:Array Value} {v:Value} {V:Vm} (h:jX cs v V) {p k:Nat} (hp:p<1024) (hk:k<64):cs[1+p*66+(k+2)]? = some (.int .u8 ((V.pg p).iJ k)):=by
 refine (h.page p hp (k+2) (by omega)).trans ?_;unfold uS;rw [List.getElem?_cons_succ,List.getElem?_cons_succ,List.getElem?_map,List.getElem?_range hk];rfl
theorem KT {l:List Ru} (h:(ic l).2=0):uC (LK l):=⟨h,fun k _=>⟨Int.le_refl _,(by show (0:Int)≤1000000;decide)⟩,fun k _=>rfl⟩
def xq (V:Vm) (a:Int):Int:=if a<0∨65536≤a then 7 else if (V.pg (a / 64).toNat).kind≠2 then 61 else 0
def Pg.mr (g:Pg) (k:Nat) (v:Int):Pg:={ g with iJ:=fun j=>if j=k then v else g.iJ j }
def om (V:Vm) (a:Int) (v:Int):Vm:=if xq V a=0 then V.iY (a / 64).toNat ((V.pg (a / 64).toNat).mr (a % 64).toNat v) else V
theorem jX.Hy {cs:Array Value} {v:Value} {V:Vm} (h:jX cs v V) {p k:Nat} (hp:p<1024) (hk:k<64) (x:Int):jX (cs.setIfInBounds (1+p*66+2+k) (.int .u8 x)) v (V.iY p ((V.pg p).mr k x)):=by
 have hs:=h.size;have hg:∀i,(cs.setIfInBounds (1+p*66+2+k) (.int .u8 x))[i]? = if 1+p*66+2+k=i then some (.int .u8 x) else cs[i]? := fun i=>by
  rw [Array.getElem?_setIfInBounds];by_cases e:1+p*66+2+k=i
  ·rw [if_pos e,if_pos e,if_pos (by omega)]
  ·rw [if_neg e,if_neg e]
 refine ⟨by simp [hs],?_,fun q hq i hi=>?_,fun i hi=>?_⟩
 ·rw [hg,if_neg (by omega)];exact h.made
 ·rw [hg]
  by_cases e:q=p
  ·subst e
   have xS:(V.iY q ((V.pg q).mr k x)).pg q=(V.pg q).mr k x:=by simp [Vm.iY]
   rw [xS]
   match i with
   | 0=>rw [if_neg (by omega),h.page q hq 0 hi];rfl
   | 1=>rw [if_neg (by omega),h.page q hq 1 hi];rfl
   | j+2 =>
    have hj:j<64:=by omega
    have e2:∀g:Pg,(uS g)[j+2]? = some (.int .u8 (g.iJ j)):=fun g=>by
     unfold uS;simp [hj]
    rw [e2];by_cases e1:j=k
    ·subst e1
     rw [if_pos (by omega)];simp [Pg.mr]
    ·rw [if_neg (by omega),h.page q hq (j+2) hi,e2]
     simp [Pg.mr,e1]
  ·rw [if_neg (by omega),h.page q hq i hi]
   simp [Vm.iY,e]
 ·rw [hg,if_neg (by omega)];exact h.rf i hi
theorem aD.Hy {w:World} {b:Nat} {V:Vm} (h:aD w b V) {p k:Nat} (hp:p<1024) (hk:k<64) (x:Int):aD (w.setCell ⟨b,1+p*66+2+k,none⟩ (.int .u8 x)) b (V.iY p ((V.pg p).mr k x))∧af (fun k=>k=b) w (w.setCell ⟨b,1+p*66+2+k,none⟩ (.int .u8 x)):=by
 obtain ⟨cs,A,n,cap,h1,h2,h3,h4,h5,h6,h7,h8⟩:=h.ex;have hF:af (fun k=>k=b) w (w.setCell ⟨b,1+p*66+2+k,none⟩ (.int .u8 x)):=af.setCell (T:=fun k=>k=b) (p:=⟨b,1+p*66+2+k,none⟩) (af.refl _ _) (fun _=>rfl) _;exact ⟨⟨_,A,n,cap,h1.aO _ _,h2.Hy hp hk x,h3,(h4.keepR hF (fun g' o e h=>h6 g' o e h)).more hF.size,h5,h6,h7,fun g o e h=>(h8 g o e h).imp fun cr hc=>hF.blk hc (h6 g o e h)⟩,hF⟩
abbrev Si (x:Rn):Value:=.agg #[.int .i64 x.1,.int .i64 x.2.1,.int .i64 x.2.2]
abbrev Wm (x:Rn):Array Value:=#[Si x]
theorem qx (l:List Rn) (x:Rn):uY (l++[x])=l++[(x.1,x.2.1+1,x.2.2)]:=by simp [uY]
theorem Sj (l:List Rn):(uY l).length=l.length:=by
 unfold uY;split
 ·rename_i h;rw [List.reverse_eq_nil_iff] at h;rw [h]
 ·rename_i x r h
  have:l=r.reverse++[x]:=by rw [←List.reverse_reverse l,h,List.reverse_cons]
  rw [this];simp
theorem Sl (a t:List Rn) (ht:t≠[]):uY (a++t)=a++uY t∧uY t≠[]:=by
 obtain ⟨l,x,rfl⟩:∃l x,t=l++[x]:=⟨t.dropLast,t.getLast ht,(List.dropLast_concat_getLast ht).symm⟩;rw [←List.append_assoc,qx,qx,List.append_assoc];exact ⟨rfl,by simp⟩
theorem jA (V:Vm) (k:Nat):aP V (k+1)=if (V.pg k).kind=0 then aP V k else if 0<k∧(V.pg (k - 1)).kind=(V.pg k).kind then uY (aP V k) else aP V k++[((k:Int),1,(V.pg k).kind)]:=rfl
theorem uM (V:Vm):∀k,(aP V k).length≤k
 | 0=>Nat.le_refl _
 | k+1=>by
  have:=uM V k;unfold aP;split
  ·omega
  ·split
   ·rw [Sj];omega
   ·rw [List.length_append,List.length_singleton];omega
def bdy (V:Vm) (p:Nat):Prop:=p=0∨(V.pg (p - 1)).kind≠(V.pg p).kind∨1024≤p
theorem yP {V:Vm} {p:Nat} {c:Int} (hb:p=0∨(V.pg (p - 1)).kind≠(V.pg p).kind) (hc:c≠0):∀m,(∀q,p≤q→q<p+(m+1)→(V.pg q).kind=c)→aP V (p+(m+1))=aP V p++[((p:Int),((m+1:Nat):Int),c)]
 | 0,h=>by
  have h0:=h p (by omega) (by omega);rw [Nat.zero_add,jA,if_neg (by rw [h0];exact hc),if_neg (by
   rintro ⟨h1,h2⟩;rcases hb with h3|h3
   ·omega
   ·exact h3 h2),h0]
  rfl
 | m+1,h=>by
  have ih:=yP hb hc m (fun q h1 h2=>h q h1 (by omega));have h0:=h (p+(m+1)) (by omega) (by omega);have h1:=h (p+(m+1) - 1) (by omega) (by omega);rw [show p+(m+1+1)=p+(m+1)+1 by omega,jA,if_neg (by rw [h0];exact hc),if_pos ⟨by omega,by rw [h0,h1]⟩,ih,qx];have e:((m+1:Nat):Int)+1=((m+1+1:Nat):Int):=by omega
  rw [←e]
theorem yQ {V:Vm} {p:Nat}:∀m,(∀q,p≤q→q<p+m→(V.pg q).kind=0)→aP V (p+m)=aP V p
 | 0,_=>rfl
 | m+1,h=>by
  rw [←Nat.add_assoc,jA,if_pos (h (p+m) (by omega) (by omega))];exact yQ m (fun q h1 h2=>h q h1 (by omega))
theorem BC {V:Vm} {q:Nat} (hb:q=0∨(V.pg (q - 1)).kind≠(V.pg q).kind):∀m,∃t,aP V (q+m)=aP V q++t∧(0<m→(V.pg (q+m - 1)).kind≠0→t≠[])
 | 0=>⟨[],by simp,fun h=>absurd h (by omega)⟩
 | m+1=>by
  obtain ⟨t,h1,h2⟩:=BC hb m;have e:q+(m+1) - 1=q+m:=by omega
  rw [e];rw [←Nat.add_assoc,jA];by_cases hk:(V.pg (q+m)).kind=0
  ·rw [if_pos hk]
   exact ⟨t,h1,fun _ h=>absurd hk h⟩
  ·rw [if_neg hk]
   by_cases hs:0<q+m∧(V.pg (q+m - 1)).kind=(V.pg (q+m)).kind
   ·rw [if_pos hs]
    have hm:0<m:=by
     rcases Nat.eq_zero_or_pos m with h|h
     ·subst h
      rcases hb with h3|h3
      ·omega
      ·exact absurd hs.2 h3
     ·exact h
    have ht:=h2 hm (by rw [hs.2];exact hk);obtain ⟨b1,b2⟩:=Sl (aP V q) t ht;exact ⟨uY t,by rw [h1,b1],fun _ _=>b2⟩
   ·rw [if_neg hs]
    exact ⟨t++[(((q+m:Nat):Int),1,(V.pg (q+m)).kind)],by rw [h1,List.append_assoc],fun _ _=>by simp⟩
theorem Ac {V:Vm} {q:Nat} (hb:bdy V q) (hq:q≤1024):aP V q <+: aP V 1024:=by
 by_cases h:q=1024
 ·rw [h];exact List.prefix_refl _
 ·obtain ⟨t,ht,_⟩:=BC (V:=V) (q:=q) (hb.elim .inl (fun h=>h.elim .inr (fun h=>by omega))) (1024 - q)
  rw [show q+(1024 - q)=1024 by omega] at ht;exact ⟨t,ht.symm⟩
theorem zu (V:Vm):∀k,(dY V k).length≤k
 | 0=>Nat.le_refl _
 | k+1=>by
  have:=zu V k;unfold dY;split
  ·rw [List.length_append,List.length_singleton];omega
  ·omega
theorem zw (V:Vm):∀k,(dL V k).length≤k
 | 0=>Nat.le_refl _
 | k+1=>by
  have:=zw V k;unfold dL;split
  ·rw [List.length_append,List.length_singleton];omega
  ·omega
theorem Wn (g:Pg):∀x∈NR g,x.oneCell'=true:=by
 intro x hx;simp only [NR,List.mem_map] at hx;obtain ⟨k,_,rfl⟩:=hx;rfl
theorem Hz (V:Vm) (us:List Nat):∀u∈fl (tT V) us,u.oneCell'=true:=by
 intro u hu;simp only [fl,List.mem_flatMap,tT,List.mem_cons] at hu;obtain ⟨x,_,rfl|h⟩:=hu
 ·rfl
 ·exact Wn _ u h
theorem Wp (bs:List Rn) (x:Rn):fl qj (bs++[x])=fl qj bs++[.int .i64 x.1,.int .i64 x.2.1,.int .i64 x.2.2]:=by rw [jd];simp [fl,qj]
theorem Zh {w:World} {g:Nat} {t:TypeId} {a b c:Int} (h:ag w g t #[.int .i64 a,.int .i64 b,.int .i64 c]):∀(j:Nat) (u:Value),[Value.int .i64 a,Value.int .i64 b,Value.int .i64 c][j]? = some u→w.cell? ((⟨g,0,none⟩:Addr).add j)=some u:=by
 intro j u hu;rw [dh,Nat.zero_add];rw [h.cell];simpa using hu
theorem Sq {a b c:Int}:∀u∈[Value.int .i64 a,Value.int .i64 b,Value.int .i64 c],u.oneCell'=true:=by
 intro u hu;simp only [List.mem_cons,List.not_mem_nil,or_false] at hu;rcases hu with rfl|rfl|rfl <;> rfl
theorem Zi {P:Program} {g:Operand} {ps:Array Tmp} {assign body:Code} {Q:Exit→Act→World→Prop} {a:Act} {w:World} (ib pb:Nat) (tE:TypeId)
  {gf:Nat} {lb:Array Value} (hg:a.eval g= .func (.func gf) #[] lb) (eg:∀args w,(callFunc gf args).run P w= .ok (.enter gf args) w)
  {T K:Nat→Prop} {xs:List Rn} (hseq:D6 P gf lb Wm T K xs w) (hps:ps=#[pb])
  (hT:∀k,T k→k<w.heap.size) (hK:∀k,K k→k<w.heap.size)
  (I:(Nat→Prop)→List Rn→World→Prop) (Ix:Code→(Nat→Prop)→List Rn→World→Prop)
  (hI:∀X pre A B,I X pre A→af (fun k=>T k∨X k∨k=w.heap.size∨k=w.heap.size+1) A B→I X pre B)
  (hIx:∀c X pre A B,Ix c X pre A→af (fun k=>T k∨X k∨k=w.heap.size∨k=w.heap.size+1) A B→Ix c X pre B)
  (hnew:∀X X' pre A,I X pre A→(∀k,X' k→X k∨A.heap.size≤k)→I X' pre A)
  (h0:I (fun _=>False) [] w)
  (hassign:∀(m l:Nat) (x:Rn) (W:World) (C:Act→World→Prop),
   C { tmps:=(a.tmps.setIfInBounds pb (Si x)).setIfInBounds ib (.pointer (some ⟨W.heap.size,0,none⟩)),defers:=[] } (W.alloc (.cells #[.int .i64 x.1,.int .i64 x.2.1,.int .i64 x.2.2] tE)) →
   assign.wpIn (Fence.wide.inRound l) m P (Exit.then C (fun _ _ _=>False)) { tmps:=a.tmps.setIfInBounds pb (Si x),defers:=[] } W)
  (hbody:∀(m l:Nat) (X:Nat→Prop) (pre:List Rn) (x:Rn) (Bx:Nat) (Wa W:World),w.heap.size+2≤W.heap.size→(∀k,X k→k<Wa.heap.size∧k≠w.heap.size∧k≠w.heap.size+1)→I X pre W→pre++[x] <+: xs→w.heap.size+2≤Bx→ag W Bx tE #[.int .i64 x.1,.int .i64 x.2.1,.int .i64 x.2.2]→Wa.heap.size≤Bx →
   body.wpIn (Fence.wide.inRound l) m P (Zb w.heap.size K X I Ix (pre++[x]) W) { tmps:=(a.tmps.setIfInBounds pb (Si x)).setIfInBounds ib (.pointer (some ⟨Bx,0,none⟩)),defers:=[] } W)
  (hdone:∀(X:Nat→Prop) (W:World),w.heap.size+2≤W.heap.size→I X xs W→W.heap[w.heap.size]? = some (.deferred (some []))→Q .normal { a with defers:=eX w.heap.size::a.defers } W)
  (hstop:∀(c:Code) (X:Nat→Prop) (pre:List Rn) (W:World),w.heap.size+2≤W.heap.size→pre <+: xs→Ix c X pre W→W.heap[w.heap.size]? = some (.deferred (some []))→c.wp P Q { a with defers:=eX w.heap.size::a.defers } W) :
  (Code.rangeFunc g ps assign body).wp P Q a w:=by
 subst hps;refine abB hg eg hseq (fun _=>rfl) hT hK I Ix hI hIx hnew h0
  (fun N x a' W=>∃Bx,N≤Bx∧w.heap.size+2≤Bx∧ag W Bx tE #[.int .i64 x.1,.int .i64 x.2.1,.int .i64 x.2.2]∧a'={ tmps:=(a.tmps.setIfInBounds pb (Si x)).setIfInBounds ib (.pointer (some ⟨Bx,0,none⟩)),defers:=[] })
  (fun N x a' A B ⟨Bx,h0,h1,h2,h3⟩ hf=>⟨Bx,h0,h1,hf.blk h2 (by omega),h3⟩) ?_ ?_ hdone hstop
 ·intro m l x W C hs hC
  have e:(#[pb].zip (Wm x)).foldl (fun t (p,v)=>t.setIfInBounds p v) a.tmps=a.tmps.setIfInBounds pb (Si x):=by simp [Wm]
  rw [e];exact hassign m l x W C (hC _ _ ((af.refl _ W).alloc _) ⟨W.heap.size,Nat.le_refl _,hs,ag.new _ _ _,rfl⟩)
 ·rintro m l X pre x a' Wa W hs hX hi ⟨Bx,h0,h1,h2,rfl⟩ hpre _ _
  exact hbody m l X pre x Bx Wa W hs hX hi hpre h1 h2 h0
theorem H8 {v1 v2 v3 v4:Value} (h1:v1.oneCell'=true) (h2:v2.oneCell'=true) (h3:v3.oneCell'=true) (h4:v4.oneCell'=true) (cs hs:Nat→Int):∀x∈gq v1 v2 v3 v4 cs hs,x.oneCell'=true:=by
 intro x hx;simp only [gq,List.mem_cons] at hx;rcases hx with rfl|rfl|rfl|hx
 ·exact h1
 ·exact h2
 ·exact h3
 ·exact jK h4 cs hs x hx
end Go.Pol
namespace Go.Proofs.YtjmmgoijnhnnaaaGreat
open Go Go.Proofs Go.RowKit Go.Pol Tryz
theorem Bz (p n:Int) (w:World) :
  Calls prog 109 #[.agg #[.int .i64 p,.int .i64 n]] w fun e w'=>e= .returned (.bool (bB (p,n)))∧Below w.heap.size w w':=by
 have hb0:=aV w (.cells #[.int .i64 p,.int .i64 n] 140);by_cases h1:0≤p
 case neg =>
  have h1':decide (0≤p)=false:=by simpa using h1
  go_enter func109,ntmps109
  go_wp2
  go_ret;exact ⟨dV (by simp [bB];omega),hb0⟩
 have h1':decide (0≤p)=true:=by simpa using h1
 by_cases h2:p<1024
 case neg =>
  have h2':decide (p<1024)=false:=by simpa using h2
  go_enter func109,ntmps109
  go_wp2
  go_ret;exact ⟨dV (by simp [bB];omega),hb0⟩
 have h2':decide (p<1024)=true:=by simpa using h2
 by_cases h3:1≤n
 case neg =>
  have h3':decide (1≤n)=false:=by simpa using h3
  go_enter func109,ntmps109
  go_wp2
  go_ret;exact ⟨dV (by simp [bB];omega),hb0⟩
 have h3':decide (1≤n)=true:=by simpa using h3
 go_enter func109,ntmps109
 go_wp2
 go_ret;exact ⟨dV (by rw [Bool.eq_iff_iff];simp [bB];omega),hb0⟩
theorem dR (A:Option Addr) (n cap:Nat) (us:List Sp) (w:World) (hn:us.length=n) (hm:n≤maxLen) (hr:RU w w.heap.size A us) :
  Calls prog 100 #[.slice A n cap] w fun e w'=>e= .returned (.int .i64 (dX us))∧Below w.heap.size w w':=by
 unfold maxLen at hm;have hn':=ae hn;clear hn;obtain ⟨R,hR0⟩:∃R:Int,dX us=R:=⟨_,rfl⟩;rw [hR0];have hR:=ae hR0;clear hR0;by_cases hlen:512<n
 ·have hlen':decide (512<(n:Int))=true:=by simp;omega
  go_enter func100,ntmps100
  go_wp2
  go_ret;exact ⟨bY (by rw [←hR.out,dX,if_pos (by rw [hn'.out];exact hlen)]),Below.refl _ _⟩
 have hlen':decide (512<(n:Int))=false:=by simp;omega
 go_enter func100,ntmps100;go_wp2_with fail
 go_loopw [3] (fun i wr=>∃(k:Int),0≤k∧k≤n∧i= .int .i64 k∧Below w.heap.size w wr∧Hid (∀j:Nat,(j:Int)<k→j<us.length→bB (us.getD j (0,0))=true)) (fun i _=>n - (intOf i).toNat)
 case atStart=>exact ⟨0,by omega,by omega,rfl,Below.refl _ _,ae (fun j hj=>absurd hj (by omega))⟩
 case round =>
  obtain ⟨k,hk0,hk,rfl,hB,hL⟩:=hrel;by_cases hlt:k<n
  ·have hlt':decide (k<(n:Int))=true:=by simpa using hlt
   obtain ⟨b,o,rfl,_,hc,hd⟩:=RU.at_' (hr.below hB) (k:=k.toNat) (by have:=hn'.out;omega);generalize hu:us.getD k.toNat (0,0)=u at *;have hu':=ae hu;clear hu;obtain ⟨x,y⟩:=u;dsimp only at hc hd;by_cases hv:bB (x,y)=true
   ·have hv':(!bB (x,y))=false:=by simp [hv]
    go_wp2_with (go_at_call 109;refine (Bz _ _ _).mono ?_;rintro e w1 ⟨rfl,hq⟩)
    have hB1:=hB.trans (hq.mono hB.size);go_roundw
    case rel =>
     refine ⟨k+1,by omega,by omega,rfl,hB1,ae (fun j hj hl=>?_)⟩;by_cases hjk:(j:Int)<k
     ·exact hL.out j hjk hl
     ·obtain rfl:j=k.toNat:=by omega
      rw [hu'.out];exact hv
    case measure=>simp [intOf];omega
   ·have hv':(!bB (x,y))=true:=by simpa using hv
    have hE:Hid (R=7):=ae (by
     have hb:=Dc us k.toNat (fun j h1 h2=>hL.out j (by omega) h2) (by have:=hn'.out;omega) (by rw [hu'.out];simpa using hv);rw [←hR.out,dX,if_neg (by rw [hn'.out];exact hlen),if_pos];rw [Bool.eq_false_iff];intro hh;have:=(rW us).2 hh;have:=hn'.out;omega)
    clear hv
    go_wp2_with (go_at_call 109;refine (Bz _ _ _).mono ?_;rintro e w1 ⟨rfl,hq⟩)
    go_ret;exact ⟨bY hE.out.symm,hB.trans (hq.mono hB.size)⟩
  ·have hlt':decide (k<(n:Int))=false:=by simp;omega
   have hA:Hid (us.all bB=true):=ae (by rw [←rW];exact FC us (fun j h2=>hL.out j (by have:=hn'.out;omega) h2));have hR2:Hid (R=if aW (-1) us=true then 0 else 6):=ae (by rw [←hR.out,dX,if_neg (by rw [hn'.out];exact hlen),if_neg (by rw [hA.out];decide)]);clear hL hR;go_wp2_with fail
   go_loopw [4] (fun i wr=>∃(k:Nat),(k+1≤n∨n=0∧k=0)∧i= .int .i64 ((k:Int)+1)∧Below w.heap.size w wr∧Hid (0<n→(aW (-1) us=true↔aW ((us.getD k (0,0)).1+(us.getD k (0,0)).2) (us.drop (k+1))=true))) (fun i _=>n+1 - (intOf i).toNat)
   case atStart=>exact ⟨0,by omega,by simp,hB,ae (fun h=>DV us (by rw [hn'.out];exact h) hA.out)⟩
   case round =>
    obtain ⟨k,hk,rfl,hB,hL⟩:=hrel;by_cases hlt:k+1<n
    ·have hlt':decide ((k:Int)+1<(n:Int))=true:=by simp;omega
     obtain ⟨b,o,rfl,hbl,hc,hd⟩:=RU.at_' (hr.below hB) (k:=k) (by have:=hn'.out;omega);obtain ⟨b',o',had,_,hc2,hd2⟩:=RU.at_' (hr.below hB) (k:=k+1) (by have:=hn'.out;omega);obtain ⟨rfl,rfl⟩:b=b'∧o=o':=by simpa using had
     clear had;have hst:=ae (FH us (-1) k (by have:=hn'.out;omega) (hL.out (by omega)));have hv1:=av.1 (Fp hA.out (k:=k) (by have:=hn'.out;omega));have hv2:=av.1 (Fp hA.out (k:=k+1) (by have:=hn'.out;omega));generalize hu:us.getD k (0,0)=u at *;generalize hv:us.getD (k+1) (0,0)=v at *;have hv':=ae hv;clear hu hv hL;obtain ⟨x,y⟩:=u;obtain ⟨x2,y2⟩:=v;dsimp only at hc hd hc2 hd2 hst hv1 hv2;have q1:=fun y:Ext wr=>y.cell hc
     have q2:=fun y:Ext wr=>y.cell hd
     have q3:=fun y:Ext wr=>y.cell hc2
     have q4:=fun y:Ext wr=>y.cell hd2
     by_cases hle:x2≤x+y
     ·have Nf:decide (x2≤x+y)=true:=by simpa using hle
      have hE:Hid (R=6):=ae (by rw [hR2.out,if_neg (by rw [hst.out];omega)]);clear hst hR2;go_upto_region 11 with fail
      refine aF (by kernel_rfl) (by kernel_rfl) ?_
      repeat (go_big_quiet_step (fail))
      refine wpQuiet_nil ?_;rintro w2 ⟨⟨_,hw2⟩,rfl⟩;go_wp2_with fail;go_ret;exact ⟨bY hE.out.symm,hB.trans (hw2.mono hB.size)⟩
     ·have Nf:decide (x2≤x+y)=false:=by simpa using hle
      have hst':Hid (aW (-1) us=true↔aW (x2+y2) (us.drop (k+1+1))=true):=ae (by rw [hst.out];exact ⟨fun h=>h.2,fun h=>⟨by omega,h⟩⟩);clear hst;go_upto_region 11 with fail
      refine aF (by kernel_rfl) (by kernel_rfl) ?_
      repeat (go_big_quiet_step (fail))
      refine wpQuiet_nil ?_;rintro w2 ⟨⟨_,hw2⟩,rfl⟩;go_wp2_with fail;go_roundw
      case rel=>exact ⟨k+1,by omega,by simp,hB.trans (hw2.mono hB.size),ae (fun _=>by rw [hv'.out];exact hst'.out)⟩
      case measure=>simp [intOf];omega
    ·have hlt':decide ((k:Int)+1<(n:Int))=false:=by simp;omega
     have hE:Hid (R=0):=ae (by
      rw [hR2.out,if_pos];by_cases h0:0<n
      ·rw [hL.out h0,List.drop_of_length_le (by have:=hn'.out;omega)];rfl
      ·rw [List.eq_nil_of_length_eq_zero (by have:=hn'.out;omega:us.length=0)];rfl)
     clear hR2;go_wp2_with fail;go_ret;exact ⟨bY hE.out.symm,hB⟩
theorem Sa (f b ev:Int) (w:World) :
  Calls prog 110 #[.agg #[.int .i64 f,.int .i64 b,.int .i64 ev]] w fun e w'=>e= .returned (.bool (!j4 f b ev))∧Below w.heap.size w w':=by
 have hb0:=aV w (.cells #[.int .i64 f,.int .i64 b,.int .i64 ev] 23);have hR:Hid ((!j4 f b ev)=(decide (0≤f)&&decide (f≤16)&&decide (0≤b)&&decide (b≤16)&&decide (0≤ev)&&decide (ev≤1024))):=ae (by unfold j4;rw [Bool.not_not]);by_cases o7:0≤f
 case neg =>
  have hs':decide (0≤f)=false:=by simpa using o7
  go_enter func110,ntmps110
  go_wp2
  go_ret;exact ⟨dV (by rw [hR.out];simp [*]),hb0⟩
 have YT:decide (0≤f)=true:=by simpa using o7
 by_cases o7:f≤16
 case neg =>
  have hs':decide (f≤16)=false:=by simpa using o7
  go_enter func110,ntmps110
  go_wp2
  go_ret;exact ⟨dV (by rw [hR.out];simp [*]),hb0⟩
 have YT:decide (f≤16)=true:=by simpa using o7
 by_cases hsb:0≤b
 case neg =>
  have hs':decide (0≤b)=false:=by simpa using hsb
  go_enter func110,ntmps110
  go_wp2
  go_ret;exact ⟨dV (by rw [hR.out];simp [*]),hb0⟩
 have ajc:decide (0≤b)=true:=by simpa using hsb
 by_cases hsb:b≤16
 case neg =>
  have hs':decide (b≤16)=false:=by simpa using hsb
  go_enter func110,ntmps110
  go_wp2
  go_ret;exact ⟨dV (by rw [hR.out];simp [*]),hb0⟩
 have ajc:decide (b≤16)=true:=by simpa using hsb
 by_cases ada:0≤ev
 case neg =>
  have hs':decide (0≤ev)=false:=by simpa using ada
  go_enter func110,ntmps110
  go_wp2
  go_ret;exact ⟨dV (by rw [hR.out];simp [*]),hb0⟩
 have amy:decide (0≤ev)=true:=by simpa using ada
 go_enter func110,ntmps110
 go_wp2
 go_ret;exact ⟨dV (by rw [hR.out];simp [*]),hb0⟩
theorem oh (pg n f b ev:Int) (w:World) :
  Calls prog 43 #[eQ pg n f b ev] w fun e w'=>e= .returned (.int .i64 (bN pg n f b ev))∧Below w.heap.size w w':=by
 obtain ⟨R,hR0⟩:∃R:Int,bN pg n f b ev=R:=⟨_,rfl⟩;rw [hR0];have hR:=ae hR0;clear hR0;have hb1:=aV w (.cells (bf pg n f b ev) 25);have k1:=ag.new w 25 (bf pg n f b ev);have HC:=ae (fun W=>Bz pg n W);by_cases hv:bB (pg,n)=true
 case neg =>
  have hv':bB (pg,n)=false:=by simpa using hv
  rw [hv'] at HC;have hE:Hid (R=7):=ae (by rw [←hR.out,bN,if_pos (.inl (by simpa using hv))]);clear hv hR hv';go_enter func43,ntmps43
  go_wp2_with (go_at_call 109;refine (HC.out _).mono ?_;rintro e w1 ⟨rfl,hq⟩;have k2:=k1.call hq;have c2:=k2.cell)
  go_ret;exact ⟨bY hE.out.symm,hb1.trans (hq.mono hb1.size)⟩
 case pos =>
  rw [hv] at HC;have HW:=ae (fun W=>Sa f b ev W);cases hw:j4 f b ev with
  | true =>
   rw [hw] at HW;have hE:Hid (R=7):=ae (by rw [←hR.out,bN,if_pos (.inr hw)]);clear hv hR hw;go_enter func43,ntmps43
   go_wp2_with (first
    | (go_at_call 109;refine (HC.out _).mono ?_;rintro e w1 ⟨rfl,hq⟩;have k2:=k1.call hq;have c2:=k2.cell)
    | (go_at_call 110;refine (HW.out _).mono ?_;rintro e w3 ⟨rfl,hq3⟩))
   go_ret;have hb2:=hb1.trans (hq.mono hb1.size);exact ⟨bY hE.out.symm,hb2.trans (hq3.mono hb2.size)⟩
  | false =>
   rw [hw] at HW;have hE:Hid (R=if n≤f+b then 4 else 0):=ae (by rw [←hR.out,bN,if_neg (by simp [hv,hw])]);have hv':=av.1 hv;have hw':=uu.1 hw;dsimp only at hv';clear hv hR hw;by_cases hn:n≤f+b
   ·have hn':decide (n≤f+b)=true:=by simpa using hn
    rw [if_pos hn] at hE;clear hn;go_enter func43,ntmps43
    go_wp2_with (first
     | (go_at_call 109;refine (HC.out _).mono ?_;rintro e w1 ⟨rfl,hq⟩;have k2:=k1.call hq;have c2:=k2.cell)
     | (go_at_call 110;refine (HW.out _).mono ?_;rintro e w3 ⟨rfl,hq3⟩;have k3:=k2.call hq3;have c3:=k3.cell))
    go_ret;have hb2:=hb1.trans (hq.mono hb1.size);exact ⟨bY hE.out.symm,hb2.trans (hq3.mono hb2.size)⟩
   ·have hn':decide (n≤f+b)=false:=by simpa using hn
    rw [if_neg hn] at hE;clear hn;go_enter func43,ntmps43
    go_wp2_with (first
     | (go_at_call 109;refine (HC.out _).mono ?_;rintro e w1 ⟨rfl,hq⟩;have k2:=k1.call hq;have c2:=k2.cell)
     | (go_at_call 110;refine (HW.out _).mono ?_;rintro e w3 ⟨rfl,hq3⟩;have k3:=k2.call hq3;have c3:=k3.cell))
    go_ret;have hb2:=hb1.trans (hq.mono hb1.size);exact ⟨bY hE.out.symm,hb2.trans (hq3.mono hb2.size)⟩
theorem Wl (pg n f b ev page:Int) (w:World) (hp:dS pg n f b ev) (h0:0≤page) (h1:page≤2000) :
  Calls prog 171 #[eQ pg n f b ev,.int .i64 page] w fun e w'=>e= .returned (.int .i64 (sS pg n f b ev page))∧Below w.heap.size w w':=by
 obtain ⟨R,hR0⟩:∃R:Int,sS pg n f b ev page=R:=⟨_,rfl⟩;rw [hR0];have hR:=ae hR0;clear hR0;obtain ⟨p1,p2,p3,p4,p5,p6,p7,p8,p9,p10,p11⟩:=hp;have hb1:=aV w (.cells (bf pg n f b ev) 25);have k1:=ag.new w 25 (bf pg n f b ev);have c1:=k1.cell;by_cases a1:page - pg<0∨n≤page - pg
 ·have hE:Hid (R=4):=ae (by rw [←hR.out,sS,if_pos a1])
  by_cases a2:page - pg<0
  ·have a2':decide (page - pg<0)=true:=by simpa using a2
   go_enter func171,ntmps171;go_wp2_with fail;go_ret;exact ⟨bY hE.out.symm,hb1⟩
  ·have a2':decide (page - pg<0)=false:=by simpa using a2
   have a3':decide (n≤page - pg)=true:=by simp;omega
   go_enter func171,ntmps171;go_wp2_with fail;go_ret;exact ⟨bY hE.out.symm,hb1⟩
 ·have a2':decide (page - pg<0)=false:=by simp;omega
  have a3':decide (n≤page - pg)=false:=by simp;omega
  have a4:0≤page - pg∧page - pg<n:=by omega
  by_cases b1:page - pg<f
  ·have hE:Hid (R=1):=ae (by rw [←hR.out,sS,if_neg a1,if_pos b1])
   have b1':decide (page - pg<f)=true:=by simpa using b1
   clear a1;go_enter func171,ntmps171;go_wp2_with fail;go_ret;exact ⟨bY hE.out.symm,hb1⟩
  ·have b1':decide (page - pg<f)=false:=by simpa using b1
   by_cases b2:n - b≤page - pg
   ·have hE:Hid (R=2):=ae (by rw [←hR.out,sS,if_neg a1,if_neg b1,if_pos b2])
    have b2':decide (n - b≤page - pg)=true:=by simpa using b2
    clear a1;go_enter func171,ntmps171;go_wp2_with fail;go_ret;exact ⟨bY hE.out.symm,hb1⟩
   ·have b2':decide (n - b≤page - pg)=false:=by simpa using b2
    have hE:Hid (R=if 0<ev∧(page - pg - f+1) % (ev+1)=0 then 3 else 0):=ae (by rw [←hR.out,sS,if_neg a1,if_neg b1,if_neg b2]);by_cases b3:0<ev
    ·have b3':decide (0<ev)=true:=by simpa using b3
     have hm:Int.tmod (page - pg - f+1) (ev+1)=(page - pg - f+1) % (ev+1):=Int.tmod_eq_emod_of_nonneg (by omega);by_cases b4:(page - pg - f+1) % (ev+1)=0
     ·have b4':((page - pg - f+1) % (ev+1)==0)=true:=by simpa using b4
      have hE2:Hid (R=3):=ae (by rw [hE.out,if_pos ⟨b3,b4⟩]);clear a1 hE b4;go_enter func171,ntmps171;go_wp2_with fail;go_ret;exact ⟨bY hE2.out.symm,hb1⟩
     ·have b4':((page - pg - f+1) % (ev+1)==0)=false:=by simpa using b4
      have hE2:Hid (R=0):=ae (by rw [hE.out,if_neg (fun h=>b4 h.2)]);clear a1 hE b4;go_enter func171,ntmps171;go_wp2_with fail;go_ret;exact ⟨bY hE2.out.symm,hb1⟩
    ·have b3':decide (0<ev)=false:=by simpa using b3
     have hE2:Hid (R=0):=ae (by rw [hE.out,if_neg (fun h=>b3 h.1)]);clear a1 hE;go_enter func171,ntmps171;go_wp2_with fail;go_ret;exact ⟨bY hE2.out.symm,hb1⟩
def UN (w:World) (us:List Sp) (e:Ending) (w':World):Prop :=
 ∃(A:Option Addr) (cap:Nat),e= .returned (.slice A us.length cap)∧RU w' w'.heap.size A us∧us.length≤cap∧cap≤maxLen∧(∀b o,A=some ⟨b,o,none⟩→w.heap.size≤b)∧Below w.heap.size w w'
theorem O0 (cs:Array Value) (f:Nat→Bool) (w:World) (hm:bC cs f) :
  Calls prog 156 #[.agg cs] w (UN w (iX f)):=by
 obtain ⟨i0,hi,hz0,hz1,hz2⟩:=dW;have hb0:=aV w (.cells cs 231);have kM:=ag.new w 231 cs;have hcs:=ae hm.at_;have hcz:=hm.size;have hok:=ae (fun p=>vD f p);have hA:Hid (iX f=cK f 1024):=ae rfl;obtain ⟨SA,zM⟩:∃S,iX f=S:=⟨_,rfl⟩;rw [zM];have Y7:=ae zM;clear zM hm;go_enter func156,ntmps156;go_wp2_with fail
 go_loopw [3,4] (fun v i wr=>∃k:Nat,k≤1024∧i= .int .i64 k∧wr.ownsRow (w.heap.size+1) 140 2 v (cK f k).length (ax (cK f k))∧ag wr w.heap.size 231 cs∧Below w.heap.size w wr) (fun _ i _=>1024 - (intOf i).toNat)
 case atStart=>exact ⟨0,by omega,rfl,World.ownsRow_nil _ _ _ _,kM,hb0⟩
 case round =>
  obtain ⟨k,hk,rfl,hrow,kW,hB⟩:=hrel;have oV:=hB.size;have hwl:=kW.lt;by_cases hlt:k<1024
  ·have hlt':decide ((k:Int)<1024)=true:=by simp;omega
   have hck:wr.cell? ⟨w.heap.size,k,none⟩=some (.bool (f k)):=by rw [kW.cell];exact hcs.out k hlt
   have hstep:=ae (show cK f (k+1)=_ from rfl);have BA:(cK f k).length≤1024:=by
    have:=(hok.out k);have h:=xm (cK f k) (-1) k (fun x hx=>⟨(this.wid x hx).2.1,(this.wid x hx).2.2⟩) this.form (by omega);omega
   cases zN:f k with
   | false =>
    rw [zN] at hck;have hS:Hid (cK f (k+1)=cK f k):=ae (by rw [cK,if_neg (by simp [zN])]);go_wp2_with fail;go_roundw
    case rel=>exact ⟨k+1,by omega,by simp,by rw [hS.out];exact hrow,kW,hB⟩
    case measure=>simp [intOf];omega
   | true =>
    rw [zN] at hck;by_cases hk0:0<k
    case neg =>
     have hk0':decide (0<(k:Int))=false:=by simp;omega
     have Y8:decide (0<k)=false:=by simp;omega
     have hS:Hid (cK f (k+1)=cK f k++[((k:Int),1)]):=ae (by rw [cK,if_pos zN,if_neg (by simp;omega)]);have kN:=ag.new wr 140 #[.int .i64 (k:Int),.int .i64 1]
     go_wp2_with (refine wpList_append_own _ rfl (.tmp 9) (.tmp 12) 41 rfl (w.heap.size+1) 140 i0 (.agg #[.int .i64 0,.int .i64 0]) 2 16 underlying41 hi hz0 hz1 hz2 rfl (by decide) _ (cK f k).length (ax (cK f k)) rfl (hrow.alloc _) ⟨wr.heap.size,0,none⟩ 1 1 [.int .i64 (k:Int),.int .i64 1] rfl rfl (ja kN) gQ (by unfold maxLen;omega) (by omega) (by simp;omega) ?_;intro v' w1 hown' hgrow _;rw [←dE (cK f k) ((k:Int),1),←hS.out] at hown')
     have hne1:=(hrow.alloc (.cells #[.int .i64 (k:Int),.int .i64 1] 140)).lt;go_roundw
     case rel=>exact ⟨k+1,by omega,by simp,by rw [show (cK f (k+1)).length=(cK f k).length+1 by rw [hS.out];simp];exact hown',(kW.alloc _).grown hgrow (fun e=>by have:=(hrow.lt _ e.symm).1;omega),(hB.alloc oV _).grown hgrow (by simp;omega) (fun j hj=>by have:=(hrow.lt j hj).1;omega)⟩
     case measure=>simp [intOf];omega
    case pos =>
     have hk0':decide (0<(k:Int))=true:=by simp;omega
     have Y8:decide (0<k)=true:=by simp;omega
     have hkp:wr.cell? ⟨w.heap.size,k - 1,none⟩=some (.bool (f (k - 1))):=by rw [kW.cell];exact hcs.out (k - 1) (by omega)
     cases hfp:f (k - 1) with
     | false =>
      rw [hfp] at hkp;have hS:Hid (cK f (k+1)=cK f k++[((k:Int),1)]):=ae (by rw [cK,if_pos zN,if_neg (by simp [hfp])]);have kN:=ag.new wr 140 #[.int .i64 (k:Int),.int .i64 1]
      go_wp2_with (refine wpList_append_own _ rfl (.tmp 9) (.tmp 12) 41 rfl (w.heap.size+1) 140 i0 (.agg #[.int .i64 0,.int .i64 0]) 2 16 underlying41 hi hz0 hz1 hz2 rfl (by decide) _ (cK f k).length (ax (cK f k)) rfl (hrow.alloc _) ⟨wr.heap.size,0,none⟩ 1 1 [.int .i64 (k:Int),.int .i64 1] rfl rfl (ja kN) gQ (by unfold maxLen;omega) (by omega) (by simp;omega) ?_;intro v' w1 hown' hgrow _;rw [←dE (cK f k) ((k:Int),1),←hS.out] at hown')
      have hne1:=(hrow.alloc (.cells #[.int .i64 (k:Int),.int .i64 1] 140)).lt;go_roundw
      case rel=>exact ⟨k+1,by omega,by simp,by rw [show (cK f (k+1)).length=(cK f k).length+1 by rw [hS.out];simp];exact hown',(kW.alloc _).grown hgrow (fun e=>by have:=(hrow.lt _ e.symm).1;omega),(hB.alloc oV _).grown hgrow (by simp;omega) (fun j hj=>by have:=(hrow.lt j hj).1;omega)⟩
      case measure=>simp [intOf];omega
     | true =>
      rw [hfp] at hkp;obtain ⟨r,x,hrx,hxe⟩:=(hok.out k).last hk0 hfp;have hwx:=(hok.out k).wid x (by rw [hrx];simp);have hS:Hid (cK f (k+1)=r++[(x.1,x.2+1)]):=ae (by rw [cK,if_pos zN,if_pos (by simp [hfp];omega),hrx,Aw]);rw [hrx] at hrow BA;clear hrx hstep;obtain ⟨xa,xb⟩:=x;dsimp only at hwx hxe;rw [List.length_append,List.length_singleton] at hrow BA;obtain ⟨g,cap,rfl⟩:=ownsRow_succ hrow;have hgb:=(hrow.lt g rfl).1;have hcx:wr.cell? ⟨g,r.length*2+1,none⟩=some (.int .i64 xb):=by
       rw [hrow.cellAt _ (by omega),dE,List.getElem?_append_right (by rw [dB];omega),dB];simp
      have hfx:=hrow.frozenAt (r.length*2+1);obtain ⟨hst,hgr⟩:=hrow.stored (r.length*2+1) (.int .i64 (xb+1));rw [wL] at hst;obtain ⟨rl,hrl⟩:=aj (r.length);rw [hrl] at hcx hfx hst hgr BA ⊢;have Y9:=ae hrl;clear hrl hrow;go_wp2_with fail;go_roundw
      case rel=>exact ⟨k+1,by omega,by simp,by rw [hS.out];simpa [Y9.out] using hst,kW.grown hgr (fun e=>by cases e;omega),hB.grown hgr oV (fun j hj=>by cases hj;omega)⟩
      case measure=>simp [intOf];omega
  ·obtain rfl:k=1024:=by omega
   obtain ⟨A,cap,rfl,gG,h1,h2,h3,_⟩:=mU hrow rfl;have hE:Hid (SA=cK f 1024):=ae (by rw [←Y7.out];rfl);go_wp2_with fail;go_ret;rw [hE.out];exact ⟨A,cap,rfl,gG,h1,h2,fun b o e=>by have:=h3 b o e;omega,hB⟩
theorem abA:(prog.info? 3).map (fun i=>(i.zero,i.size,i.bytes))=some (some (.int .i64 0),1,8):=by kernel_rfl
theorem JK (A:Option Addr) (n cap:Nat) (us:List Sp) (w:World) (hn:us.length=n) (hm:n≤maxLen) (hr:RU w w.heap.size A us) (hu:Go.Pol.Can us) (L:List Int) (hL:bR us=L) :
  Calls prog 111 #[.slice A n cap] w fun e w'=>∃(A':Option Addr) (cap':Nat),e= .returned (.slice A' L.length cap')∧RI w' w'.heap.size A' L∧Below w.heap.size w w':=by
 obtain ⟨i0,hi,hz0,hz1,hz2⟩:=info_parts abA;have hc:=dR A n cap us w hn hm hr;rw [bP.2 hu] at hc;have HC:=ae hc;clear hc;have hlen:=hu.len;have hvl:=ae hu.1;have hn':=ae hn;have hL':=ae hL;clear hL;have aez:n≤512:=by omega
 clear hn hu;go_enter func111,ntmps111
 go_wp2_with (go_at_call 100;refine (HC.out).mono ?_;rintro e w1 ⟨rfl,hq⟩)
 go_loopw [3,4] (fun v i wr=>∃(k:Nat) (xs:List Int),k≤n∧i= .int .i64 k∧Hid (xs=bR (us.take k))∧xs.length≤1024*k∧wr.ownsRow w.heap.size 3 1 v xs.length (xs.map (Value.int .i64))∧Below w.heap.size w wr) (fun _ i _=>n - (intOf i).toNat)
 case atStart=>exact ⟨0,[],by omega,rfl,ae (by simp [bR]),by simp,World.ownsRow_nil _ _ _ _,hq⟩
 case round =>
  obtain ⟨k,xs,hk,rfl,hX,hxl,hrow,hB⟩:=hrel;have oV:=hB.size;by_cases hlt:k<n
  ·have hlt':decide ((k:Int)<(n:Int))=true:=by simp;omega
   obtain ⟨b,o,rfl,hbl,hcw,hdw⟩:=RU.at_' hr (k:=k) (by have:=hn'.out;omega);have kZ:=av.1 (hvl.out (us.getD k (0,0)) (by rw [List.getD_eq_getElem?_getD,List.getElem?_eq_getElem (by have:=hn'.out;omega)];simp));have htk:=ae (wN us k (by have:=hn'.out;omega));generalize us.getD k (0,0)=x at *;obtain ⟨xa,xb⟩:=x;dsimp only at hcw hdw kZ;have hc:=(hB.cell (p:=⟨b,o+k*2,none⟩) hbl).trans hcw;have hd:=(hB.cell (p:=⟨b,o+k*2+1,none⟩) hbl).trans hdw;go_wp2_with fail
   go_loopw [3,5] (fun v p wr=>∃(j:Nat) (ys:List Int),(j:Int)≤xb∧p= .int .i64 (xa+j)∧Hid (ys=xs++gJ (xa,xb) j)∧ys.length≤1024*k+j∧wr.ownsRow w.heap.size 3 1 v ys.length (ys.map (Value.int .i64))∧Below w.heap.size w wr) (fun _ p _=>(xa+xb - intOf p).toNat)
   case atStart=>exact ⟨0,xs,by omega,by simp,ae (by simp [gJ]),by omega,hrow,hB⟩
   case round =>
    obtain ⟨j,ys,hj,rfl,hY,hyl,hrow,hB⟩:=hrel;have oV:=hB.size;have hc:=(hB.cell (p:=⟨b,o+k*2,none⟩) hbl).trans hcw;have hd:=(hB.cell (p:=⟨b,o+k*2+1,none⟩) hbl).trans hdw;have e1:=fun z:Ext wr=>z.cell hc
    have e2:=fun z:Ext wr=>z.cell hd
    by_cases hjx:(j:Int)<xb
    ·have hj':decide (xa+(j:Int)<xa+xb)=true:=by simp;omega
     have hY2:Hid (ys++[xa+(j:Int)]=xs++gJ (xa,xb) (j+1)):=ae (by rw [hY.out,Mw,List.append_assoc]);go_upto_region 8 with fail
     refine aF (by kernel_rfl) (by kernel_rfl) ?_
     repeat (go_big_quiet_step (fail))
     refine wpQuiet_nil ?_;rintro w2 ⟨⟨_,hw2⟩,rfl⟩;have hrow2:=aB hrow hw2;have hB2:=hB.trans (hw2.mono oV);have aje:=hB2.size;have kN:=ag.new w2 3 #[.int .i64 (xa+(j:Int))]
     go_wp2_with (refine wpList_append_own _ rfl (.tmp 35) (.tmp 37) 84 rfl w.heap.size 3 i0 (.int .i64 0) 1 8 underlying84 hi hz0 hz1 hz2 rfl (by decide) _ ys.length (ys.map (Value.int .i64)) rfl (hrow2.alloc _) ⟨w2.heap.size,0,none⟩ 1 1 [.int .i64 (xa+(j:Int))] rfl rfl (Fu kN) zt (by unfold maxLen;omega) (by omega) (by simp;omega) ?_;intro v' w3 hown' hgrow _)
     go_roundw
     case rel=>exact ⟨j+1,ys++[xa+(j:Int)],by omega,by go_num,hY2,by simp;omega,by simpa using hown',(hB2.alloc aje _).grown hgrow (by simp;omega) (fun i hi=>(hrow2.lt i hi).1)⟩
     case measure=>simp [intOf];omega
    ·have hj':decide (xa+(j:Int)<xa+xb)=false:=by simp;omega
     have Za:xb.toNat=j:=by omega
     have hX2:Hid (ys=bR (us.take (k+1))):=ae (by rw [hY.out,hX.out,htk.out,E9,jD,Mx,List.append_nil];rw [←Za]);go_upto_region 8 with fail
     refine aF (by kernel_rfl) (by kernel_rfl) ?_
     repeat (go_big_quiet_step (fail))
     refine wpQuiet_nil ?_;rintro w2 ⟨⟨_,hw2⟩,rfl⟩;have hrow2:=aB hrow hw2;have hB2:=hB.trans (hw2.mono oV);go_wp2_with fail;go_roundw
     case rel=>exact ⟨k+1,ys,by omega,by simp,hX2,by omega,hrow2,hB2⟩
     case measure=>simp [intOf];omega
  ·have hlt':decide ((k:Int)<(n:Int))=false:=by simp;omega
   have hE:Hid (xs=L):=ae (by rw [hX.out,List.take_of_length_le (by have:=hn'.out;omega)];exact hL'.out);rw [hE.out] at hrow;obtain ⟨A',cap',rfl,tX⟩:=O1 hrow rfl;clear hX hxl hE;go_wp2_with fail;go_ret;exact ⟨A',cap',rfl,tX,hB⟩
theorem fV:bC zeroCells231 (fun _=>false):=by
 have e:zeroCells231=Array.replicate 1024 (.bool false):=by kernel_rfl
 rw [e];exact ⟨by simp,fun k hk=>by simp [hk]⟩
theorem Ey (pg n f b ev:Int) (us:Bool) (w:World) (hp:dS pg n f b ev) (S:List Sp) (hS:iX (yO pg n f b ev us n.toNat)=S) :
  Calls prog 112 #[eQ pg n f b ev,.bool us] w (UN w S):=by
 have HK:=ae (fun q W h0 h1=>Wl pg n f b ev q W hp h0 h1);have ajf:=ae (fun cs f W h=>O0 cs f W h);obtain ⟨p1,p2,p3,p4,p5,p6,p7,p8,p9,p10,p11⟩:=hp;obtain ⟨s,hs⟩:=aj (w.heap.size);obtain ⟨W0,hW0⟩:=aj ((w.alloc (.cells (bf pg n f b ev) 25)).alloc (.cells zeroCells231 231));have hb0:Below s w W0:=by rw [←hW0,←hs];exact (aV w _).alloc (by simp) _
 have kP:ag W0 s 25 (bf pg n f b ev):=by rw [←hW0,←hs];exact (ag.new _ _ _).alloc _
 have kM:ag W0 (s+1) 231 zeroCells231:=by
  have:=ag.new (w.alloc (.cells (bf pg n f b ev) 25)) 231 zeroCells231;rw [World.size_alloc,hs,hW0] at this;exact this
 have hZ:=fV;have hS':=ae hS;have hW1:=ae hW0;clear hS hW0;go_enter func112,ntmps112;go_upto_region 2 with fail
 try simp only [Nat.add_assoc,Nat.reduceAdd]
 rw [hW1.out];have cP0:=kP.cell;generalize zeroCells231=Z at *;clear hW1;go_wp2_with fail
 go_loopw [6] (fun i wr=>∃(j:Nat) (cs:Array Value),(j:Int)≤n∧i= .int .i64 (pg+j)∧ag wr s 25 (bf pg n f b ev)∧ag wr (s+1) 231 cs∧bC cs (yO pg n f b ev us j)∧Below s w wr) (fun i _=>(pg+n - intOf i).toNat)
 case atStart=>exact ⟨0,Z,by omega,by simp,kP,kM,⟨hZ.size,fun k hk=>by rw [hZ.at_ k hk];simp [yO];omega⟩,hb0⟩
 case round =>
  obtain ⟨j,cs,hj,rfl,kP,kM,hM,hB⟩:=hrel;have cP:=kP.cell;have oV:=hB.size;have hwl:=kM.lt;by_cases hlt:(j:Int)<n
  ·have hlt':decide (pg+(j:Int)<pg+n)=true:=by simp;omega
   have qw:=ae (fun W=>HK.out (pg+j) W (by omega) (by omega));have hst:=ae (hM.set (g:=yO pg n f b ev us (j+1)) (pg+j).toNat (by omega) ((sS pg n f b ev (pg+j)==0)==us) (by
    have e:(((pg+(j:Int)).toNat:Nat):Int)=pg+j:=by omega
    simp only [yO,e];rw [decide_eq_true (by omega),Bool.true_and]) (fun k hk=>by
    simp only [yO];congr 1;exact decide_eq_decide.2 (by omega)))
   have hold:=hM.at_ (pg+j).toNat (by omega);generalize yO pg n f b ev us j (pg+(j:Int)).toNat=B0 at hold;generalize sS pg n f b ev (pg+j)=K at *;have hN:(pg+(j:Int)+1)=pg+((j+1:Nat):Int):=by omega
   have hN':=ae hN;clear hN
   go_wp2_with (go_at_call 171;refine (qw.out _).mono ?_;rintro e w1 ⟨rfl,hq⟩;have QL:=kP.call hq;have kM1:=kM.call hq;have fM1:=kM1.frozen;have cM1:w1.cell? ⟨s+1,(pg+(j:Int)).toNat,none⟩=some (.bool B0):=(kM1.cell _).trans hold)
   have qB:af (fun k=>k=s+1) w1 (w1.setCell ⟨s+1,(pg+(j:Int)).toNat,none⟩ (.bool ((K==0)==us))):=af.setCell (T:=fun k=>k=s+1) (p:=⟨s+1,(pg+(j:Int)).toNat,none⟩) (af.refl _ _) (fun _=>rfl) _;have hB1:=hB.trans (hq.mono (by omega));go_roundw
   case rel=>exact ⟨j+1,_,by omega,by rw [hN'.out],qB.blk QL (by omega),kM1.aO _ _,hst.out,hB1.trans (qB.below (by have:=hB1.size;omega) (fun k hk=>by omega))⟩
   case measure=>simp [intOf];omega
  ·have hlt':decide (pg+(j:Int)<pg+n)=false:=by simp;omega
   have hjn:n.toNat=j:=by omega
   rw [hjn] at hS';have HS2:=ae (fun W=>ajf.out cs _ W hM);rw [hS'.out] at HS2;have hsz:=hM.size
   go_wp2_with (first
    | (refine wpList_load_mid rfl 231 (.tmp 5) rfl (s+1) 0 rfl cs.toList _ (ed kM) underlying231 rfl (by rw [Array.length_toList,hsz];kernel_rfl) ?_;rw [Array.toArray_toList])
    | (go_at_call 156;refine (HS2.out _).mono ?_;rintro e w2 ⟨A,cap,rfl,gG,h1,h2,h3,hq2⟩))
   go_ret;exact ⟨A,cap,rfl,gG,h1,h2,fun b o e=>by have:=h3 b o e;omega,by rw [hs];exact hB.trans (hq2.mono (by omega))⟩
section
variable {pg n f b ev:Int}
theorem O3 {s:List Sp} (hs:Go.Pol.Can s) {p:Int} (hv:bB (p,1)=true):(aZ s (p,1)).isEmpty=mem p s:=by
 obtain ⟨hg,hm⟩:=hs.DU hv;cases hp:mem p s with
 | true =>
  have h0:aZ s (p,1)=[]:=hg.eq ⟨by simp,rfl⟩ fun q=>by
   rw [fB];cases hq:mem q (aZ s (p,1)) with
   | false=>rfl
   | true =>
    have h:=(hm q).1 hq;simp only at h;have e:q=p:=by omega
    rw [e,hp] at h;cases h.2
  rw [h0];rfl
 | false =>
  have h1:mem p (aZ s (p,1))=true:=(hm p).2 ⟨by simp only;omega,hp⟩;cases hG:aZ s (p,1) with
  | nil=>rw [hG,fB] at h1;cases h1
  | cons=>rfl
end
open Go.Shelf
attribute [local go_sem] Oper.semAt_some aC au az ah
def whP (b:Nat) (V:Vm) (a:Int):Option Addr:=if xq V a=0 then some ⟨b,1+(a / 64).toNat*66+2+(a % 64).toNat,none⟩ else none
theorem Sd (b:Nat) (a:Int) (V:Vm) (w:World) (hV:aD w b V) :
  Calls prog 45 #[.pointer (some ⟨b,0,none⟩),.int .i64 a] w fun e w'=>e= .returned (.tuple #[.pointer (whP b V a),.int .i64 (xq V a)])∧w'=w:=by
 have HI:=ae (uD b V w hV);unfold whP;obtain ⟨R,hR⟩:=aj (xq V a);rw [hR];unfold xq at hR;by_cases c1:a<0
 ·have d1:decide (a<0)=true:=by simpa using c1
  rw [if_pos (.inl c1)] at hR;subst hR;rw [if_neg (by omega)];go_enter func45,ntmps45;go_wp2_with fail;refine HI.out.mono ?_;rintro e9 w9 ⟨rfl,bH⟩;replace bH:=bH.symm;subst bH;go_wp2_with fail;go_ret2;exact ⟨rfl,rfl⟩
 have d1:decide (a<0)=false:=by simpa using c1
 by_cases c2:65536≤a
 ·have d2:decide (65536≤a)=true:=by simpa using c2
  rw [if_pos (.inr c2)] at hR;subst hR;rw [if_neg (by omega)];go_enter func45,ntmps45;go_wp2_with fail;refine HI.out.mono ?_;rintro e9 w9 ⟨rfl,bH⟩;replace bH:=bH.symm;subst bH;go_wp2_with fail;go_ret2;exact ⟨rfl,rfl⟩
 have d2:decide (65536≤a)=false:=by simpa using c2
 rw [if_neg (by omega)] at hR;obtain ⟨q,k,rfl,hq,hk⟩:∃q k:Nat,a=((q*64+k:Nat):Int)∧q<1024∧k<64:=⟨(a / 64).toNat,(a % 64).toNat,by omega,by omega,by omega⟩;have e1:(((q*64+k:Nat):Int) / 64).toNat=q:=by omega
 have e2:(((q*64+k:Nat):Int) % 64).toNat=k:=by omega
 rw [e1] at hR ⊢;rw [e2];clear e1 e2;have h0:(0:Int)≤((q*64+k:Nat):Int):=by omega
 have hdv:Int.tdiv ((q*64+k:Nat):Int) 64=(q:Int):=by rw [Int.tdiv_eq_ediv_of_nonneg h0];omega
 have hmd:Int.tmod ((q*64+k:Nat):Int) 64=(k:Int):=by rw [Int.tmod_eq_emod_of_nonneg h0];omega
 have hwq:wrap64 (q:Int)=(q:Int):=by unfold wrap64;omega
 have hql:(q:Int)<1024:=by omega
 have hkl:(k:Int)<64:=by omega
 generalize ((q*64+k:Nat):Int)=a at *;obtain ⟨cs,A,n,cap,hkb,hc,_⟩:=hV.ex;have c0:=(hkb.cell (1+q*66)).trans (hc.kind hq);by_cases hkd:(V.pg q).kind=2
 ·rw [if_neg (by simpa using hkd)] at hR
  subst hR;rw [if_pos rfl];rw [hkd] at c0;clear hkd hkb hc hV;go_enter func45,ntmps45;go_wp2_with fail;refine HI.out.mono ?_;rintro e9 w9 ⟨rfl,bH⟩;replace bH:=bH.symm;subst bH;go_wp2_with fail;go_ret2;exact ⟨rfl,rfl⟩
 ·rw [if_pos hkd] at hR
  subst hR;rw [if_neg (by omega)];generalize (V.pg q).kind=kd at *;have Zd:(kd != 2)=true:=by simpa using hkd
  clear hkb hc hV;go_enter func45,ntmps45;go_wp2_with fail;refine HI.out.mono ?_;rintro e9 w9 ⟨rfl,bH⟩;replace bH:=bH.symm;subst bH;go_wp2_with fail;go_ret2;exact ⟨rfl,rfl⟩
theorem Sg (b:Nat) (a v:Int) (V:Vm) (w:World) (hV:aD w b V) :
  Calls prog 14 #[.pointer (some ⟨b,0,none⟩),.int .i64 a,.int .u8 v] w fun e w'=>e= .returned (.int .i64 (xq V a))∧dw b (om V a v) w w':=by
 have HW:=ae (Sd b a V w hV);have hV':=ae hV;unfold dw;obtain ⟨P,hP⟩:=aj (om V a v);rw [hP];unfold om at hP;unfold whP at HW;obtain ⟨R,hR⟩:=aj (xq V a);rw [hR] at hP HW ⊢;by_cases c0:R=0
 ·subst c0
  rw [if_pos rfl] at hP HW;have ha:¬(a<0∨65536≤a):=fun hc=>by unfold xq at hR;rw [if_pos hc] at hR;omega
  have hq:(a / 64).toNat<1024:=by omega
  have hk:(a % 64).toNat<64:=by omega
  generalize (a / 64).toNat=q at *;generalize (a % 64).toNat=k at *;have hset:=hV.Hy hq hk v;rw [hP] at hset;have hset':=ae hset;obtain ⟨cs,A,n,cap,hkb,hc,_⟩:=hV.ex;have e1:=(hkb.cell (1+q*66+(k+2))).trans (hc.byte hq hk);rw [show 1+q*66+(k+2)=1+q*66+2+k by omega] at e1;have f1:=hkb.frozen;clear hkb hc hV hP hset hR ha;go_enter func14,ntmps14;go_wp2_with fail;refine HW.out.mono ?_;rintro e9 w9 ⟨rfl,bH⟩;replace bH:=bH.symm;subst bH;go_wp2_with fail;go_ret;exact ⟨rfl,hset'.out.1,hset'.out.2⟩
 ·rw [if_neg c0] at hP HW
  subst hP;have d0:(R==0)=false:=by simpa using c0
  clear hR hV;go_enter func14,ntmps14;go_wp2_with fail;refine HW.out.mono ?_;rintro e9 w9 ⟨rfl,bH⟩;replace bH:=bH.symm;subst bH;go_wp2_with fail;go_ret;exact ⟨rfl,hV'.out,af.refl _ _⟩
theorem pI:(prog.info? 63).map (·.size)=some 64:=by kernel_rfl
theorem Sn (b:Nat) (w:World) :
  Calls prog 78 #[.pointer (some ⟨b,0,none⟩)] w fun e w'=>e= .returned (.func (.func 139) #[] #[.pointer (some ⟨w.heap.size,0,none⟩)])∧w'=w.alloc (.cells #[.pointer (some ⟨b,0,none⟩)] 44):=by
 go_enter func78,ntmps78
 go_wp2
 go_ret;exact ⟨by simp,rfl⟩
theorem HY:∀args w,(callFunc 139 args).run prog w= .ok (.enter 139 args) w:=enters_of func139 (by kernel_rfl) rfl
theorem O4 (b B1:Nat) (V:Vm) (cs:Array Value) (v:Value) (K:Nat→Prop) (w:World) (hKb:K b) (hK1:K B1)
  (k1:ag w B1 44 #[.pointer (some ⟨b,0,none⟩)]) (kS:ag w b 71 cs) (hc:jX cs v V) :
  D6 prog 139 #[.pointer (some ⟨B1,0,none⟩)] Wm (fun _=>False) K (aP V 1024) w:=by
 intro m l J Jx W hW hJ hJx hnew hY h0;have kB1:=hW.blk k1 (by simpa using hK1);have BD:=hW.blk kS (by simpa using hKb);have hkd:=ae (fun (wr:World) (h:ag wr b 71 cs) p (hp:p<1024)=>(h.cell (1+p*66)).trans (hc.kind hp));refine callsIn_of_wp func139 rfl trivial ?_ rfl;simp only [ntmps139,List.size_toArray,List.length_cons,List.length_nil,Nat.reduceAdd,Nat.reduceSub,Array.replicate_succ,Array.replicate_zero,List.push_toArray,List.append_toArray,List.nil_append,List.cons_append];clear hW k1 kS hc
 gi_wp2_with fail
 gi_loopw [3] (fun u wr=>∃p:Nat,p≤1024∧u= .int .i64 p∧W.heap.size≤wr.heap.size∧J (fun _=>False) (aP V p) wr∧ag wr B1 44 #[.pointer (some ⟨b,0,none⟩)]∧ag wr b 71 cs∧Hid (bdy V p)) (fun u _=>1024 - (intOf u).toNat)
 case atStart=>exact ⟨0,by omega,rfl,Nat.le_refl _,h0,kB1,BD,ae (.inl rfl)⟩
 case round =>
  clear h0 kB1 BD;obtain ⟨p,hp,rfl,hwz,hJs,kB1,BD,hbd⟩:=hrel;by_cases hlt:p<1024
  ·have hlt':decide ((p:Int)<1024)=true:=by rw [decide_eq_true_eq];omega
   have hpl:(p:Int)<1024:=by omega
   have hcell:=hkd.out wr BD p hlt;have c1:=kB1.cell;obtain ⟨kd,Ze⟩:=aj ((V.pg p).kind);rw [Ze] at hcell;have kX:=ag.new wr 158 #[.int .i64 p,.int .i64 0,.int .i64 kd];have hfa:af (fun _=>False) wr (wr.alloc (.cells #[.int .i64 p,.int .i64 0,.int .i64 kd] 158)):=(af.refl _ wr).alloc _;have hJ2:=hJ _ _ _ _ (hnew _ (fun k=>k=wr.heap.size) _ wr hJs (fun j hj=>.inr (by omega))) (hfa.mono fun _ _ h=>h.elim);have adb:=kB1.alloc (.cells #[.int .i64 p,.int .i64 0,.int .i64 kd] 158);have ade:=BD.alloc (.cells #[.int .i64 p,.int .i64 0,.int .i64 kd] 158);have adf:W.heap.size≤(wr.alloc (.cells #[.int .i64 p,.int .i64 0,.int .i64 kd] 158)).heap.size:=by simp;omega
   have hbx0:wr.heap.size<(wr.alloc (.cells #[.int .i64 p,.int .i64 0,.int .i64 kd] 158)).heap.size:=by simp
   have hne1:B1≠wr.heap.size:=Nat.ne_of_lt kB1.lt;have ajg:b≠wr.heap.size:=Nat.ne_of_lt BD.lt;have afr:=ae Ze;clear Ze
   gi_wp2_with fail
   generalize wr.alloc (.cells #[.int .i64 p,.int .i64 0,.int .i64 kd] 158)=wa at *;generalize wr.heap.size=bx at *;clear hJs kB1 BD hfa hwz hcell c1 hlt'
   gi_loopw [3] (fun u wr=>∃q:Nat,p≤q∧q≤1024∧u= .int .i64 q∧W.heap.size≤wr.heap.size∧bx<wr.heap.size∧J (fun k=>k=bx) (aP V p) wr∧ag wr B1 44 #[.pointer (some ⟨b,0,none⟩)]∧ag wr b 71 cs∧ag wr bx 158 #[.int .i64 p,.int .i64 ((q - p:Nat):Int),.int .i64 kd]∧Hid (∀r,p≤r→r<q→(V.pg r).kind=kd)) (fun u _=>1024 - (intOf u).toNat)
   case atStart=>exact ⟨p,by omega,by omega,rfl,adf,hbx0,hJ2,adb,ade,by rw [Nat.sub_self];exact kX,ae (fun r h1 h2=>by omega)⟩
   case round =>
    clear hJ2 adb ade kX adf hbx0;obtain ⟨q,hq0,hq1,rfl,hwz,hbx,hJs,kB1,BD,kX,hall⟩:=hrel;by_cases hq:q<1024
    ·have hq':decide ((q:Int)<1024)=true:=by rw [decide_eq_true_eq];omega
     have hql:(q:Int)<1024:=by omega
     have e1:=fun z:Ext wr=>(z.blk kB1).cell
     have e2:=fun z:Ext wr=>(z.blk kX).cell
     have hcell:=hkd.out wr BD q hq;have e3:=fun z:Ext wr=>z.cell hcell
     generalize Wo:(V.pg q).kind=kq at *
     gi_upto_region 3 with fail
     refine wpIn_wide.2 ?_;by_cases hkq:kq=kd
     ·have ajh:(kq==kd)=true:=by simpa using hkq
      have afs:Hid (∀r,p≤r→r<q+1→(V.pg r).kind=kd):=ae (fun r h1 h2=>by
       by_cases e:r=q
       ·rw [e,Wo,hkq]
       ·exact hall.out r h1 (by omega))
      clear hkq Wo hall;refine aF (by kernel_rfl) (by kernel_rfl) ?_
      repeat (go_big_quiet_step (fail))
      refine wpQuiet_nil ?_;rintro w3 ⟨⟨_,hw3⟩,rfl⟩;have GJ:=kX.call hw3;have J3:=hJ _ _ wr w3 hJs (.of_below hw3);have Cs:=Nat.le_trans hwz hw3.size;have UO:=Nat.lt_of_lt_of_le hbx hw3.size;have yK:=kB1.call hw3;have Ez:=BD.call hw3;have cX:=GJ.cell;have fX:=GJ.frozen;have F4:af (fun k=>k=bx) w3 (w3.setCell ⟨bx,1,none⟩ (.int .i64 ((q - p+1:Nat):Int))):=af.setCell (T:=fun k=>k=bx) (p:=⟨bx,1,none⟩) (af.refl _ w3) (fun _=>rfl) _;have kX4:=GJ.aO 1 (.int .i64 ((q - p+1:Nat):Int));have hcs1:((q - p:Nat):Int)+1=((q - p+1:Nat):Int):=by omega
      have J4:=hJ _ _ w3 _ J3 (F4.mono fun _ _ h=>.inr h);have OQ:=F4.blk yK hne1;have adg:=F4.blk Ez ajg;have hs4:=F4.size;have anT:((q - p:Nat):Int)<2000:=by omega
      have adh:q - p+1=q+1 - p:=by omega
      rw [adh] at kX4;clear e1 e2 e3 hJs kB1 BD kX J3 yK Ez GJ hw3 F4 hcell
      gi_wp2_with fail
      rw [adh] at J4 OQ adg hs4;go_roundw
      case rel=>exact ⟨q+1,by omega,by omega,by go_num,by omega,by omega,J4,OQ,adg,kX4,afs⟩
      case measure=>simp [intOf];omega
     ·have ajh:(kq==kd)=false:=by simpa using hkq
      have xR:Hid (p<q):=ae (by
       rcases Nat.lt_or_ge p q with h|h
       ·exact h
       ·exfalso
        have:q=p:=by omega
        rw [this] at Wo;exact hkq (Wo.symm.trans afr.out))
      have hbq:Hid (bdy V q):=ae (.inr (.inl (by
       have:=xR.out;rw [Wo,hall.out (q - 1) (by omega) (by omega)]
       exact fun h=>hkq h.symm)))
      clear hkq Wo hq;refine aF (by kernel_rfl) (by kernel_rfl) ?_
      repeat (go_big_quiet_step (fail))
      refine wpQuiet_nil ?_;rintro w3 ⟨⟨_,hw3⟩,rfl⟩;have GJ:=kX.call hw3;have J3:=hJ _ _ wr w3 hJs (.of_below hw3);have Cs:=Nat.le_trans hwz hw3.size;have UO:=Nat.lt_of_lt_of_le hbx hw3.size;have yK:=kB1.call hw3;have Ez:=BD.call hw3;have cX:=GJ.cell;clear e1 e2 e3 hJs kB1 BD kX hw3 hcell;by_cases hk0:kd=0
      ·subst hk0
       have hR:Hid (aP V q=aP V p):=ae (by
        have:=yQ (V:=V) (p:=p) (q - p) (fun r h1 h2=>hall.out r h1 (by have:=xR.out;omega))
        rwa [show p+(q - p)=q by have:=xR.out;omega] at this)
       have J4:=hnew _ (fun _=>False) _ _ J3 (fun _ h=>h.elim);rw [←hR.out] at J4;have Zf:=xR.out
       gi_wp2_with fail
       go_roundw
       case rel=>exact ⟨q,by omega,rfl,Cs,J4,yK,Ez,hbq⟩
       case measure=>simp [intOf];omega
      ·have hk0':(kd != 0)=true:=by simpa using hk0
       have hR:Hid (aP V q=aP V p++[((p:Int),((q - p:Nat):Int),kd)]):=ae (by
        have h1:=xR.out;have h2:=yP (V:=V) (p:=p) (c:=kd) (hbd.out.elim .inl (fun h=>h.elim .inr (fun h=>by omega))) hk0 (q - p - 1) (fun r a1 a2=>hall.out r a1 (by omega));rw [show q - p - 1+1=q - p by omega,show p+(q - p)=q by omega] at h2;exact h2)
       have hpre:Hid (aP V p++[((p:Int),((q - p:Nat):Int),kd)] <+: aP V 1024):=ae (by
        rw [←hR.out];exact Ac hbq.out (by omega))
       have Zf:=xR.out;obtain ⟨fn,tmps,assign,body,hy,qA⟩:=hY (m - 1) (fun k=>k=bx) (aP V p) ((p:Int),((q - p:Nat):Int),kd) w3 J3 (fun k hk=>by rw [hk];exact UO) hpre.out;clear hY hk0
       gi_wp2_with fail
       refine qA.mono ?_;rintro e W4 (⟨rfl,Jy,iI⟩|⟨rfl,GI⟩)
       ·have J5:=hnew _ (fun _=>False) _ _ Jy (fun _ h=>h.elim)
        rw [←hR.out] at J5
        gi_wp2_with fail
        go_roundw
        case rel=>exact ⟨q,by omega,rfl,Nat.le_trans Cs iI.size,J5,iI.blk yK (fun h=>h (.inl hK1)),iI.blk Ez (fun h=>h (.inl hKb)),hbq⟩
        case measure=>simp [intOf];omega
       ·gi_wp2_with fail
        refine bodyPost_ret (results_none rfl _ _ _) rfl ?_;exact ⟨⟨_,rfl⟩,.inr ⟨_,_,hpre.out,GI⟩⟩
    ·obtain rfl:q=1024:=by omega
     have hq':decide (((1024:Nat):Int)<1024)=false:=by decide
     have xR:Hid (p<1024):=ae hlt;have hbq:Hid (bdy V 1024):=ae (.inr (.inr (Nat.le_refl _)));have e1:=fun z:Ext wr=>(z.blk kB1).cell
     have e2:=fun z:Ext wr=>(z.blk kX).cell
     have e3:True:=trivial;have hcell:True:=trivial
     gi_upto_region 3 with fail
     refine wpIn_wide.2 ?_;refine aF (by kernel_rfl) (by kernel_rfl) ?_
     repeat (go_big_quiet_step (fail))
     refine wpQuiet_nil ?_;rintro w3 ⟨⟨_,hw3⟩,rfl⟩;have GJ:=kX.call hw3;have J3:=hJ _ _ wr w3 hJs (.of_below hw3);have Cs:=Nat.le_trans hwz hw3.size;have UO:=Nat.lt_of_lt_of_le hbx hw3.size;have yK:=kB1.call hw3;have Ez:=BD.call hw3;have cX:=GJ.cell;clear e1 e2 e3 hJs kB1 BD kX hw3 hcell;by_cases hk0:kd=0
     ·subst hk0
      have hR:Hid (aP V 1024=aP V p):=ae (by
       have:=yQ (V:=V) (p:=p) (1024 - p) (fun r h1 h2=>hall.out r h1 (by have:=xR.out;omega))
       rwa [show p+(1024 - p)=1024 by have:=xR.out;omega] at this)
      have J4:=hnew _ (fun _=>False) _ _ J3 (fun _ h=>h.elim);rw [←hR.out] at J4;have Zf:=xR.out
      gi_wp2_with fail
      go_roundw
      case rel=>exact ⟨1024,by omega,rfl,Cs,J4,yK,Ez,hbq⟩
      case measure=>simp [intOf];omega
     ·have hk0':(kd != 0)=true:=by simpa using hk0
      have hR:Hid (aP V 1024=aP V p++[((p:Int),((1024 - p:Nat):Int),kd)]):=ae (by
       have h1:=xR.out;have h2:=yP (V:=V) (p:=p) (c:=kd) (hbd.out.elim .inl (fun h=>h.elim .inr (fun h=>by omega))) hk0 (1024 - p - 1) (fun r a1 a2=>hall.out r a1 (by omega));rw [show 1024 - p - 1+1=1024 - p by omega,show p+(1024 - p)=1024 by omega] at h2;exact h2)
      have hpre:Hid (aP V p++[((p:Int),((1024 - p:Nat):Int),kd)] <+: aP V 1024):=ae (by
       rw [←hR.out];exact Ac hbq.out (by omega))
      have Zf:=xR.out;obtain ⟨fn,tmps,assign,body,hy,qA⟩:=hY (m - 1) (fun k=>k=bx) (aP V p) ((p:Int),((1024 - p:Nat):Int),kd) w3 J3 (fun k hk=>by rw [hk];exact UO) hpre.out;clear hY hk0
      gi_wp2_with fail
      refine qA.mono ?_;rintro e W4 (⟨rfl,Jy,iI⟩|⟨rfl,GI⟩)
      ·have J5:=hnew _ (fun _=>False) _ _ Jy (fun _ h=>h.elim)
       rw [←hR.out] at J5
       gi_wp2_with fail
       go_roundw
       case rel=>exact ⟨1024,by omega,rfl,Nat.le_trans Cs iI.size,J5,iI.blk yK (fun h=>h (.inl hK1)),iI.blk Ez (fun h=>h (.inl hKb)),hbq⟩
       case measure=>simp [intOf];omega
      ·gi_wp2_with fail
       refine bodyPost_ret (results_none rfl _ _ _) rfl ?_;exact ⟨⟨_,rfl⟩,.inr ⟨_,_,hpre.out,GI⟩⟩
  ·obtain rfl:p=1024:=by omega
   have hlt':decide (((1024:Nat):Int)<1024)=false:=by decide
   gi_wp2_with fail
   go_end0
   exact ⟨⟨_,rfl⟩,.inl ⟨_,hJs⟩⟩
theorem abD:(prog.info? 158).map (fun i=>(i.zero,i.size,i.bytes))=some (some (.agg #[.int .i64 0,.int .i64 0,.int .i64 0]),3,24):=by kernel_rfl
theorem Ae:∃i0,prog.info? 158=some i0∧i0.zero=some (.agg #[.int .i64 0,.int .i64 0,.int .i64 0])∧i0.size=3∧i0.bytes=24:=by
 obtain ⟨i0,h⟩:=info_parts abD;exact ⟨i0,h⟩
theorem Fa (g:Nat) (lb:Array Value) (K:Nat→Prop) (xs:List Rn) (w:World) (hxs:xs.length≤1000000)
  (hseq:D6 prog g lb Wm (fun _=>False) K xs w) (eg:∀args w,(callFunc g args).run prog w= .ok (.enter g args) w) (hK:∀k,K k→k<w.heap.size) :
  Calls prog 138 #[.slice none 0 0,.func (.func g) #[] lb] w fun e w'=>∃v,e= .returned v∧w'.ownsRow w.heap.size 158 3 v xs.length (fl qj xs)∧Below w.heap.size w w':=by
 obtain ⟨i0,hi,hz0,hz1,hz2⟩:=Ae;obtain ⟨s,hs⟩:=aj (w.heap.size);obtain ⟨W0,hW0⟩:=aj (w.alloc (.cells #[.slice none 0 0] 83));have hs0:W0.heap.size=s+1:=by rw [←hW0,←hs];simp
 have kO:ag W0 s 83 #[.slice none 0 0]:=by rw [←hW0,←hs];exact ag.new _ _ _
 have hb0:Below s w W0:=by rw [←hW0,←hs];exact aV w _
 have FK:af (fun _=>False) w W0:=.of_below (by rw [hs];exact hb0);have hW1:=ae hW0;clear hW0;refine bM func138 rfl ?_;simp only [ntmps138,List.size_toArray,List.length_cons,List.length_nil,Nat.reduceAdd,Nat.reduceSub,Array.replicate_succ,Array.replicate_zero,List.push_toArray,List.append_toArray,List.nil_append,List.cons_append];go_wp2_with fail;rw [hW1.out];clear hW1;have ls1:=kO.lt;have hlen:∀(pre:List Rn) (x:Rn),pre++[x] <+: xs→pre.length<1000000:=fun pre x h=>by
  have:=h.length_le;simp at this;omega
 refine Zi 5 7 158 (gf:=g) (lb:=lb) rfl eg (hseq.later (FK.mono fun _ _ h=>h.elim)) rfl (fun _ h=>h.elim) (fun k h=>by have:=hK k h;omega)
  (fun X pre W=>zS X W s 83 158 (s+3) 3 pre.length (fl qj pre)∧Below s w W∧∀k,X k→s≤k)
  (fun _ _ _ _=>False)
  (fun X pre A B h hf=>⟨h.1.far hf (by rintro (h|h|h|h) <;> first|exact h|exact h.elim|omega) (fun g hg=>by rintro (h|h|h|h) <;> first|exact h|exact h.elim|omega),
   h.2.1.trans (hf.below (by rw [←hs];exact h.2.1.size) (fun k hk=>by rintro (h'|h'|h'|h');exact h';have:=h.2.2 k h';omega;omega;omega)),h.2.2⟩)
  (fun _ _ _ _ _ h _=>h.elim)
  (fun X X' pre A h hX=>⟨h.1.new hX,h.2.1,fun k hk=>(hX _ hk).elim (h.2.2 k) (fun h'=>by have:=h.2.1.size;omega)⟩)
  ⟨⟨_,kO,World.ownsRow_nil _ _ _ _,id,fun _ _=>id⟩,hb0,fun _ h=>h.elim⟩ ?assign ?body ?done (fun _ _ _ _ _ _ h _=>h.elim)
 case assign =>
  intro m l x W C hC;obtain ⟨xn,xc,xl⟩:=x;simp only [Si,List.setIfInBounds_toArray,List.set_cons_succ,List.set_cons_zero] at hC ⊢
  gi_wp2
  exact hC
 case body =>
  rintro m l X pre x Bx Wa W hsz hXlt ⟨uy,hB,yR⟩ hpre hBx kx hBa;simp only [List.setIfInBounds_toArray,List.set_cons_succ,List.set_cons_zero];have hlt:=hlen pre x hpre;obtain ⟨v,hv,hrow,XO,Vv⟩:=uy.ex;obtain ⟨A',cap',rfl,_⟩:=dC hrow;obtain ⟨pl,hpl⟩:=aj (pre.length);obtain ⟨xa,xo,xl⟩:=x;dsimp only at kx;have cx:=kx.cell;have cv:=hv.cell;have fv:=hv.frozen;have kN:=ag.new W 158 #[.int .i64 xa,.int .i64 xo,.int .i64 xl];have aji:∀k,X k→k<W.heap.size:=fun k hk=>by have:=(hXlt k hk).1;have:=kx.lt;omega
  rw [hpl] at hrow hv cv hlt Vv
  gi_wp2_with (gi_at_builtin;refine BB _ rfl (.tmp 8) (.tmp 10) 83 rfl (s+3) 158 i0 (.agg #[.int .i64 0,.int .i64 0,.int .i64 0]) 3 24 underlying83 hi hz0 hz1 hz2 rfl (by decide) _ pl (fl qj pre) rfl (hrow.alloc _) ⟨W.heap.size,0,none⟩ 1 1 [.int .i64 xa,.int .i64 xo,.int .i64 xl] rfl rfl (Zh kN) Sq (by unfold maxLen;omega) (by omega) (by simp;omega) ?_;intro v' w1 hown' hgrow hblk;rw [←Wp pre (xa,xo,xl)] at hown';obtain ⟨hv1,hb2,hf2⟩:=zS.appended hv (by decide) hrow XO Vv hown' hgrow hblk aji;obtain ⟨A2,cap2,rfl,_⟩:=dC hown';have cv1:=hv1.cell;have fv1:=hv1.frozen)
  have hgx:∀g,(Value.slice A' pl cap').ownBlock=some g→s+3≤g∧¬X g:=fun g hg=>⟨(hrow.lt g hg).1,Vv g hg⟩
  have hf3:=hf2 (fun k=>k=s∨(Value.slice A' pl cap').ownBlock=some k) (.inl rfl) (fun g hg=>.inr hg);refine ⟨hf3.mono fun k _ h=>?_,?_,hB.trans (hf3.below (by have:=hB.size;omega) fun k hk=>?_),yR⟩
  ·rintro (h'|h'|h'|h')
   ·have:=hK k h'
    rcases h with h|h
    ·omega
    ·have:=hgx k h;omega
   ·rcases h with h|h
    ·exact XO (h ▸ h')
    ·exact (hgx k h).2 h'
   ·rcases h with h|h
    ·omega
    ·have:=hgx k h;omega
   ·rcases h with h|h
    ·omega
    ·have:=hgx k h;omega
  ·rw [List.length_append,List.length_singleton,hpl];exact hb2
  ·rintro (h|h)
   ·omega
   ·have:=hgx _ h;omega
 case done =>
  rintro X W hsz ⟨uy,hB,yR⟩ hd;obtain ⟨v,hv,hrow,XO,Vv⟩:=uy.ex;have cv:=hv.cell;obtain ⟨A',cap',rfl,_⟩:=dC hrow;rw [hs0] at hd hsz;go_wp2_with fail;rw [hs0];have hfp:af (fun k=>k=s+1) W (W.putObj (s+1) (.deferred none)):=af.putObj (T:=fun k=>k=s+1) (af.refl _ _) (fun _=>rfl) _;have hrow3:=aK hrow hfp (fun g hg h=>by have:=(hrow.lt g hg).1;omega);exact eY (v:=.slice A' xs.length cap') hd (by simp [results,results138,go_sem]) ⟨_,rfl,pU hrow3 (by omega),by rw [hs];exact hB.trans (hfp.below (by have:=hB.size;omega) (fun k hk=>by omega))⟩
theorem JM (g:Nat) (lb:Array Value) (K:Nat→Prop) (xs:List Rn) (w:World) (hxs:xs.length≤1000000)
  (hseq:D6 prog g lb Wm (fun _=>False) K xs w) (eg:∀args w,(callFunc g args).run prog w= .ok (.enter g args) w) (hK:∀k,K k→k<w.heap.size) :
  Calls prog 77 #[.func (.func g) #[] lb] w fun e w'=>∃v,e= .returned v∧w'.ownsRow w.heap.size 158 3 v xs.length (fl qj xs)∧Below w.heap.size w w':=by
 have HA:=ae (Fa g lb K xs w hxs hseq eg hK);go_enter func77,ntmps77
 go_wp2_with (go_at_call 138;refine (HA.out).mono ?_;rintro e w1 ⟨v,rfl,hown,hf⟩)
 go_ret;exact ⟨v,rfl,hown,hf⟩
theorem vR {P:Program} {o:Oper} {a:Act} {w w':World} {v:Value} {K:Act→World→Prop} {Q:Exit→Act→World→Prop} (h:(execOp a.eval o).run P w= .ok (.value v) w') (hK:K (a.put o.dst v) w'):o.wp P a w K Q:=by
 unfold Oper.wp;rw [h];exact hK
theorem MB {P:Program} {ops:Array Oper} {o:Oper} {a:Act} {w:World} {K:Act→World→Prop} {Q:Exit→Act→World→Prop} {E:Prop} (hg:o.guard=none) (h:o.wp P a w K Q) :
  if Region.wanted o (yielded ops a.tmps)=true then o.wp P a w K Q else E:=by
 rw [if_pos (by simp [Region.wanted,hg])];exact h
theorem CK (a:Act) (t:Nat) (x y:Value):(a.put (some t) x).put (some t) y=a.put (some t) y:=by simp [Act.put]
theorem ek (a:Act) (t u:Nat) (x y:Value) (h:t≠u):(a.put (some t) x).put (some u) y=(a.put (some u) y).put (some t) x:=Act.put_comm a x y (fun d hd he=>by cases hd;cases he;exact h rfl)
theorem jB (a:Act) (t:Nat) (x:Value) (h:t<a.tmps.size):(a.put (some t) x).eval (.tmp t)=x:=by simp [Act.eval,Act.put,h]
theorem aY (a:Act) (t u:Nat) (x:Value) (h:t≠u):(a.put (some t) x).eval (.tmp u)=a.eval (.tmp u):=Act.eval_put (fun d hd he=>by cases hd;cases he;exact h rfl)
theorem eu (a:Act) (t:Nat) (x:Value):(a.put (some t) x).tmps.size=a.tmps.size:=by simp [Act.put]
def mO (n:Nat):Code→Option (Array Oper)
 | .region id ops _=>if id=n then some ops else none
 | .seq a b=>match mO n a with
  | some l=>some l
  | none=>mO n b
 | .block _ c=>mO n c
 | .loop c=>mO n c
 | .scope c=>mO n c
 | .cond _ a b=>match mO n a with
  | some l=>some l
  | none=>mO n b
 | _=>none
theorem HZ {P:Program} {o:Oper} {a:Act} {w w1:World} {f:FuncId} {args:Array Value} {C:Value→World→Prop} {K:Act→World→Prop} {Q:Exit→Act→World→Prop} (h:(execOp a.eval o).run P w= .ok (.enter f args) w1)
  (hC:Calls P f args w1 fun e w'=>∃v,e= .returned v∧C v w') (hK:∀v w',C v w'→K (a.put o.dst v) w'):o.wp P a w K Q:=by
 unfold Oper.wp;rw [h];show Calls P f args w1 _;refine hC.mono ?_;rintro e w' ⟨v,rfl,hw⟩;exact hK v w' hw
theorem Sr {P:Program} {op:Oper} {a:Act} {w:World} {K:Act→World→Prop} {Q:Exit→Act→World→Prop} (ty:TypeId) (x y:Operand) (ho:op.op= .store ty x y) (hd:op.dst=none)
  (b o:Nat) (cells:Array Value) (hx:a.eval x= .pointer (some ⟨b,o,none⟩)) (hy:a.eval y= .agg cells)
  (ht:w.there b o cells.size) (hi:(P.info? ty).map (·.size)=some cells.size) (h1:cells.all (·.oneCell')=true)
  (h:K a (w.setCells b o cells.toList)):op.wp P a w K Q :=
 wp_store_mid ty x y ho b o cells hx hy ht hi h1 (by rw [hd];exact h)
theorem MC:(prog.info? 87).map (·.size)=some 18:=by kernel_rfl
def bF (a:Act) (v10 v11 v12 v13 v14 v15 v16 v17 v3:Value):Act:=((((((((a.put (some 10) v10).put (some 11) v11).put (some 12) v12).put (some 13) v13).put (some 14) v14).put (some 15) v15).put (some 16) v16).put (some 17) v17).put (some 3) v3
theorem Zj (a:Act) (hsz:68≤a.tmps.size):bF a (a.eval (.tmp 10)) (a.eval (.tmp 11)) (a.eval (.tmp 12)) (a.eval (.tmp 13)) (a.eval (.tmp 14)) (a.eval (.tmp 15)) (a.eval (.tmp 16)) (a.eval (.tmp 17)) (a.eval (.tmp 3))=a:=by
 have h:∀t:Nat,t<68→a.put (some t) (a.eval (.tmp t))=a:=fun t ht=>by
  have:a.tmps.setIfInBounds t (a.eval (.tmp t))=a.tmps:=by
   apply Array.ext_getElem?;intro i;rw [Array.getElem?_setIfInBounds];split
   ·rename_i e;subst e
    have:t<a.tmps.size:=by omega
    simp [Act.eval,this]
   ·rfl
  simp only [Act.put,this]
 unfold bF;rw [h 10 (by omega),h 11 (by omega),h 12 (by omega),h 13 (by omega),h 14 (by omega),h 15 (by omega),h 16 (by omega),h 17 (by omega),h 3 (by omega)]
section
variable (a:Act) (v10 v11 v12 v13 v14 v15 v16 v17 v3 x:Value)
theorem aft:(bF a v10 v11 v12 v13 v14 v15 v16 v17 v3).put (some 10) x=bF a x v11 v12 v13 v14 v15 v16 v17 v3:=by
 unfold bF;rw [ek _ 3 10 _ _ (by omega),ek _ 17 10 _ _ (by omega),ek _ 16 10 _ _ (by omega),ek _ 15 10 _ _ (by omega),ek _ 14 10 _ _ (by omega),ek _ 13 10 _ _ (by omega),ek _ 12 10 _ _ (by omega),ek _ 11 10 _ _ (by omega),CK]
theorem afu:(bF a v10 v11 v12 v13 v14 v15 v16 v17 v3).put (some 11) x=bF a v10 x v12 v13 v14 v15 v16 v17 v3:=by
 unfold bF;rw [ek _ 3 11 _ _ (by omega),ek _ 17 11 _ _ (by omega),ek _ 16 11 _ _ (by omega),ek _ 15 11 _ _ (by omega),ek _ 14 11 _ _ (by omega),ek _ 13 11 _ _ (by omega),ek _ 12 11 _ _ (by omega),CK]
theorem afv:(bF a v10 v11 v12 v13 v14 v15 v16 v17 v3).put (some 12) x=bF a v10 v11 x v13 v14 v15 v16 v17 v3:=by
 unfold bF;rw [ek _ 3 12 _ _ (by omega),ek _ 17 12 _ _ (by omega),ek _ 16 12 _ _ (by omega),ek _ 15 12 _ _ (by omega),ek _ 14 12 _ _ (by omega),ek _ 13 12 _ _ (by omega),CK]
theorem afw:(bF a v10 v11 v12 v13 v14 v15 v16 v17 v3).put (some 13) x=bF a v10 v11 v12 x v14 v15 v16 v17 v3:=by
 unfold bF;rw [ek _ 3 13 _ _ (by omega),ek _ 17 13 _ _ (by omega),ek _ 16 13 _ _ (by omega),ek _ 15 13 _ _ (by omega),ek _ 14 13 _ _ (by omega),CK]
theorem afx:(bF a v10 v11 v12 v13 v14 v15 v16 v17 v3).put (some 14) x=bF a v10 v11 v12 v13 x v15 v16 v17 v3:=by
 unfold bF;rw [ek _ 3 14 _ _ (by omega),ek _ 17 14 _ _ (by omega),ek _ 16 14 _ _ (by omega),ek _ 15 14 _ _ (by omega),CK]
theorem afy:(bF a v10 v11 v12 v13 v14 v15 v16 v17 v3).put (some 15) x=bF a v10 v11 v12 v13 v14 x v16 v17 v3:=by
 unfold bF;rw [ek _ 3 15 _ _ (by omega),ek _ 17 15 _ _ (by omega),ek _ 16 15 _ _ (by omega),CK]
theorem afz:(bF a v10 v11 v12 v13 v14 v15 v16 v17 v3).put (some 16) x=bF a v10 v11 v12 v13 v14 v15 x v17 v3:=by
 unfold bF;rw [ek _ 3 16 _ _ (by omega),ek _ 17 16 _ _ (by omega),CK]
theorem afA:(bF a v10 v11 v12 v13 v14 v15 v16 v17 v3).put (some 17) x=bF a v10 v11 v12 v13 v14 v15 v16 x v3:=by
 unfold bF;rw [ek _ 3 17 _ _ (by omega),CK]
theorem ajj:(bF a v10 v11 v12 v13 v14 v15 v16 v17 v3).put (some 3) x=bF a v10 v11 v12 v13 v14 v15 v16 v17 x:=by
 unfold bF;rw [CK]
end
section
variable (a:Act) (hsz:68≤a.tmps.size) (v10 v11 v12 v13 v14 v15 v16 v17 v3:Value)
include hsz
theorem Zk:(bF a v10 v11 v12 v13 v14 v15 v16 v17 v3).eval (.tmp 10)=v10:=by
 unfold bF;rw [aY _ 3 10 _ (by omega),aY _ 17 10 _ (by omega),aY _ 16 10 _ (by omega),aY _ 15 10 _ (by omega),aY _ 14 10 _ (by omega),aY _ 13 10 _ (by omega),aY _ 12 10 _ (by omega),aY _ 11 10 _ (by omega),jB _ _ _ (by omega)]
theorem Zl:(bF a v10 v11 v12 v13 v14 v15 v16 v17 v3).eval (.tmp 11)=v11:=by
 unfold bF;rw [aY _ 3 11 _ (by omega),aY _ 17 11 _ (by omega),aY _ 16 11 _ (by omega),aY _ 15 11 _ (by omega),aY _ 14 11 _ (by omega),aY _ 13 11 _ (by omega),aY _ 12 11 _ (by omega),jB _ _ _ (by rw [eu];omega)]
theorem Zm:(bF a v10 v11 v12 v13 v14 v15 v16 v17 v3).eval (.tmp 12)=v12:=by
 unfold bF;rw [aY _ 3 12 _ (by omega),aY _ 17 12 _ (by omega),aY _ 16 12 _ (by omega),aY _ 15 12 _ (by omega),aY _ 14 12 _ (by omega),aY _ 13 12 _ (by omega),jB _ _ _ (by rw [eu,eu];omega)]
theorem Zn:(bF a v10 v11 v12 v13 v14 v15 v16 v17 v3).eval (.tmp 13)=v13:=by
 unfold bF;rw [aY _ 3 13 _ (by omega),aY _ 17 13 _ (by omega),aY _ 16 13 _ (by omega),aY _ 15 13 _ (by omega),aY _ 14 13 _ (by omega),jB _ _ _ (by rw [eu,eu,eu];omega)]
theorem Zo:(bF a v10 v11 v12 v13 v14 v15 v16 v17 v3).eval (.tmp 14)=v14:=by
 unfold bF;rw [aY _ 3 14 _ (by omega),aY _ 17 14 _ (by omega),aY _ 16 14 _ (by omega),aY _ 15 14 _ (by omega),jB _ _ _ (by rw [eu,eu,eu,eu];omega)]
theorem Zp:(bF a v10 v11 v12 v13 v14 v15 v16 v17 v3).eval (.tmp 15)=v15:=by
 unfold bF;rw [aY _ 3 15 _ (by omega),aY _ 17 15 _ (by omega),aY _ 16 15 _ (by omega),jB _ _ _ (by rw [eu,eu,eu,eu,eu];omega)]
theorem Zq:(bF a v10 v11 v12 v13 v14 v15 v16 v17 v3).eval (.tmp 16)=v16:=by
 unfold bF;rw [aY _ 3 16 _ (by omega),aY _ 17 16 _ (by omega),jB _ _ _ (by rw [eu,eu,eu,eu,eu,eu];omega)]
theorem Zr:(bF a v10 v11 v12 v13 v14 v15 v16 v17 v3).eval (.tmp 17)=v17:=by
 unfold bF;rw [aY _ 3 17 _ (by omega),jB _ _ _ (by rw [eu,eu,eu,eu,eu,eu,eu];omega)]
theorem abE:(bF a v10 v11 v12 v13 v14 v15 v16 v17 v3).eval (.tmp 3)=v3:=by
 unfold bF;rw [jB _ _ _ (by rw [eu,eu,eu,eu,eu,eu,eu,eu];omega)]
omit hsz in
theorem UQ:(bF a v10 v11 v12 v13 v14 v15 v16 v17 v3).eval (.tmp 0)=a.eval (.tmp 0):=by
 unfold bF;rw [aY _ 3 0 _ (by omega),aY _ 17 0 _ (by omega),aY _ 16 0 _ (by omega),aY _ 15 0 _ (by omega),aY _ 14 0 _ (by omega),aY _ 13 0 _ (by omega),aY _ 12 0 _ (by omega),aY _ 11 0 _ (by omega),aY _ 10 0 _ (by omega)]
end
noncomputable def Zt:Array Oper:=(Tryz.f26.body.bind (mO 3)).getD #[]
def O5 (B1:Nat):Value:=.func (.func 139) #[] #[.pointer (some ⟨B1,0,none⟩)]
def jO (a0:Act) (w0:World) (b:Nat) (V:Vm) (rv:Value) (D:Nat→Bool) (a:Act) (w:World):Prop :=
 ∃(v10 v11 v12 v13 v14 v15 v16 v17 v3:Value) (B1 s3:Nat),a=bF a0 v10 v11 v12 v13 v14 v15 v16 v17 v3∧Below w0.heap.size w0 w∧(D 0=true→v10= .pointer (some ⟨b,0,none⟩)) ∧
  (D 1=true→v11=O5 B1∧w0.heap.size≤B1∧ag w B1 44 #[.pointer (some ⟨b,0,none⟩)]) ∧
  (D 2=true→w.ownsRow w0.heap.size 158 3 v12 (aP V 1024).length (fl qj (aP V 1024))) ∧
  (D 3=true→v13= .pointer (some ⟨b,0,none⟩))∧(D 4=true→v14= .pointer (some ⟨b,0,none⟩))∧(D 5=true→v15= .pointer (some ⟨b,67585,none⟩))∧(D 6=true→v16=gK rv V.rf.calls V.rf.hits) ∧
  (D 7=true→v17= .agg (gq v12 (.slice none 0 0) (.slice none 0 0) rv V.rf.calls V.rf.hits).toArray) ∧
  (D 8=true→v3= .pointer (some ⟨s3,0,none⟩)∧w0.heap.size≤s3∧ag w s3 87 (if D 9=true then (gq v12 (.slice none 0 0) (.slice none 0 0) rv V.rf.calls V.rf.hits).toArray else (gq (.slice none 0 0) (.slice none 0 0) (.slice none 0 0) (.slice none 0 0) (fun _=>0) (fun _=>0)).toArray)) ∧
  (D 9=true→D 8=true∧D 7=true)∧(D 7=true→D 2=true∧D 6=true)
attribute [local irreducible] Oper.wp in
theorem O6 {Q:Exit→Act→World→Prop} (a0:Act) (w0:World) (b:Nat) (cs:Array Value) (V:Vm) (A:Option Addr) (n cap:Nat) (hsz:68≤a0.tmps.size) (hp0:a0.eval (.tmp 0)= .pointer (some ⟨b,0,none⟩))
  (kS:ag w0 b 71 cs) (hc:jX cs (.slice A n cap) V)
  (hQ:∀(B1 s3:Nat) (v12:Value) (w':World),w0.heap.size≤s3→ag w' s3 87 (gq v12 (.slice none 0 0) (.slice none 0 0) (.slice A n cap) V.rf.calls V.rf.hits).toArray→w'.ownsRow w0.heap.size 158 3 v12 (aP V 1024).length (fl qj (aP V 1024))→Below w0.heap.size w0 w' →
   Q .normal (bF a0 (.pointer (some ⟨b,0,none⟩)) (O5 B1) v12 (.pointer (some ⟨b,0,none⟩)) (.pointer (some ⟨b,0,none⟩)) (.pointer (some ⟨b,67585,none⟩)) (gK (.slice A n cap) V.rf.calls V.rf.hits) (.agg (gq v12 (.slice none 0 0) (.slice none 0 0) (.slice A n cap) V.rf.calls V.rf.hits).toArray) (.pointer (some ⟨s3,0,none⟩))) w') :
  (Code.region 3 Zt true).wp prog Q a0 w0:=by
 conv=>arg 2;arg 2;whnf
 have hbl:=kS.lt;refine OZ (jO a0 w0 b V (.slice A n cap)) (by kernel_rfl) (by simp [pG,Region.binds]) ?ext ?start ?steps ?fin
 case ext =>
  intro D D' a w h hI;have e:∀i,i<10→D i=D' i:=h;have:jO a0 w0 b V (.slice A n cap) D a w=jO a0 w0 b V (.slice A n cap) D' a w:=by
   unfold jO;simp only [e 0 (by omega),e 1 (by omega),e 2 (by omega),e 3 (by omega),e 4 (by omega),e 5 (by omega),e 6 (by omega),e 7 (by omega),e 8 (by omega),e 9 (by omega)]
  exact this ▸ hI
 case start =>
  intro D h;have n:∀i,i<10→¬(D i=true):=fun i hi=>by rw [h i hi];decide
  exact ⟨_,_,_,_,_,_,_,_,_,0,0,(Zj a0 hsz).symm,(Below.refl _ w0).drew,fun h=>absurd h (n 0 (by omega)),fun h=>absurd h (n 1 (by omega)),fun h=>absurd h (n 2 (by omega)),fun h=>absurd h (n 3 (by omega)),fun h=>absurd h (n 4 (by omega)),fun h=>absurd h (n 5 (by omega)),fun h=>absurd h (n 6 (by omega)),fun h=>absurd h (n 7 (by omega)),fun h=>absurd h (n 8 (by omega)),fun h=>absurd h (n 9 (by omega)),fun h=>absurd h (n 7 (by omega))⟩
 case fin =>
  rintro a w ⟨v10,v11,v12,v13,v14,v15,v16,v17,v3,B1,s3,rfl,hb,h0,h1,h2,h3,h4,h5,h6,h7,h8,_,_⟩;obtain rfl:=h0 rfl;obtain ⟨rfl,_,_⟩:=h1 rfl;obtain rfl:=h3 rfl;obtain rfl:=h4 rfl;obtain rfl:=h5 rfl;obtain rfl:=h6 rfl;obtain rfl:=h7 rfl;obtain ⟨rfl,g8,k8⟩:=h8 rfl;simp only [if_true] at k8;exact hQ B1 s3 v12 w g8 k8 (h2 rfl) hb
 case steps =>
  refine ⟨?_,?_,?_,?_,?_,?_,?_,?_,?_,?_,trivial⟩
  all_goals (rintro D a w ⟨v10,v11,v12,v13,v14,v15,v16,v17,v3,B1,s3,rfl,hb,h0,h1,h2,h3,h4,h5,h6,h7,h8,h98,h76⟩ hk he)
  all_goals (refine MB rfl ?_)
  ·refine vR (v:=.pointer (some ⟨b,0,none⟩)) (w':=w) (by simp only [execOp,UQ,hp0];simp [go_sem]) ?_
   show jO a0 w0 b V (.slice A n cap) _ ((bF a0 v10 v11 v12 v13 v14 v15 v16 v17 v3).put (some 10) _) _;rw [aft];refine ⟨_,_,_,_,_,_,_,_,_,B1,s3,rfl,hb,?_⟩;simp only [Nat.reduceBEq,Bool.true_or,Bool.false_or,forall_const];exact ⟨trivial,h1,h2,h3,h4,h5,h6,h7,h8,h98,h76⟩
  ·have e:=h0 (he ⟨0,.data⟩ (by simp) rfl)
   have ev':(bF a0 v10 v11 v12 v13 v14 v15 v16 v17 v3).tmps[10]?.getD undef= .pointer (some ⟨b,0,none⟩):=by
    have:=(Zk a0 hsz v10 v11 v12 v13 v14 v15 v16 v17 v3).trans e;simpa [Act.eval] using this
   refine HZ (f:=78) (args:=#[.pointer (some ⟨b,0,none⟩)]) (w1:=w) (C:=fun v w'=>v=O5 w.heap.size∧w'=w.alloc (.cells #[.pointer (some ⟨b,0,none⟩)] 44)) (by simp only [execOp];simp [go_sem,ev']) ((Sn b w).mono fun e w' ⟨h1,h2⟩=>⟨_,h1,rfl,h2⟩) ?_;rintro v w' ⟨rfl,rfl⟩;show jO a0 w0 b V (.slice A n cap) _ ((bF a0 v10 v11 v12 v13 v14 v15 v16 v17 v3).put (some 11) _) _;rw [afu];refine ⟨_,_,_,_,_,_,_,_,_,w.heap.size,s3,rfl,hb.alloc hb.size _,?_⟩;simp only [Nat.reduceBEq,Nat.reduceAdd,Bool.true_or,Bool.false_or,forall_const];have ME:=aV w (.cells #[.pointer (some ⟨b,0,none⟩)] 44);exact ⟨h0,⟨trivial,hb.size,ag.new _ _ _⟩,fun d=>aB (h2 d) ME,h3,h4,h5,h6,h7,fun d=>⟨(h8 d).1,(h8 d).2.1,(h8 d).2.2.call ME⟩,h98,h76⟩
  ·obtain ⟨rfl,g1,k1⟩:=h1 (he ⟨1,.data⟩ (by simp) rfl)
   have ev':(bF a0 v10 (O5 B1) v12 v13 v14 v15 v16 v17 v3).tmps[11]?.getD undef=O5 B1:=by
    have:=Zl a0 hsz v10 (O5 B1) v12 v13 v14 v15 v16 v17 v3;simpa [Act.eval] using this
   have hd7:D 7=false:=by cases h:D 7 with|false=>rfl|true=>rw [(h76 h).1] at hk;cases hk
   have hd9:D 9=false:=by
    cases h:D 9 with
    | false=>rfl
    | true=>rw [(h98 h).2] at hd7;cases hd7
   refine HZ (f:=77) (args:=#[O5 B1]) (w1:=w) (C:=fun v w'=>w'.ownsRow w.heap.size 158 3 v (aP V 1024).length (fl qj (aP V 1024))∧Below w.heap.size w w') (by simp only [execOp];simp [go_sem,ev']) ((JM _ _ (fun k=>k=b∨k=B1) (aP V 1024) w (Nat.le_trans (uM V 1024) (by omega)) (O4 b B1 V cs _ _ w (.inl rfl) (.inr rfl) k1 (kS.call hb) hc) HY (fun k hk=>hk.elim (fun h=>by rw [h];exact Nat.lt_of_lt_of_le hbl hb.size) (fun h=>by rw [h];exact k1.lt))).mono fun e w' ⟨v,h1,h2,h3⟩=>⟨v,h1,h2,h3⟩) ?_;rintro v w' ⟨hrow,ME⟩;show jO a0 w0 b V (.slice A n cap) _ ((bF a0 v10 (O5 B1) v12 v13 v14 v15 v16 v17 v3).put (some 12) _) _;rw [afv];refine ⟨_,_,_,_,_,_,_,_,_,B1,s3,rfl,hb.trans (ME.mono hb.size),?_⟩;simp only [Nat.reduceBEq,Nat.reduceAdd,Bool.true_or,Bool.false_or,forall_const];simp only [hd7,hd9] at h7 h8 ⊢;exact ⟨h0,fun _=>⟨trivial,g1,k1.call ME⟩,pU hrow hb.size,h3,h4,h5,h6,fun d=>(by cases d),fun d=>⟨(h8 d).1,(h8 d).2.1,(h8 d).2.2.call ME⟩,fun d=>(by cases d),fun d=>(by cases d)⟩
  ·refine vR (v:=.pointer (some ⟨b,0,none⟩)) (w':=w) (by simp only [execOp,UQ,hp0];simp [go_sem]) ?_
   show jO a0 w0 b V (.slice A n cap) _ ((bF a0 v10 v11 v12 v13 v14 v15 v16 v17 v3).put (some 13) _) _;rw [afw];refine ⟨_,_,_,_,_,_,_,_,_,B1,s3,rfl,hb,?_⟩;simp only [Nat.reduceBEq,Nat.reduceAdd,Bool.true_or,Bool.false_or,forall_const];exact ⟨h0,h1,h2,trivial,h4,h5,h6,h7,h8,h98,h76⟩
  ·have e:=h3 (he ⟨3,.data⟩ (by simp) rfl)
   refine vR (v:=.pointer (some ⟨b,0,none⟩)) (w':=w) (by simp only [execOp,Zn _ hsz,e];simp [go_sem]) ?_;show jO a0 w0 b V (.slice A n cap) _ ((bF a0 v10 v11 v12 v13 v14 v15 v16 v17 v3).put (some 14) _) _;rw [afx];refine ⟨_,_,_,_,_,_,_,_,_,B1,s3,rfl,hb,?_⟩;simp only [Nat.reduceBEq,Nat.reduceAdd,Bool.true_or,Bool.false_or,forall_const];exact ⟨h0,h1,h2,h3,trivial,h5,h6,h7,h8,h98,h76⟩
  ·have e:=h4 (he ⟨4,.data⟩ (by simp) rfl)
   refine vR (v:=.pointer (some ⟨b,67585,none⟩)) (w':=w) (by simp only [execOp,Zo _ hsz,e];simp [go_sem]) ?_;show jO a0 w0 b V (.slice A n cap) _ ((bF a0 v10 v11 v12 v13 v14 v15 v16 v17 v3).put (some 15) _) _;rw [afy];refine ⟨_,_,_,_,_,_,_,_,_,B1,s3,rfl,hb,?_⟩;simp only [Nat.reduceBEq,Nat.reduceAdd,Bool.true_or,Bool.false_or,forall_const];exact ⟨h0,h1,h2,h3,h4,trivial,h6,h7,h8,h98,h76⟩
  ·have e:=h5 (he ⟨5,.data⟩ (by simp) rfl)
   have kb:=kS.call hb;have oK:w.rangeAt b 67585 (aM (.slice A n cap) V.rf.calls V.rf.hits):=fun j v hj=>by
    have Gh:j<15:=(List.getElem?_eq_some_iff.1 hj).1;rw [kb.cell,hc.rf j Gh];exact hj
   have hd7:D 7=false:=by cases h:D 7 with|false=>rfl|true=>rw [(h76 h).2] at hk;cases hk
   refine wp_load_mid 69 (.tmp 15) rfl b 67585 ((Zp _ hsz ..).trans e) (aM (.slice A n cap) V.rf.calls V.rf.hits) _ oK underlying69 rfl dM ?_;show jO a0 w0 b V (.slice A n cap) _ ((bF a0 v10 v11 v12 v13 v14 v15 v16 v17 v3).put (some 16) _) _;rw [afz];refine ⟨_,_,_,_,_,_,_,_,_,B1,s3,rfl,hb,?_⟩;simp only [Nat.reduceBEq,Nat.reduceAdd,Bool.true_or,Bool.false_or,forall_const];simp only [hd7] at h7 ⊢;exact ⟨h0,h1,h2,h3,h4,h5,rfl,fun d=>(by cases d),h8,fun d=>(by rw [(h98 d).2] at hd7;cases hd7),fun d=>(by cases d)⟩
  ·have d2:=he ⟨2,.data⟩ (by simp) rfl
   have d6:=he ⟨6,.data⟩ (by simp) rfl;obtain rfl:=h6 d6;obtain ⟨A',cap',rfl,_⟩:=dC (h2 d2);have ajk:(bF a0 v10 v11 (.slice A' (aP V 1024).length cap') v13 v14 v15 (gK (.slice A n cap) V.rf.calls V.rf.hits) v17 v3).tmps[12]?.getD undef= .slice A' (aP V 1024).length cap':=by
    have:=Zm a0 hsz v10 v11 (.slice A' (aP V 1024).length cap') v13 v14 v15 (gK (.slice A n cap) V.rf.calls V.rf.hits) v17 v3;simpa [Act.eval] using this
   have adi:(bF a0 v10 v11 (.slice A' (aP V 1024).length cap') v13 v14 v15 (gK (.slice A n cap) V.rf.calls V.rf.hits) v17 v3).tmps[16]?.getD undef=gK (.slice A n cap) V.rf.calls V.rf.hits:=by
    have:=Zq a0 hsz v10 v11 (.slice A' (aP V 1024).length cap') v13 v14 v15 (gK (.slice A n cap) V.rf.calls V.rf.hits) v17 v3;simpa [Act.eval] using this
   refine vR (v:=.agg (gq (.slice A' (aP V 1024).length cap') (.slice none 0 0) (.slice none 0 0) (.slice A n cap) V.rf.calls V.rf.hits).toArray) (w':=w) (by
    generalize bF a0 v10 v11 (.slice A' (aP V 1024).length cap') v13 v14 v15 (gK (.slice A n cap) V.rf.calls V.rf.hits) v17 v3=aa at *;generalize (aP V 1024).length=N at *;unfold gK aM at adi;unfold gq aM;simp only [execOp];simp [go_sem,ajk,adi]) ?_
   show jO a0 w0 b V (.slice A n cap) _ ((bF a0 v10 v11 (.slice A' (aP V 1024).length cap') v13 v14 v15 (gK (.slice A n cap) V.rf.calls V.rf.hits) v17 v3).put (some 17) _) _;rw [afA];refine ⟨_,_,_,_,_,_,_,_,_,B1,s3,rfl,hb,?_⟩;simp only [Nat.reduceBEq,Nat.reduceAdd,Bool.true_or,Bool.false_or,forall_const];exact ⟨h0,h1,h2,h3,h4,h5,fun _=>trivial,trivial,h8,fun d=>⟨(h98 d).1,trivial⟩,d2,d6⟩
  ·have hd9:D 9=false:=by cases h:D 9 with|false=>rfl|true=>rw [(h98 h).1] at hk;cases hk
   have ME:=aV w (.cells (gq (.slice none 0 0) (.slice none 0 0) (.slice none 0 0) (.slice none 0 0) (fun _=>0) (fun _=>0)).toArray 87);refine vR (v:=.pointer (some ⟨w.heap.size,0,none⟩)) (w':=w.alloc (.cells (gq (.slice none 0 0) (.slice none 0 0) (.slice none 0 0) (.slice none 0 0) (fun _=>0) (fun _=>0)).toArray 87)) (by unfold gq aM;simp [execOp,go_sem]) ?_;show jO a0 w0 b V (.slice A n cap) _ ((bF a0 v10 v11 v12 v13 v14 v15 v16 v17 v3).put (some 3) _) _;rw [ajj];refine ⟨_,_,_,_,_,_,_,_,_,B1,w.heap.size,rfl,hb.alloc hb.size _,?_⟩;simp only [Nat.reduceBEq,Nat.reduceAdd,Bool.true_or,Bool.false_or,forall_const];simp only [hd9];exact ⟨h0,fun d=>⟨(h1 d).1,(h1 d).2.1,(h1 d).2.2.call ME⟩,fun d=>aB (h2 d) ME,h3,h4,h5,h6,h7,⟨trivial,hb.size,ag.new _ _ _⟩,fun d=>(by cases d),h76⟩
  ·have d8:=he ⟨8,.data⟩ (by simp) rfl
   have d7:=he ⟨7,.data⟩ (by simp) rfl;obtain ⟨d2,d6⟩:=h76 d7;obtain ⟨rfl,g8,k8⟩:=h8 d8;obtain rfl:=h7 d7;have hrow:=h2 d2;obtain ⟨A',cap',rfl,_⟩:=dC hrow;have k8':ag w s3 87 (gq (.slice none 0 0) (.slice none 0 0) (.slice none 0 0) (.slice none 0 0) (fun _=>0) (fun _=>0)).toArray:=by rw [hk] at k8;exact k8
   have hF:=af.puts (T:=fun k=>k=s3) rfl (gq (.slice A' (aP V 1024).length cap') (.slice none 0 0) (.slice none 0 0) (.slice A n cap) V.rf.calls V.rf.hits) 0 w w (af.refl _ _);have kP:=ag.puts (g:=s3) (t:=87) (w:=w) (cs:=#[]) (gq (.slice A' (aP V 1024).length cap') (.slice none 0 0) (.slice none 0 0) (.slice A n cap) V.rf.calls V.rf.hits) 0 w _ k8';rw [eB (by rfl)] at kP;have adj:(gq (.slice A' (aP V 1024).length cap') (.slice none 0 0) (.slice none 0 0) (.slice A n cap) V.rf.calls V.rf.hits).toArray.size=18:=by rw [List.size_toArray];rfl
   have ht:w.there s3 0 (gq (.slice A' (aP V 1024).length cap') (.slice none 0 0) (.slice none 0 0) (.slice A n cap) V.rf.calls V.rf.hits).toArray.size:=by rw [adj];exact dP k8' 0 18 (by rw [List.size_toArray];exact Nat.le_refl _)
   have jL:(prog.info? 87).map (·.size)=some (gq (.slice A' (aP V 1024).length cap') (.slice none 0 0) (.slice none 0 0) (.slice A n cap) V.rf.calls V.rf.hits).toArray.size:=by rw [adj];exact MC
   refine Sr 87 (.tmp 3) (.tmp 17) rfl rfl s3 0 (gq (.slice A' (aP V 1024).length cap') (.slice none 0 0) (.slice none 0 0) (.slice A n cap) V.rf.calls V.rf.hits).toArray (abE _ hsz ..) (Zr _ hsz ..) ht jL (Go.all_oneCell_toArray (H8 rfl rfl rfl rfl _ _)) ?_;refine ⟨_,_,_,_,_,_,_,_,_,B1,s3,rfl,hb.trans (hF.below hb.size (fun k hk e=>by omega)),?_⟩;simp only [Nat.reduceBEq,Nat.reduceAdd,Bool.true_or,Bool.false_or,forall_const,if_true];exact ⟨h0,fun d=>⟨(h1 d).1,(h1 d).2.1,hF.blk (h1 d).2.2 (ag.uR (h1 d).2.2 k8' (by decide))⟩,fun _=>aK hrow hF (fun g hg h=>di hrow (hg.trans (congrArg some h)) k8' (by decide)),h3,h4,h5,h6,fun _=>trivial,fun _=>⟨trivial,g8,kP⟩,⟨d8,d7⟩,h76⟩
def fq (k:IntKind) (n:Nat) (f:Nat→Int):Array Value:=((List.range n).map fun i=>.int k (f i)).toArray
theorem qy {k:IntKind} {n:Nat} {f:Nat→Int} {i:Nat} (h:i<n):(fq k n f)[i]? = some (.int k (f i)):=by
 unfold fq;rw [List.getElem?_toArray,List.getElem?_map,List.getElem?_range h];rfl
theorem EA (f g:Nat→Int) (w:World):∀is:List Nat,(∀i∈is,i<64)→(Op.eqItems 9999 5 1 (fq .u8 64 f) (fq .u8 64 g) is).run prog w= .ok (is.all fun i=>f i==g i) w
 | [],_=>by simp [Op.eqItems]
 | i::is,h=>by
  have ih:=EA f g w is (fun j hj=>h j (by simp [hj]));have h1:=qy (k:=.u8) (f:=f) (h i (by simp));have h2:=qy (k:=.u8) (f:=g) (h i (by simp));have a3:=Tryz.isAgg5;have he:=run_equalIn_int (P:=prog) w 9998 5 .u8 _ (f i) (g i) underlying5;generalize fq .u8 64 f=X at *;generalize fq .u8 64 g=Y at *;have p1:(part 5 X (i*1)).run prog w= .ok (.int .u8 (f i)) w:=by simp [part,a3,h1]
  have p2:(part 5 Y (i*1)).run prog w= .ok (.int .u8 (g i)) w:=by simp [part,a3,h2]
  simp only [Op.eqItems,Sem.run_bind,p1,p2,he,Result.andThen_ok,List.all_cons];cases f i==g i with
  | false=>simp
  | true=>simp only [Bool.not_true,Bool.false_eq_true,if_false,Bool.true_and];exact ih
theorem zx (f g:Nat→Int) (w:World):(Op.equalIn 10000 63 (.agg (fq .u8 64 f)) (.agg (fq .u8 64 g))).run prog w= .ok ((List.range 64).all fun i=>f i==g i) w:=by
 obtain ⟨i0,hi⟩:=info_of_underlying (P:=prog) underlying5;rw [run_equalIn_array w 9999 _ _ underlying63 hi];have hc:prog.cellsOf 5=1:=by kernel_rfl
 rw [hc];exact EA f g w _ (fun i hi=>List.mem_range.1 hi)
end Go.Proofs.YtjmmgoijnhnnaaaGreat
