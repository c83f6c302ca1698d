/- Walks of the library: slices.Insert of a span at the front of a list that has room; any list. -/
import Derived.Shelf.Abstract
import Derived.Test.YtjmmgoijnhnnaaaGreatR4
set_option maxRecDepth 100000
set_option maxHeartbeats 12800000
namespace Go.Pol
open Go Go.RowKit Go.Proofs.Tryz
def jk (S:List Sp×Vm) (x:Sp):List Sp×Vm:=(if (bJ S.2 x.1 x.2 4 3 1).1=0 then S.1 else x::S.1,(bJ S.2 x.1 x.2 4 3 1).2)
def oL (G:List Sp):List Sp→List Sp→Vm→List Sp×Int×Vm
 | _,[],V=>(G,0,V)
 | d,x::r,V=>if (bJ V x.1 x.2 4 1 3).1=0 then oL G (x::d) r (bJ V x.1 x.2 4 1 3).2 else ((d.foldl jk ([],(bJ V x.1 x.2 4 1 3).2)).1,(bJ V x.1 x.2 4 1 3).1,(d.foldl jk ([],(bJ V x.1 x.2 4 1 3).2)).2)
def jw (V:Vm) (ck:Int) (G:List Sp):List Sp×Int×Vm:=if ck=0 then oL G [] G V else ([],ck,V)
def uZ (w:World) (lo hi:Nat):List Nat→List Sp→Prop
 | [],[]=>True
 | p::ps,x::xs=>(lo≤p∧p<hi∧ag w p 140 #[.int .i64 x.1,.int .i64 x.2])∧uZ w lo hi ps xs
 | _,_=>False
theorem uZ.far {w w':World} {T:Nat→Prop} {lo hi:Nat} (hF:af T w w') (hT:∀k,lo≤k→k<hi→¬T k):∀(ps:List Nat) (xs:List Sp),uZ w lo hi ps xs→uZ w' lo hi ps xs
 | [],[],_=>trivial
 | [],_::_,h=>h
 | _::_,[],h=>h
 | _::ps,_::xs,h=>⟨⟨h.1.1,h.1.2.1,hF.blk h.1.2.2 (hT _ h.1.1 h.1.2.1)⟩,uZ.far hF hT ps xs h.2⟩
theorem uZ.more {w:World} {lo hi hi':Nat} (hh:hi≤hi'):∀(ps:List Nat) (xs:List Sp),uZ w lo hi ps xs→uZ w lo hi' ps xs
 | [],[],_=>trivial
 | [],_::_,h=>h
 | _::_,[],h=>h
 | _::ps,_::xs,h=>⟨⟨h.1.1,Nat.lt_of_lt_of_le h.1.2.1 hh,h.1.2.2⟩,uZ.more hh ps xs h.2⟩
structure Nd where
 par:Int
 lim:Int
 own:Int
 iZ:Int
 cl:Bool
 all:Int
def nd0:Nd:=⟨0,0,0,0,false,0⟩
def Rc (x:Nd):List Value:=[.int .i64 x.par,.int .i64 x.lim,.int .i64 x.own,.int .i64 x.iZ,.bool x.cl,.int .i64 x.all]
theorem yu (x:Nd):(Rc x).length=6:=rfl
def ji (n:Nat):List Nat:=(List.range (n+1)).reverse
theorem oZ {n i:Nat}:i∈ji n↔i≤n:=by unfold ji;simp;omega
def ig:List Nd→Int
 | []=>0
 | x::r=>x.own+ig r
structure bg (L:List Nd):Prop where
 pos:0<L.length
 few:L.length≤64
 chain:∀i,i<L.length→(L.getD i nd0).cl=false∧(L.getD i nd0).par=(i:Int) - 1
 lim:∀x∈L,0≤x.lim∧x.lim≤4096
 own:∀x∈L,0≤x.own
 iZ:∀x∈L,x.all≤x.iZ∧x.iZ≤4096
 all:∀i,i<L.length→(L.getD i nd0).all=ig (L.drop i)
structure jE (L:List Nd):Prop where
 pos:0<L.length
 few:L.length≤64
 chain:∀i,i<L.length→(L.getD i nd0).cl=false∧(L.getD i nd0).par=(i:Int) - 1
theorem bg.ch {L:List Nd} (h:bg L):jE L:=⟨h.pos,h.few,h.chain⟩
theorem Od:∀{L:List Nd},(∀x∈L,0≤x.own)→0≤ig L
 | [],_=>by simp [ig]
 | x::r,h=>by
  have:=Od (L:=r) (fun y hy=>h y (by simp [hy]));have:=h x (by simp);simp only [ig];omega
theorem KG {α:Type} {L:List α} {i:Nat} (d:α) (h:i<L.length):L.getD i d∈L:=by
 rw [List.getD_eq_getElem?_getD,List.getElem?_eq_getElem h];exact List.getElem_mem h
theorem Re {α:Type} (d:α) (L:List α) (i:Nat) (h:i<L.length):L.drop i=L.getD i d::L.drop (i+1):=by
 rw [List.drop_eq_getElem_cons h,List.getD_eq_getElem?_getD,List.getElem?_eq_getElem h];rfl
section
variable {L:List Nd} (h:bg L)
include h
theorem bg.get {i:Nat} (hi:i<L.length):0≤(L.getD i nd0).lim∧(L.getD i nd0).lim≤4096∧0≤(L.getD i nd0).own∧(L.getD i nd0).own≤(L.getD i nd0).all∧0≤(L.getD i nd0).all∧(L.getD i nd0).all≤(L.getD i nd0).iZ∧(L.getD i nd0).iZ≤4096:=by
 have hm:=KG nd0 hi;have h1:=h.lim _ hm;have h2:=h.own _ hm;have h3:=h.iZ _ hm;have h4:=h.all i hi;rw [Re nd0 L i hi] at h4;simp only [ig] at h4;have h5:=Od (L:=L.drop (i+1)) (fun x hx=>h.own x (List.mem_of_mem_drop hx));omega
end
theorem gW {α:Type} (L:List α) (n i:Nat) (f:α→α):(L.modify n f)[i]? = if n=i then (L[i]?).map f else L[i]? := by
 rw [List.getElem?_modify];by_cases h:n=i
 ·simp [h]
 ·simp [h]
def sG (p:Int) (x:Nd):Nd:={ x with all:=x.all+p,iZ:=max x.iZ (x.all+p) }
def qQ (L:List Nd) (n:Nat) (p:Int):List Nd:=(ji n).foldl (fun L i=>L.modify i (sG p)) L
theorem Bc:∀(ps:List Nat) (L:List Nd) (p:Int),ps.Nodup→∀i,(ps.foldl (fun L i=>L.modify i (sG p)) L)[i]? = if i∈ps then (L[i]?).map (sG p) else L[i]?
 | [],L,p,_,i=>by simp
 | q::ps,L,p,hn,i=>by
  rw [List.foldl_cons,Bc ps _ p (List.nodup_cons.1 hn).2 i,gW];by_cases h1:q=i
  ·subst h1
   rw [if_neg (List.nodup_cons.1 hn).1,if_pos rfl,if_pos (by simp)]
  ·rw [if_neg h1]
   have h2:¬i=q:=fun e=>h1 e.symm
   simp only [List.mem_cons,h2,false_or]
theorem jE.mod {L:List Nd} (h:jE L) (n:Nat) (f:Nd→Nd) (hf:∀x,(f x).cl=x.cl∧(f x).par=x.par):jE (L.modify n f):=by
 refine ⟨by simpa using h.pos,by simpa using h.few,fun i hi=>?_⟩;rw [List.length_modify] at hi;have hc:=h.chain i hi;rw [List.getD_eq_getElem?_getD] at hc ⊢;rw [gW];rw [List.getElem?_eq_getElem hi] at hc ⊢;by_cases e:n=i
 ·rw [if_pos e]
  simp only [Option.map_some,Option.getD_some] at hc ⊢;rw [(hf _).1,(hf _).2];exact hc
 ·rw [if_neg e];exact hc
theorem jE.fold:∀(ps:List Nat) {L:List Nd} (p:Int),jE L→jE (ps.foldl (fun L i=>L.modify i (sG p)) L)
 | [],_,_,h=>h
 | q::ps,_,p,h=>jE.fold ps p (h.mod q (sG p) (fun _=>⟨rfl,rfl⟩))
theorem Cf (n:Nat):(ji n).Nodup:=by
 unfold ji;exact List.pairwise_reverse.2 (List.nodup_range.imp fun h=>Ne.symm h)
theorem Oe (L:List Nd) (n:Nat) (p:Int) (i:Nat):(qQ L n p)[i]? = if i≤n then (L[i]?).map (sG p) else L[i]? := by
 unfold qQ;rw [Bc _ _ _ (Cf n)];simp only [oZ]
theorem rP:∀(ps:List Nat) (L:List Nd) (p:Int),(ps.foldl (fun L i=>L.modify i (sG p)) L).length=L.length
 | [],_,_=>rfl
 | q::ps,L,p=>by rw [List.foldl_cons,rP ps];simp
theorem zl (L:List Nd) (n:Nat) (p:Int):(qQ L n p).length=L.length:=rP _ _ _
def bQ (L:List Nd) (i:Nat):Int:=(L.getD i nd0).lim - (L.getD i nd0).all
def jI (L:List Nd) (n:Nat):Nat:=(ji n).foldl (fun b p=>if bQ L p<bQ L b then p else b) n
theorem Dq (L:List Nd):∀(ps:List Nat) (b m:Nat),b≤m→(∀p∈ps,p≤m)→ps.foldl (fun b p=>if bQ L p<bQ L b then p else b) b≤m
 | [],_,_,h,_=>h
 | q::ps,b,m,h,hp=>Dq L ps _ m (by dsimp only;split;exact hp q (by simp);exact h) (fun p hq=>hp p (by simp [hq]))
theorem Gv (L:List Nd) (n:Nat):jI L n≤n:=Dq L _ n n (Nat.le_refl _) (fun _ hp=>oZ.1 hp)
theorem Gw (L:List Nd):∀(ps:List Nat) (b:Nat),bQ L (ps.foldl (fun b p=>if bQ L p<bQ L b then p else b) b)≤bQ L b∧∀p∈ps,bQ L (ps.foldl (fun b p=>if bQ L p<bQ L b then p else b) b)≤bQ L p
 | [],b=>⟨Int.le_refl _,fun p hp=>(by cases hp)⟩
 | q::ps,b=>by
  have h:=Gw L ps (if bQ L q<bQ L b then q else b);rw [List.foldl_cons];have h1:bQ L (if bQ L q<bQ L b then q else b)≤bQ L b∧bQ L (if bQ L q<bQ L b then q else b)≤bQ L q:=by split <;> omega
  refine ⟨by omega,fun p hp=>?_⟩;rcases List.mem_cons.1 hp with rfl|hp
  ·omega
  ·exact h.2 p hp
def qD (L:List Nd) (n:Nat):Int:=max (bQ L (jI L n)) 0
theorem VO (L:List Nd) (n i:Nat) (hi:i≤n):bQ L i<qD L n→qD L n=0:=by
 intro h;have h1:=(Gw L (ji n) n).2 i (oZ.2 hi);unfold qD jI at *;omega
def iO (L:List Nd) (n:Nat) (p:Int):Int×List Nd :=
 if p<0∨4096<p then (7,L) else if qD L n<p then (5,L) else (0,qQ (L.modify n fun x=>{ x with own:=x.own+p }) n p)
def iT (L:List Nd) (n:Nat) (p:Int):Int×List Nd :=
 if p<0∨4096<p then (7,L) else if (L.getD n nd0).own<p then (9,L) else (0,qQ (L.modify n fun x=>{ x with own:=x.own - p }) n (-p))
def fo (l:Int):List Nd:=[⟨-1,l,0,0,false,0⟩]
theorem Cg {L:List Nd} {i:Nat} {x:Nd} (h:L[i]? = some x):L.getD i nd0=x:=by rw [List.getD_eq_getElem?_getD,h];rfl
theorem Ch:∀(L:List Nd) (n:Nat) (p:Int),n<L.length→ig (L.modify n fun x=>{ x with own:=x.own+p })=ig L+p
 | [],n,p,h=>by simp at h
 | x::r,0,p,_=>by simp only [List.modify_zero_cons,ig];omega
 | x::r,n+1,p,h=>by
  have:=Ch r n p (by simpa using h);simp only [List.modify_succ_cons,ig,this];omega
theorem Dr {L M:List Nd} (hl:L.length=M.length) (h:∀i,i<L.length→(L.getD i nd0).own=(M.getD i nd0).own):ig L=ig M:=by
 induction L generalizing M with
 | nil =>
  match M,hl with
  | [],_=>rfl
 | cons x r ih =>
  match M,hl with
  | y::s,hl =>
   have h0:=h 0 (by simp);simp only [List.getD_cons_zero] at h0;simp only [ig,h0,ih (M:=s) (by simpa using hl) (fun i hi=>by have:=h (i+1) (by simpa using hi);simpa using this)]
theorem bg.Ur {L:List Nd} (h:bg L) {n:Nat} (hn:n<L.length) {p:Int} (ho:0≤(L.getD n nd0).own+p) (ha:∀i,i≤n→(L.getD i nd0).all+p≤4096) :
  bg (qQ (L.modify n fun x=>{ x with own:=x.own+p }) n p):=by
 obtain ⟨M,hM⟩:=aj (qQ (L.modify n fun x=>{ x with own:=x.own+p }) n p);have hlen:M.length=L.length:=by rw [←hM,zl];simp
 have hat:∀i,i<L.length→M.getD i nd0=(if i≤n then sG p (if n=i then { L.getD i nd0 with own:=(L.getD i nd0).own+p } else L.getD i nd0) else L.getD i nd0):=fun i hi=>by
  rw [←hM];refine Cg ?_;have hg:L[i]? = some (L.getD i nd0):=by rw [List.getD_eq_getElem?_getD,List.getElem?_eq_getElem hi];rfl
  rw [Oe,gW,hg];by_cases h1:i≤n
  ·rw [if_pos h1,if_pos h1]
   by_cases h2:n=i
   ·rw [if_pos h2,if_pos h2];rfl
   ·rw [if_neg h2,if_neg h2];rfl
  ·rw [if_neg h1,if_neg h1,if_neg (by omega)]
 rw [hM];have hmem:∀x∈M,∃i,i<L.length∧x=M.getD i nd0:=fun x hx=>by
  obtain ⟨i,hi,rfl⟩:=List.getElem_of_mem hx;exact ⟨i,by omega,by rw [List.getD_eq_getElem?_getD,List.getElem?_eq_getElem hi];rfl⟩
 have hfl:∀i,i<L.length→(M.getD i nd0).lim=(L.getD i nd0).lim∧(M.getD i nd0).cl=(L.getD i nd0).cl∧(M.getD i nd0).par=(L.getD i nd0).par∧(M.getD i nd0).own=(if n=i then (L.getD i nd0).own+p else (L.getD i nd0).own)∧(M.getD i nd0).all=(if i≤n then (L.getD i nd0).all+p else (L.getD i nd0).all)∧(M.getD i nd0).iZ=(if i≤n then max (L.getD i nd0).iZ ((L.getD i nd0).all+p) else (L.getD i nd0).iZ):=fun i hi=>by
  rw [hat i hi];by_cases h1:i≤n
  ·rw [if_pos h1,if_pos h1,if_pos h1]
   by_cases h2:n=i
   ·rw [if_pos h2,if_pos h2];exact ⟨rfl,rfl,rfl,rfl,rfl,rfl⟩
   ·rw [if_neg h2,if_neg h2];exact ⟨rfl,rfl,rfl,rfl,rfl,rfl⟩
  ·rw [if_neg h1,if_neg h1,if_neg h1,if_neg (by omega)];exact ⟨rfl,rfl,rfl,rfl,rfl,rfl⟩
 refine ⟨by rw [hlen];exact h.pos,by rw [hlen];exact h.few,fun i hi=>?_,fun x hx=>?_,fun x hx=>?_,fun x hx=>?_,fun i hi=>?_⟩
 ·rw [hlen] at hi
  obtain ⟨_,f2,f3,_⟩:=hfl i hi;rw [f2,f3];exact h.chain i hi
 ·obtain ⟨i,hi,rfl⟩:=hmem x hx
  rw [(hfl i hi).1];exact ⟨(h.get hi).1,(h.get hi).2.1⟩
 ·obtain ⟨i,hi,rfl⟩:=hmem x hx
  rw [(hfl i hi).2.2.2.1];have:=h.get hi;split
  ·rename_i e;subst e;exact ho
  ·omega
 ·obtain ⟨i,hi,rfl⟩:=hmem x hx
  obtain ⟨_,_,_,_,f5,f6⟩:=hfl i hi;rw [f5,f6];have:=h.get hi;by_cases h1:i≤n
  ·rw [if_pos h1,if_pos h1]
   have:=ha i h1;omega
  ·rw [if_neg h1,if_neg h1];omega
 ·rw [hlen] at hi
  obtain ⟨_,_,_,_,f5,_⟩:=hfl i hi;rw [f5];have hdl:∀j,j<(M.drop i).length→((M.drop i).getD j nd0).own=(if n=i+j then ((L.drop i).getD j nd0).own+p else ((L.drop i).getD j nd0).own):=fun j hj=>by
   rw [List.length_drop,hlen] at hj;have hij:i+j<L.length:=by omega
   have:=(hfl (i+j) hij).2.2.2.1;rw [List.getD_eq_getElem?_getD,List.getD_eq_getElem?_getD,List.getElem?_drop,List.getElem?_drop,←List.getD_eq_getElem?_getD,←List.getD_eq_getElem?_getD];exact this
  by_cases h1:i≤n
  ·rw [if_pos h1,h.all i hi,←Ch (L.drop i) (n - i) p (by rw [List.length_drop];omega)]
   refine (Dr (by simp [hlen]) fun j hj=>?_).symm;rw [hdl j hj,List.getD_eq_getElem?_getD (l:=List.modify _ _ _),gW];have hj2:j<(L.drop i).length:=by rw [List.length_drop] at hj ⊢;omega
   have hg:(L.drop i)[j]? = some ((L.drop i).getD j nd0):=by rw [List.getD_eq_getElem?_getD,List.getElem?_eq_getElem hj2];rfl
   rw [hg];by_cases h2:n=i+j
   ·rw [if_pos h2,if_pos (by omega)];rfl
   ·rw [if_neg h2,if_neg (by omega)];rfl
  ·rw [if_neg h1,h.all i hi]
   refine Dr (by simp [hlen]) fun j hj=>?_
   have hj2:j<(M.drop i).length:=by rw [List.length_drop] at hj ⊢;omega
   rw [hdl j hj2,if_neg (by omega)]
theorem uG {L:List Nd} (h:bg L) {n:Nat} (hn:n<L.length) (p:Int):bg (iO L n p).2:=by
 unfold iO;split
 ·exact h
 ·split
  ·exact h
  ·refine h.Ur hn (by have:=h.get hn;omega) fun i hi=>?_
   have h1:=h.get (show i<L.length by omega);have h2:=VO L n i hi;unfold bQ at h2;by_cases h3:(L.getD i nd0).lim - (L.getD i nd0).all<qD L n
   ·have:=h2 h3;omega
   ·omega
theorem rQ {L:List Nd} (h:bg L) {n:Nat} (hn:n<L.length) (p:Int):bg (iT L n p).2:=by
 unfold iT;split
 ·exact h
 ·split
  ·exact h
  ·have:=h.Ur hn (p:=-p) (by omega) (fun i hi=>by have:=h.get (show i<L.length by omega);omega)
   simpa [Int.sub_eq_add_neg] using this
theorem yw {l:Int} (hl:0≤l∧l≤4096):bg (fo l) :=
 ⟨Nat.zero_lt_one,(show 1≤64 by omega),fun i hi=>by
  have:i=0:=by simp [fo] at hi;omega
  subst this;exact ⟨rfl,rfl⟩,fun x hx=>by simp only [fo,List.mem_singleton] at hx;subst hx;exact hl,fun x hx=>by simp only [fo,List.mem_singleton] at hx;subst hx;exact Int.le_refl 0,fun x hx=>by simp only [fo,List.mem_singleton] at hx;subst hx;exact ⟨Int.le_refl 0,(show (0:Int)≤4096 by omega)⟩,fun i hi=>by
  have:i=0:=by simp [fo] at hi;omega
  subst this;rfl⟩
def ab8 {α:Type} (P:Program) (g:Nat) (lb:Array Value) (encs:α→Array Value) (T K:Nat→Prop) (Inv:World→Prop) (xs:List α) (w:World):Prop :=
 ∀(n l:Nat) (J Jx:List α→World→Prop) (W:World),af (fun k=>¬K k) w W→(∀pre A,J pre A→Inv A) →
  (∀pre A B,J pre A→af T A B→J pre B)→(∀pre A B,Jx pre A→af T A B→Jx pre B) →
  (∀m pre x W1,J pre W1→pre++[x] <+: xs→YieldAt Fence.wide m P l (encs x) W1 fun e W' =>
   (e= .returned (.bool true)∧J (pre++[x]) W'∧af (fun k=>¬K k) W1 W')∨(e= .returned (.bool false)∧Jx (pre++[x]) W')) →
  J [] W →
  CallsIn Fence.wide n P g (#[.func (.yield l) #[] #[]]++lb) W fun e W'=>(∃v,e= .returned v)∧(J xs W'∨∃pre,pre <+: xs∧Jx pre W')
theorem Us {α:Type} {P:Program} {g:Operand} {ps:Array Tmp} {assign body:Code} {Q:Exit→Act→World→Prop} {a:Act} {w:World}
  {gf:Nat} {lb:Array Value} (hg:a.eval g= .func (.func gf) #[] lb) (eg:∀args w,(callFunc gf args).run P w= .ok (.enter gf args) w)
  {encs:α→Array Value} {T K:Nat→Prop} {Inv:World→Prop} {xs:List α} (hseq:ab8 P gf lb encs T K Inv xs w) (hps:∀x,(encs x).size=ps.size)
  (hT:∀k,T k→k<w.heap.size) (hK:∀k,K k→k<w.heap.size)
  (I:List α→World→Prop) (Ix:Code→List α→World→Prop) (hInv:∀pre A,I pre A→Inv A)
  (hI:∀pre A B,I pre A→af (fun k=>T k∨k=w.heap.size∨k=w.heap.size+1) A B→I pre B)
  (hIx:∀c pre A B,Ix c pre A→af (fun k=>T k∨k=w.heap.size∨k=w.heap.size+1) A B→Ix c pre B)
  (h0:I [] w) (Ax:Nat→α→Act→World→Prop) (hAx:∀N x a' A B,Ax N x a' A→af (fun k=>k=w.heap.size+1) A B→Ax N x a' B)
  (hassign:∀(m l:Nat) (x:α) (W:World) (C:Act→World→Prop),w.heap.size+2≤W.heap.size→(∀a' W',af (fun _=>False) W W'→Ax W.heap.size x a' W'→C a' W') →
   assign.wpIn (Fence.wide.inRound l) m P (Exit.then C (fun _ _ _=>False)) { tmps:=(ps.zip (encs x)).foldl (fun t (p,v)=>t.setIfInBounds p v) a.tmps,defers:=[] } W)
  (hbody:∀(m l:Nat) (pre:List α) (x:α) (a':Act) (Wa W:World),w.heap.size+2≤W.heap.size→I pre W→Ax Wa.heap.size x a' W→pre++[x] <+: xs→I pre Wa→af (fun k=>k=w.heap.size+1) Wa W →
   body.wpIn (Fence.wide.inRound l) m P (QA w.heap.size K I Ix (pre++[x]) W) a' W)
  (hdone:∀(W:World),w.heap.size+2≤W.heap.size→I xs W→W.heap[w.heap.size]? = some (.deferred (some []))→Q .normal { a with defers:=eX w.heap.size::a.defers } W)
  (hstop:∀(c:Code) (pre:List α) (W:World),w.heap.size+2≤W.heap.size→pre <+: xs→Ix c pre W→W.heap[w.heap.size]? = some (.deferred (some []))→c.wp P Q { a with defers:=eX w.heap.size::a.defers } W) :
  (Code.rangeFunc g ps assign body).wp P Q a w:=by
 refine (wpIn_wide (n:=0)).1 (wpIn_rangeFunc fun fn _=>?_);obtain ⟨D,hD⟩:=aj (w.heap.size)
 -- the loop's record, in its three states
 obtain ⟨rec,hrec⟩:∃rec:LoopState→Option Code→Loop,rec=fun s p=>{ state:=s,pending:=p,fn,tmps:=a.tmps,params:=ps,assign,body,defers:=D }:=⟨_,rfl⟩
 obtain ⟨W1,hW1⟩:=aj ((w.alloc (.deferred (some []))).alloc (.loop (rec .ready none)));have hent:(Instr.enterLoop fn a.tmps ps assign body none).run P w= .ok (D+1,[eX D]) W1:=by
  rw [←hW1,hrec,←hD];exact run_enterLoop_outer _ _ _ _ _
 have nE:af (fun _=>False) w W1:=by rw [←hW1];exact ((af.refl _ w).alloc _).alloc _
 have hl1:W1.heap[D+1]? = some (.loop (rec .ready none)):=by
  rw [←hW1,←hD];have:=World.alloc_heap_new (w.alloc (.deferred (some []))) (.loop (rec .ready none))
  rwa [World.size_alloc] at this
 have hd1:W1.heap[D]? = some (.deferred (some [])):=by
  rw [←hW1,←hD];exact (Below.heap_alloc _ _ _ (by simp)).trans (World.alloc_heap_new w _)
 rw [hD] at hT hK hI hIx hAx hassign hbody hdone hstop;refine ⟨D+1,[eX D],W1,{ target:=.fn (.func gf) lb,args:=#[.func (.yield (D+1)) #[] #[]] },W1,gf,#[.func (.yield (D+1)) #[] #[]]++lb,W1,hent,?_,fun _ _=>trivial,?_,fun h=>(by cases h),?_⟩
 ·simp only [resolve,hg]
  simp [go_sem]
 ·simp [invoke,go_sem,eg]
 -- what the iterator carries: the loop's invariant, the record, the block for deferred calls
 let J:List α→World→Prop:=fun pre W=>I pre W∧W.heap[D+1]? = some (.loop (rec .ready none))∧W.heap[D]? = some (.deferred (some []))
 let Jx:List α→World→Prop:=fun pre W=>∃c,Ix c pre W∧W.heap[D+1]? = some (.loop (rec .done (some c)))∧W.heap[D]? = some (.deferred (some []))
 have BL:∀k,T k→k≠D∧k≠D+1:=fun k hk=>by have:=hT k hk;omega
 have Fw:∀k,K k→k≠D∧k≠D+1:=fun k hk=>by have:=hK k hk;omega
 refine (hseq _ (D+1) J Jx W1 (nE.mono (fun _ _ h=>h.elim)) (fun pre A h=>hInv pre A h.1) (fun pre A B h hf=>⟨hI pre A B h.1 (hf.mono fun _ _ ht=>.inl ht),hf.same h.2.1 (fun h=>(BL _ h).2 rfl),hf.same h.2.2 (fun h=>(BL _ h).1 rfl)⟩)
  (fun pre A B h hf=>by
   obtain ⟨c,h1,h2,h3⟩:=h;exact ⟨c,hIx c pre A B h1 (hf.mono fun _ _ ht=>.inl ht),hf.same h2 (fun h=>(BL _ h).2 rfl),hf.same h3 (fun h=>(BL _ h).1 rfl)⟩)
  ?_ ⟨hI [] w W1 h0 (nE.mono fun _ _ h=>h.elim),hl1,hd1⟩).mono ?_
 ·-- a round
  rintro m pre x Wa ⟨hi,hl,hd⟩ hpre;have hlt:D+1<Wa.heap.size:=(Array.getElem?_eq_some_iff.1 hl).1;have hy:=run_yield (P:=P) (args:=encs x) hl (by rw [hrec];exact hps x);rw [hrec] at hy;refine ⟨fn,_,assign,body,hy,roundIn_of_wpIn trivial (hassign m (D+1) x Wa _ (by omega) fun a' Wb hab hax=>?_)⟩;have hlb:=hab.same hl id;have QB:=hab.same hd id;have hib:=hI pre Wa Wb hi (hab.mono fun _ _ h=>h.elim);have Fz:D+1<Wb.heap.size:=(Array.getElem?_eq_some_iff.1 hlb).1;refine ⟨_,run_beginRound hlb (by rw [hrec]),?_⟩;obtain ⟨Wc,hWc⟩:=aj (Wb.putObj (D+1) (.loop { rec .ready none with state:=.busy }));rw [hWc];have hbc:af (fun k=>k=D+1) Wb Wc:=by rw [←hWc];exact af.putObj (T:=fun k=>k=D+1) (af.refl _ Wb) (fun _=>rfl) _
  have hlc:Wc.heap[D+1]? = some (.loop { rec .ready none with state:=.busy }):=by rw [←hWc];exact World.putObj_heap_same Fz
  have Nc:Wc.heap[D]? = some (.deferred (some [])):=hbc.same QB (by omega);have Xm:D+1<Wc.heap.size:=(Array.getElem?_eq_some_iff.1 hlc).1;refine wpIn_mono (hbody m (D+1) pre x a' Wa Wc (by omega) (hI pre Wb Wc hib (hbc.mono fun _ _ h=>.inr (.inr h))) (hAx _ x a' Wb Wc hax hbc) hpre hi ((hab.mono fun _ _ h=>h.elim:af (fun k=>k=D+1) Wa Wb).trans hbc)) ?_
  -- what 'endRound' makes of it
  have fin:∀(j:Option Code) (Wd:World),af (fun k=>¬(k=D∨k=D+1)) Wc Wd →
    (Instr.endRound (D+1) j).run P Wd= .ok (.bool j.isNone) (Wd.putObj (D+1) (.loop (rec (if j.isNone then .ready else .done) j))) ∧
    (Wd.putObj (D+1) (.loop (rec (if j.isNone then .ready else .done) j))).heap[D+1]? = some (.loop (rec (if j.isNone then .ready else .done) j)) ∧
    (Wd.putObj (D+1) (.loop (rec (if j.isNone then .ready else .done) j))).heap[D]? = some (.deferred (some [])):=fun j Wd hcd=>by
   have hld:=hcd.same hlc (fun h=>h (.inr rfl));have he:=run_endRound (P:=P) j hld;rw [hrec] at he ⊢;exact ⟨he,World.putObj_heap_same (Array.getElem?_eq_some_iff.1 hld).1,(World.putObj_heap_other (by omega)).trans (hcd.same Nc (fun h=>h (.inl rfl)))⟩
  have back:∀(o:Obj) (Wd:World),af (fun k=>T k∨k=D∨k=D+1) Wd (Wd.putObj (D+1) o):=fun o Wd=>(af.refl _ Wd).putObj (fun _=>.inr (.inr rfl)) o
  intro e a3 Wd hp;cases e with
  | normal =>
   obtain ⟨hcd,hid⟩:=hp;obtain ⟨h1,h2,h3⟩:=fin none Wd (hcd.mono fun k _ h h'=>h (.inr h'));refine ⟨_,_,h1,.inl ⟨rfl,⟨hI _ _ _ hid (back _ Wd),h2,h3⟩,?_⟩⟩;refine (((hab.mono fun _ _ h=>h.elim:af (fun k=>¬K k) Wa Wb).trans (hbc.mono fun k _ h hk=>(Fw k hk).2 h)).trans (hcd.mono fun k _ h hk=>h (.inl hk))).putObj (fun _ hk=>(Fw _ hk).2 rfl) _
  | ret =>
   obtain ⟨hcd,hid⟩:=hp;obtain ⟨h1,h2,h3⟩:=fin (some .ret) Wd hcd;exact ⟨_,_,h1,.inr ⟨rfl,.ret,hIx _ _ _ _ hid (back _ Wd),h2,h3⟩⟩
  | exit id =>
   obtain ⟨hcd,hid⟩:=hp;obtain ⟨h1,h2,h3⟩:=fin (some (.exit id)) Wd hcd;exact ⟨_,_,h1,.inr ⟨rfl,.exit id,hIx _ _ _ _ hid (back _ Wd),h2,h3⟩⟩
  | goto t =>
   obtain ⟨hcd,hid⟩:=hp;obtain ⟨h1,h2,h3⟩:=fin (some (.goto t)) Wd hcd;exact ⟨_,_,h1,.inr ⟨rfl,.goto t,hIx _ _ _ _ hid (back _ Wd),h2,h3⟩⟩
  | panic ch=>exact hp.elim
  | outgrown=>exact hp.elim
 ·-- behind the iterator
  have back:∀(o:Obj) (Wd:World),af (fun k=>T k∨k=D∨k=D+1) Wd (Wd.putObj (D+1) o):=fun o Wd=>(af.refl _ Wd).putObj (fun _=>.inr (.inr rfl)) o
  rintro e W2 ⟨⟨v,rfl⟩,h2⟩;rcases h2 with ⟨hi,hl,hd⟩|⟨pre,hpre,c,hi,hl,hd⟩
  ·have he:=run_endLoop (P:=P) hl (by rw [hrec];simp)
   rw [hrec] at he;have hlt:D+1<W2.heap.size:=(Array.getElem?_eq_some_iff.1 hl).1;exact ⟨none,_,he,hdone _ (by rw [World.putObj_size];omega) (hI _ _ _ hi (back _ W2)) ((World.putObj_heap_other (by omega)).trans hd)⟩
  ·have he:=run_endLoop (P:=P) hl (by rw [hrec];simp)
   rw [hrec] at he;have hlt:D+1<W2.heap.size:=(Array.getElem?_eq_some_iff.1 hl).1;exact ⟨some c,_,he,(wpIn_wide (n:=0)).2 (hstop c pre _ (by rw [World.putObj_size];omega) hpre (hIx _ _ _ _ hi (back _ W2)) ((World.putObj_heap_other (by omega)).trans hd))⟩
def ko (b:Nat) (w:World) (k:Nat):Prop:=b≤k+1∧∃cs,ag w k 122 cs
structure bA (w:World) (b:Nat) (L:List Nd):Prop where
 ex:∃(A:Option Addr) (cap:Nat),ag w b 75 #[.bool true,.slice A L.length cap]∧w.ownsRow (b - 1) 122 6 (.slice A L.length cap) L.length (fl Rc L)
theorem bA.lt {w:World} {b:Nat} {L:List Nd} (h:bA w b L):b<w.heap.size:=by
 obtain ⟨A,cap,k,_⟩:=h.ex;exact k.lt
theorem bA.far {w w':World} {b:Nat} {L:List Nd} {T:Nat→Prop} (h:bA w b L) (hF:af T w w') (hb:¬T b) (hN:∀k,ko b w k→¬T k):bA w' b L:=by
 obtain ⟨A,cap,k,r⟩:=h.ex;refine ⟨A,cap,hF.blk k hb,aK r hF (fun g hg ht=>?_)⟩;rcases r.2 with ⟨hv,_⟩|⟨g',cap',cur,hv,hbs,hk,_⟩
 ·rw [hv] at hg;cases hg
 ·rw [hv] at hg
  have e':g'=g:=by injection hg
  subst e';exact hN g' ⟨by omega,cur,hk⟩ ht
theorem bA.call {w w':World} {b:Nat} {L:List Nd} (h:bA w b L) (hb:Below w.heap.size w w'):bA w' b L :=
 h.far (T:=fun _=>False) (af.of_below hb) id (fun _ _ h=>h)
theorem bA.node {w:World} {b:Nat} {L:List Nd} (h:bA w b L) {i:Nat} (hi:i<L.length) :
  ∃(g cap:Nat),L.length≤cap∧cap≤maxLen∧ag w b 75 #[.bool true,.slice (some ⟨g,0,none⟩) L.length cap]∧ko b w g∧g<w.heap.size∧(∀j,j<L.length→∀(q:Nat) (v:Value),(Rc (L.getD j nd0))[q]? = some v→w.cell? ⟨g,j*6+q,none⟩=some v)∧(∀o,w.frozen? ⟨g,o,none⟩=false):=by
 obtain ⟨A,cap,k,r⟩:=h.ex;rcases r.2 with ⟨hv,h0⟩|⟨g,cap',cur,hv,hbs,hk,hn,hm,_,ht⟩
 ·omega
 ·cases hv
  refine ⟨g,cap,hn,hm,k,⟨by omega,cur,hk⟩,ag.lt hk,fun j hj q v hq=>?_,fun o=>ag.frozen hk o⟩;have Bd:q<6:=by rw [←yu (L.getD j nd0)];exact (List.getElem?_eq_some_iff.1 hq).1
  have h1:=yj yu nd0 L j hj q Bd;rw [hq] at h1;have:=r.cells (g:=g) rfl (j*6+q) v h1;rw [dh,Nat.zero_add] at this;exact this
def Yl (b n:Nat) (w:World):Prop:=∃L,bA w b L∧jE L∧L.length=n
theorem Rh (n j:Nat) (h:j≤n):(List.range (n+1)).reverse.take (n - j)++[j]=(List.range (n+1)).reverse.take (n - j+1):=by
 rw [List.take_add_one];congr 1;rw [List.getElem?_reverse (by simp;omega),List.getElem?_range (by simp;omega)];simp;omega
theorem Bf {α:Type} {enc:α→List Value} {sz:Nat} (hl:∀x,(enc x).length=sz) (d:α) (f:α→α) (q:Nat) (v:Value):∀(L:List α) (i:Nat),i<L.length→q<sz→enc (f (L.getD i d))=(enc (L.getD i d)).set q v→fl enc (L.modify i f)=(fl enc L).set (i*sz+q) v
 | [],i,h,_,_=>by simp at h
 | x::r,0,_,hq,he=>by
  rw [List.getD_cons_zero] at he;rw [List.modify_zero_cons,si,si,he,Nat.zero_mul,Nat.zero_add,List.set_append_left _ _ (by rw [hl];exact hq)]
 | x::r,i+1,h,hq,he=>by
  rw [List.getD_cons_succ] at he;rw [List.modify_succ_cons,si,si,Bf hl d f q v r i (by simpa using h) hq he,List.set_append_right _ _ (by rw [hl,Nat.succ_mul];omega),hl];congr 2;rw [Nat.succ_mul];omega
theorem gX {w:World} {base n sz g i cap:Nat} {e:TypeId} {xs:List Value} {v:Value} (h:w.ownsRow base e sz (.slice (some ⟨g,0,none⟩) n cap) n xs) :
  (w.setCell ⟨g,i,none⟩ v).ownsRow base e sz (.slice (some ⟨g,0,none⟩) n cap) n (xs.set i v):=by
 refine ⟨by rw [List.length_set];exact h.1,?_⟩;rcases h.2 with ⟨hn,_⟩|⟨g',cap',cur,hv,hb,hk,hc,hm,hs,ht⟩
 ·cases hn
 ·cases hv
  have hk':ag w g e cur:=hk;refine .inr ⟨g,cap,cur.setIfInBounds i v,rfl,hb,hk'.aO i v,hc,hm,by rw [Array.size_setIfInBounds];exact hs,?_⟩;rw [Array.toList_setIfInBounds,List.take_set,ht]
theorem bA.put {w:World} {b:Nat} {L:List Nd} (h:bA w b L) {i:Nat} (hi:i<L.length) :
  ∃(g cap:Nat),L.length≤cap∧cap≤maxLen∧ag w b 75 #[.bool true,.slice (some ⟨g,0,none⟩) L.length cap]∧ko b w g∧g<w.heap.size∧(∀(q:Nat) (v:Value),(Rc (L.getD i nd0))[q]? = some v→w.cell? ⟨g,i*6+q,none⟩=some v)∧(∀o,w.frozen? ⟨g,o,none⟩=false) ∧
   ∀(w':World),Below w.heap.size w w'→∀(q:Nat) (v:Value) (f:Nd→Nd),q<6→Rc (f (L.getD i nd0))=(Rc (L.getD i nd0)).set q v→bA (w'.setCell ⟨g,i*6+q,none⟩ v) b (L.modify i f)∧af (fun k=>k=g) w (w'.setCell ⟨g,i*6+q,none⟩ v):=by
 have h0:=h;obtain ⟨A,cap,k,r⟩:=h.ex;rcases r.2 with ⟨hv,h0⟩|⟨g,cap',cur,hv,hbs,hk,hn,hm,_,ht⟩
 ·omega
 ·cases hv
  have hkg:ag w g 122 cur:=hk;refine ⟨g,cap,hn,hm,k,⟨by omega,cur,hk⟩,ag.lt hk,fun q v hq=>?_,fun o=>ag.frozen hk o,fun w' hw' q v f hq hf=>?_⟩
  ·have Bd:q<6:=by rw [←yu (L.getD i nd0)];exact (List.getElem?_eq_some_iff.1 hq).1
   have h1:=yj yu nd0 L i hi q Bd;rw [hq] at h1;have:=r.cells (g:=g) rfl (i*6+q) v h1;rw [dh,Nat.zero_add] at this;exact this
  ·have r':=aB r hw'
   have k':=k.call hw';have hbg:b≠g:=fun e=>ag.uR k hkg (by decide) e
   have F:af (fun k=>k=g) w' (w'.setCell ⟨g,i*6+q,none⟩ v):=af.setCell (T:=fun k=>k=g) (p:=⟨g,i*6+q,none⟩) (af.refl _ _) (fun _=>rfl) _;have r2:=gX (i:=i*6+q) (v:=v) r';rw [←Bf yu nd0 f q v L i hi hq hf] at r2;refine ⟨⟨some ⟨g,0,none⟩,cap,?_,?_⟩,(af.of_below hw').trans F⟩
   ·rw [List.length_modify];exact F.blk k' hbg
   ·rw [List.length_modify];exact r2
theorem bA.ab9 {w w':World} {b:Nat} {L:List Nd} {T:Nat→Prop} (h:bA w b L) (hF:af T w w') (hb:¬T b) (hN:∀g cap,ag w b 75 #[.bool true,.slice (some ⟨g,0,none⟩) L.length cap]→¬T g):bA w' b L:=by
 obtain ⟨A,cap,k,r⟩:=h.ex;refine ⟨A,cap,hF.blk k hb,aK r hF (fun g hg ht=>?_)⟩;rcases r.2 with ⟨hv,_⟩|⟨g',cap',cur,hv,_,hk,_⟩
 ·rw [hv] at hg;cases hg
 ·rw [hv] at hg
  have e':g'=g:=by injection hg
  subst e';rw [hv] at k;exact hN g' cap' k ht
theorem Cj {w:World} {b n g g' cap cap':Nat} (h:ag w b 75 #[.bool true,.slice (some ⟨g,0,none⟩) n cap]) (k:ag w b 75 #[.bool true,.slice (some ⟨g',0,none⟩) n cap']):g'=g:=by
 have h1:=h.cell 1;have h2:=k.cell 1;rw [h1] at h2;simp at h2;exact h2.1.symm
def VQ (p:Int) (x:Nd):Nd:={ x with all:=x.all+p }
def f2B (x:Nd):Nd:={ x with iZ:=max x.iZ x.all }
theorem ahv (L:List Nd) (i:Nat) (p:Int):(L.modify i (VQ p)).modify i f2B=L.modify i (sG p):=by
 apply List.ext_getElem?;intro j;rw [gW,gW,gW];by_cases h:i=j
 ·rw [if_pos h,if_pos h,if_pos h,Option.map_map];rfl
 ·rw [if_neg h,if_neg h,if_neg h]
def Ut (L:List Nd):Prop:=∀i,i<L.length→-100000≤(L.getD i nd0).all∧(L.getD i nd0).all≤100000∧-100000≤(L.getD i nd0).iZ∧(L.getD i nd0).iZ≤100000
theorem VR (ps:List Nat) (L:List Nd) (p:Int) (hn:ps.Nodup) (i:Nat) (hi:i∉ps):(ps.foldl (fun L i=>L.modify i (sG p)) L).getD i nd0=L.getD i nd0:=by
 rw [List.getD_eq_getElem?_getD,Bc _ _ _ hn,if_neg hi,←List.getD_eq_getElem?_getD]
def L9 (b:Nat) (L:List Nd) (w w':World):Prop:=bA w' b L∧af (ko b w) w w'
theorem ko.back {b:Nat} {w w1:World} {k:Nat} (hF:af (ko b w) w w1) (hk:k<w.heap.size) (h:ko b w1 k):ko b w k:=by
 by_cases h0:ko b w k
 ·exact h0
 ·obtain ⟨hb,cs,hcs⟩:=h
  exact ⟨hb,cs,(hF.block k hk h0).symm.trans hcs⟩
theorem ko.trans {b:Nat} {w w1 w2:World} (hF:af (ko b w) w w1) (hG:af (ko b w1) w1 w2):af (ko b w) w w2:=hF.trans' hG (fun _ hi h=>ko.back hF hi h)
theorem ko.one {b:Nat} {w w1 w2:World} {g:Nat} (hF:af (ko b w) w w1) (hg:ko b w1 g) (hG:af (fun k=>k=g) w1 w2):af (ko b w) w w2:=hF.trans' hG (fun _ hi e=>ko.back hF hi (by subst e;exact hg))
theorem jE.small {L:List Nd} (h:bg L) (n:Nat) (f:Nd→Nd) (hf:∀x,(f x).all=x.all∧(f x).iZ=x.iZ):Ut (L.modify n f):=fun i hi=>by
 rw [List.length_modify] at hi;have hc:=h.get hi;rw [List.getD_eq_getElem?_getD,gW,List.getElem?_eq_getElem hi];rw [List.getD_eq_getElem?_getD,List.getElem?_eq_getElem hi] at hc;by_cases e:n=i
 ·rw [if_pos e]
  simp only [Option.map_some,Option.getD_some] at hc ⊢;rw [(hf _).1,(hf _).2];omega
 ·rw [if_neg e]
  simp only [Option.getD_some] at hc ⊢;omega
end Go.Pol
namespace Go.Proofs.YtjmmgoijnhnnaaaGreat
open Go Go.Proofs Go.RowKit Go.Pol Go.Shelf Tryz
attribute [local go_sem] Oper.semAt_some aC au az ah
theorem LZ (w:World) (a b:Addr) (la ca lb cb:Nat) (hne:a.block≠b.block) (tA tB:TypeId) (kA kB:Nat) (hsa:w.shape? a.block=some (tA,kA)) (hsb:w.shape? b.block=some (tB,kB)) (hkB:kB≠0) (hfa:w.frozen? a=false) (hfe:w.frozen? { block:=a.block,off:=kA }=false) :
  (callFunc 191 #[.slice (some a) la ca,.slice (some b) lb cb]).run prog w= .ok (.value (.bool false)) w:=by
 have hz:∀w,(Go.sizeOf 140).run prog w= .ok 2 w:=fun w=>by
  obtain ⟨j0,hj,hy0,hy1,hy2⟩:=dW;simp [sizeOf,typeInfo,hj,hy1]
 rw [run_callFunc_extern func191 (by kernel_rfl) (by kernel_rfl) (by kernel_rfl) (e:=Extern.SlicesOverlaps.overlaps #[41,41] #[4]) (by kernel_rfl),
  Lib.run_overlaps_apart w 41 4 140 underlying41 2 hz a b la ca lb cb hne tA tB kA kB hsa hsb hkB hfa hfe]
 rfl
theorem Jw (g gx n c:Nat) (w W2 W3:World) (hn0:0<n) (hn:n≤512) (hc:n+1≤c) (hcm:c≤maxLen)
  (hov:(callFunc 191 #[.slice (some ⟨gx,0,none⟩) 1 1,.slice (some ⟨g,2,none⟩) n (c - 1)]).run prog w= .ok (.value (.bool false)) w)
  (hcA:∀ty,(Builtin.copy_ #[41,41] ty #[.slice (some ⟨g,2,none⟩) n (c - 1),.slice (some ⟨g,0,none⟩) (n+1) c]).run prog w.drew= .ok (goInt n) W2)
  (hcB:∀ty,(Builtin.copy_ #[41,41] ty #[.slice (some ⟨g,0,none⟩) (n+1) c,.slice (some ⟨gx,0,none⟩) 1 1]).run prog W2= .ok (goInt 1) W3) :
  Calls prog 136 #[.slice (some ⟨g,0,none⟩) n c,.int .i64 0,.slice (some ⟨gx,0,none⟩) 1 1] w fun e w'=>e= .returned (.slice (some ⟨g,0,none⟩) (n+1) c)∧w'=W3:=by
 have hcd:decide ((c:Int)<(n:Int)+1)=false:=by rw [decide_eq_false_iff_not];omega
 have ahd:((0:Int)==(n:Int))=false:=by rw [beq_eq_false_iff_ne];omega
 have hwr:IntKind.i64.wrap ((n:Int)+1)=(n:Int)+1:=by rw [IntKind.wrap_i64];omega
 have hw1:IntKind.i64.wrap 1=1:=by rw [IntKind.wrap_i64];rfl
 have hb1:(1:Int)≤(n:Int)+1:=by omega
 have hb0:(0:Int)≤(n:Int)+1:=by omega
 have hG1:¬(c=1):=by omega
 have hc0:¬(c=0):=by omega
 have anB:(n:Int)+1≤(c:Int):=by omega
 have hcB':=ae hcB;have Yg:=ae hcA;have ahf:=ae hov;have hc63:c≤9223372036854775807:=by unfold maxLen at hcm;omega
 have mixed:prog.follows Departure.mixedOrders=true:=by kernel_rfl
 clear hcA hcB hov hcm;go_enter func136,ntmps136;go_upto_region 14 with fail
 go_upto_region 15 with (simp only [ahf.out])
 go_region_law_o (refine xH rfl _ _ 41 41 rfl (.slice (some ⟨g,2,none⟩) n (c - 1)) (.slice (some ⟨g,0,none⟩) (n+1) c) (by simp [Act.eval,Act.put]) (by simp [Act.eval,Act.put]) (Yg.out _) ?_)
 go_wp2_with (simp only [hcB'.out,Result.andThen_ok])
 go_ret;exact ⟨rfl,rfl⟩
theorem L6 (base g gx n c:Nat) (xa xb:Int) (L:List Sp) (w:World) (hL:L.length=n) (hn0:0<n) (hn:n≤512) (hc:n+1≤c) (hrow:w.ownsRow base 140 2 (.slice (some ⟨g,0,none⟩) n c) n (ax L)) (k:ag w gx 140 #[.int .i64 xa,.int .i64 xb]) (hne:gx≠g) :
  Calls prog 136 #[.slice (some ⟨g,0,none⟩) n c,.int .i64 0,.slice (some ⟨gx,0,none⟩) 1 1] w fun e w'=>∃v,e= .returned v∧w'.ownsRow base 140 2 v (n+1) (.int .i64 xa :: .int .i64 xb::ax L)∧af (fun k=>k=g) w w':=by
 obtain ⟨cur,hbg,hk,hcm,hcs,htk⟩:∃cur:Array Value,base≤g∧ag w g 140 cur∧c≤maxLen∧cur.size=c*2∧cur.toList.take (n*2)=ax L:=by
  rcases hrow.2 with ⟨h,_⟩|⟨g',cap,cur,h,h1,h2,h3,h4,h5,h6⟩
  ·cases h
  ·cases h;exact ⟨cur,h1,h2,h4,h5,h6⟩
 have hlc:(ax L).length=n*2:=by rw [dB,hL]
 have hR0:cur.toList.length=c*2:=by simpa using hcs
 have hov:(callFunc 191 #[.slice (some ⟨gx,0,none⟩) 1 1,.slice (some ⟨g,2,none⟩) n (c - 1)]).run prog w= .ok (.value (.bool false)) w :=
  LZ w _ _ _ _ _ _ hne 140 140 2 (c*2) (by
   have:w.heap[gx]? = _:=k;simp [World.shape?,this]) (by
   have:w.heap[g]? = _:=hk;simp [World.shape?,this,hcs]) (by omega) (k.frozen 0) (k.frozen 2)
 obtain ⟨W2,hW2⟩:=aj (w.drew.setRow g (cur.toList.take 2++ax L++cur.toList.drop (2+(ax L).length)).toArray);have hsrc:∀(j:Nat) (v:Value),(ax L)[j]? = some v→w.drew.cell? (Addr.add ⟨g,0,none⟩ j)=some v:=fun j v hj=>hrow.cells (g:=g) rfl j v hj
 have hcA:∀ty,(Builtin.copy_ #[41,41] ty #[.slice (some ⟨g,2,none⟩) n (c - 1),.slice (some ⟨g,0,none⟩) (n+1) c]).run prog w.drew= .ok (goInt n) W2:=fun ty=>by
  rw [←hW2];exact nU w.drew _ _ ty 140 2 g 2 n (c - 1) ⟨g,0,none⟩ (n+1) c n cur _ (ax L) underlying41 zk hk.drew (by simp only [Nat.min_def];split <;> omega) hlc hsrc (by omega) (zX L)
 have k2:ag W2 g 140 (cur.toList.take 2++ax L++cur.toList.drop (2+(ax L).length)).toArray:=by rw [←hW2];exact Ei hk.drew
 have gp:ag W2 gx 140 #[.int .i64 xa,.int .i64 xb]:=by rw [←hW2];exact EO k.drew hne
 have hF2:af (fun k=>k=g) w W2:=by
  rw [←hW2];exact (af.refl _ w).drew.trans' (T':=fun k=>k=g) ⟨rfl,rfl,rfl,by simp [World.setRow],fun _ _ hT=>setRow_other _ _ _ _ hT⟩ (fun i hi e=>by omega)
 obtain ⟨ROW,hROW⟩:=aj (cur.toList.take 2++ax L++cur.toList.drop (2+(ax L).length));have hRl:ROW.length=c*2:=by rw [←hROW];simp only [List.length_append,List.length_take,List.length_drop,hlc,hR0];omega
 rw [hROW] at k2;obtain ⟨W3,hW3⟩:=aj (W2.setRow g (ROW.toArray.toList.take 0++[Value.int .i64 xa,Value.int .i64 xb]++ROW.toArray.toList.drop (0+[Value.int .i64 xa,.int .i64 xb].length)).toArray);have hcB:∀ty,(Builtin.copy_ #[41,41] ty #[.slice (some ⟨g,0,none⟩) (n+1) c,.slice (some ⟨gx,0,none⟩) 1 1]).run prog W2= .ok (goInt 1) W3:=fun ty=>by
  rw [←hW3];exact nU W2 _ _ ty 140 2 g 0 (n+1) c ⟨gx,0,none⟩ 1 1 1 _ _ [.int .i64 xa,.int .i64 xb] underlying41 zk k2 (by simp only [Nat.min_def];split <;> omega) rfl (ja gp) (by simp;omega) gQ
 have hown:W3.ownsRow base 140 2 (.slice (some ⟨g,0,none⟩) (n+1) c) (n+1) (.int .i64 xa :: .int .i64 xb::ax L):=by
  have he:ROW.toArray.toList.take 0++[Value.int .i64 xa,Value.int .i64 xb]++ROW.toArray.toList.drop (0+[Value.int .i64 xa,.int .i64 xb].length)=rD cur.toList (ax L) (.int .i64 xa) (.int .i64 xb):=by
   rw [List.toList_toArray,←hROW];exact LX _ _ _ _ (by rw [hR0];omega)
  rw [←hW3,he];refine Eh k2 hbg hc hcm (by rw [List.size_toArray,Eg _ _ _ _ (by rw [hlc,hR0];omega),hR0]) (by simp only [List.length_cons,hlc];omega) ?_;rw [List.toList_toArray];unfold rD;rw [List.take_append_of_le_length (by simp only [List.length_cons,hlc];omega),List.take_of_length_le (by simp only [List.length_cons,hlc];omega)]
 have ma:af (fun k=>k=g) w W3:=by
  rw [←hW3];exact hF2.trans' (T':=fun k=>k=g) ⟨rfl,rfl,rfl,by simp [World.setRow],fun _ _ hT=>setRow_other _ _ _ _ hT⟩ (fun i hi e=>by omega)
 refine (Jw g gx n c w W2 W3 hn0 hn hc hcm hov hcA hcB).mono ?_;rintro e w' ⟨rfl,rfl⟩;exact ⟨_,rfl,hown,ma⟩
theorem Yh (base gx:Nat) (xa xb:Int) (L:List Sp) (v3:Value) (w:World) (hL:L.length≤512) (hn:L=[]→v3= .slice none 0 0) (hrow:w.ownsRow base 140 2 v3 L.length (ax L)) (k:ag w gx 140 #[.int .i64 xa,.int .i64 xb]) (hne:v3.ownBlock≠some gx) (hb:base≤w.heap.size) :
  Calls prog 136 #[v3,.int .i64 0,.slice (some ⟨gx,0,none⟩) 1 1] w fun e w'=>∃v,e= .returned v∧w'.ownsRow base 140 2 v (L.length+1) (ax ((xa,xb)::L))∧af (fun k=>v3.ownBlock=some k) w w':=by
 by_cases h0:L=[]
 ·subst h0
  rw [hn rfl];refine (N8 base gx xa xb w k hb).mono ?_;rintro e w' ⟨v,rfl,h1,h2⟩;exact ⟨v,rfl,h1,(af.of_below h2)⟩
 ·have hl0:0<L.length:=List.length_pos_iff.2 h0
  rcases hrow.2 with ⟨_,h⟩|⟨g,c,cur,rfl,h1,h2,h3,h4,h5,h6⟩
  ·omega
  ·have hf:(Value.slice (some ⟨g,0,none⟩) L.length c).ownBlock=some g:=rfl
   by_cases hc:c<L.length+1
   ·refine (LY base g gx L.length c xa xb L w rfl hl0 hL hc hrow k hb).mono ?_
    rintro e w' ⟨v,rfl,q1,q2⟩;exact ⟨v,rfl,q1,q2.mono (fun k _ e=>by rw [hf,e])⟩
   ·refine (L6 base g gx L.length c xa xb L w rfl hl0 hL (by omega) hrow k (fun e=>hne (by rw [hf,e]))).mono ?_
    rintro e w' ⟨v,rfl,q1,q2⟩;exact ⟨v,rfl,q1,q2.mono (fun k _ e=>by rw [hf,e])⟩
theorem Gr (b p0 p1 p2 p3 base:Nat) (er xa xb:Int) (V:Vm) (v3:Value) (L:List Sp) (w:World) (hV:aD w b V) (he:er≠0) (k0:ag w p0 36 #[.int .i64 er]) (k1:ag w p1 44 #[.pointer (some ⟨b,0,none⟩)]) (k2:ag w p2 140 #[.int .i64 xa,.int .i64 xb])
  (k3:ag w p3 41 #[v3]) (hL:L.length≤512) (hn:L=[]→v3= .slice none 0 0) (hrow:w.ownsRow base 140 2 v3 L.length (ax L)) (hb:base≤w.heap.size) (hp3:p3<base) (hbb:b<base) (h23:p2≠b) (hpb:p3≠b)
  (h0:(bJ V xa xb 4 3 1).1≠0) :
  CallsD prog 135 #[.pointer (some ⟨p0,0,none⟩),.pointer (some ⟨p1,0,none⟩),.pointer (some ⟨p2,0,none⟩),.pointer (some ⟨p3,0,none⟩)] .returning w fun e u' w'=>u'= .returning∧((∃v,e= .returned v) ∧
   ∃v',ag w' p3 41 #[v']∧w'.ownsRow base 140 2 v' (L.length+1) (ax ((xa,xb)::L))∧aD w' b (bJ V xa xb 4 3 1).2∧af (fun k=>k=b∨k=p3∨base≤k) w w'):=by
 have c0:=k0.cell;have c1:=k1.cell;have c2:=k2.cell;have he':(er != 0)=true:=by simpa using he
 have HD:=ae (ry b xa xb V w hV);generalize bJ V xa xb 4 3 1=J at *;obtain ⟨je,jV⟩:=J;have h0':(je != 0)=true:=by simpa using h0
 simp only at HD;clear he hV h0
 go_enter_d func135,ntmps135
 go_wp2_with fail;refine HD.out.mono ?_;rintro e w1 ⟨rfl,hS,hF⟩;have lh:=hF.blk k3 hpb;have k21:=hF.blk k2 h23;have KE:=aK hrow hF (fun g hg h=>by have:=(hrow.lt g hg).1;omega);have hs1:=hF.size;have d2:=k21.cell;have d3:=lh.cell;have f3:=lh.frozen;have kq:=ag.new w1 140 #[.int .i64 xa,.int .i64 xb];have hbq:Below w1.heap.size w1 (w1.alloc (.cells #[.int .i64 xa,.int .i64 xb] 140)):=(Below.refl _ _).alloc (Nat.le_refl _) _;have Uo:=aB KE hbq;have hneq:v3.ownBlock≠some w1.heap.size:=fun e=>by have:=(KE.lt _ e).2;omega
 have HI:=ae (Yh base w1.heap.size xa xb L v3 _ hL hn Uo kq hneq (by have:=hbq.size;omega));have hS':=ae (hS.call hbq);have hF':=ae (hF.trans (af.of_below hbq));have k3q:=ae (lh.call hbq);have hlt:=ae (fun g (e:v3.ownBlock=some g)=>Uo.lt g e);have hrq:=ae Uo;clear HD hS hrow c0 c1 c2 k0 k1 k2 k3 KE hF lh k21 Uo hbq kq hneq;go_wp2_with fail;refine HI.out.mono ?_;rintro e w3 ⟨v',rfl,KF,ma⟩;obtain ⟨A5,cap5,rfl,_⟩:=mU KF rfl;have mH:=ma.blk k3q.out (fun e=>by have:=(hlt.out _ e).1;omega);have hS3:=ae (hS'.out.far ma (fun e=>by have:=(hlt.out _ e).1;omega) (fun _ _ _ _ _ _ g _ _ _ hc hg=>hc.elim fun cr hcr=>di hrq.out hg hcr (by decide)));have f3:=mH.frozen;have c3:=mH.cell;have Yi:=ae KF;have hFF:af (fun k=>k=b∨k=p3∨base≤k) w w3:=(hF'.out.mono (fun k _ e=>.inl e)).trans (ma.mono (fun k _ e=>.inr (.inr (hlt.out k e).1)));have ahi:=ae hFF;have zJ:=ae mH;clear HI d2 d3 f3 mH KF hFF ma hS' hF' k3q hlt hrq;have f3:=zJ.out.frozen;go_wp2_with fail;have k4:=zJ.out.aO 0 (.slice A5 (L.length+1) cap5);have F4:af (fun k=>k=p3) w3 (w3.setCell ⟨p3,0,none⟩ (.slice A5 (L.length+1) cap5)):=af.setCell (T:=fun k=>k=p3) (p:=⟨p3,0,none⟩) (af.refl _ _) (fun _=>rfl) _;have Cb:=aK Yi.out F4 (fun g hg h=>by have:=(Yi.out.lt g hg).1;omega);exact ⟨rfl,_,by simp [results,results135,go_sem];rfl,⟨_,rfl⟩,_,k4,Cb,hS3.out.far F4 (fun e=>hpb e.symm) (fun _ _ _ _ _ _ g _ _ _ hc e=>hc.elim fun cr hcr=>ag.uR hcr zJ.out (by decide) e),ahi.out.trans (F4.mono (fun k _ e=>.inr (.inl e)))⟩
def Yj (s p:Nat):Deferred:={ target:=.fn (.func 135) #[.pointer (some ⟨s+3,0,none⟩),.pointer (some ⟨s,0,none⟩),.pointer (some ⟨p,0,none⟩),.pointer (some ⟨s+2,0,none⟩)],args:=#[] }
theorem Gs:∀args w,(callFunc 135 args).run prog w= .ok (.enter 135 args) w:=enters_of func135 (by kernel_rfl) rfl
theorem Ej (s p:Nat) (w:World):(invoke (Yj s p).target (Yj s p).args).run prog w= .ok (.enter 135 #[.pointer (some ⟨s+3,0,none⟩),.pointer (some ⟨s,0,none⟩),.pointer (some ⟨p,0,none⟩),.pointer (some ⟨s+2,0,none⟩)]) w:=Gs _ w
def StS (g4 g5:Nat) (x:Int) (W:World):Prop:=W.cell? ⟨g4,0,none⟩=some (.slice none 0 0)∧W.cell? ⟨g5,0,none⟩=some (.int .i64 x)
def PlI (b s base:Nat) (je:Int) (R:List Sp×Vm) (w0:World) (ds:List Deferred) (w:World):Prop :=
 ∃(Ds:List Nat) (D L:List Sp) (U:Vm) (v3:Value),ds=Ds.map (Yj s)∧uZ w (s+4) base Ds D∧ag w (s+3) 36 #[.int .i64 je]∧ag w s 44 #[.pointer (some ⟨b,0,none⟩)]∧ag w (s+2) 41 #[v3] ∧
  w.ownsRow base 140 2 v3 L.length (ax L)∧(L=[]→v3= .slice none 0 0)∧L.length+D.length≤512∧aD w b U∧D.foldl jk (L,U)=R∧af (fun k=>k=b) w0 w∧base≤w.heap.size
theorem VN (b s base:Nat) (je:Int) (R:List Sp×Vm) (w0:World) (hs:w0.heap.size=s) (hb:b<s) (hbase:s+4≤base) (hje:je≠0) (d:Deferred) (ds:List Deferred) (w:World) (h:PlI b s base je R w0 (d::ds) w) :
  ∃fv cap f args,d.target= .fn fv cap∧(invoke d.target d.args).run prog w= .ok (.enter f args) w∧CallsD prog f args .returning w (fun e u' w'=>u'= .returning∧((∃v,e= .returned v)∧PlI b s base je R w0 ds w')):=by
 obtain ⟨Ds,D,L,U,v3,h1,h2,k0,k1,k3,hrow,hn,hl,hV,hR,hF,hbs⟩:=h
 match Ds,D,h1,h2 with
 | p::ps,x::xs,h1,h2 =>
  rw [List.map_cons] at h1;obtain ⟨rfl,rfl⟩:=List.cons.inj h1;obtain ⟨⟨q1,q2,k2⟩,h2⟩:=h2;obtain ⟨xa,xb⟩:=x;rw [List.length_cons] at hl;rw [List.foldl_cons,show jk (L,U) (xa,xb)=(if (bJ U xa xb 4 3 1).1=0 then L else (xa,xb)::L,(bJ U xa xb 4 3 1).2) from rfl] at hR;refine ⟨_,_,_,_,rfl,Ej s p w,?_⟩;by_cases hz:(bJ U xa xb 4 3 1).1=0
  ·rw [if_pos hz] at hR
   refine (Ju b (s+3) s p (s+2) je xa xb U w hV hje k0 k1 k2 hz).mono ?_;rintro e u' w' ⟨rfl,hv,hS,hF'⟩;refine ⟨rfl,hv,ps,xs,L,_,v3,rfl,uZ.far hF' (fun k hk _ h=>by omega) _ _ h2,hF'.blk k0 (by omega),hF'.blk k1 (by omega),hF'.blk k3 (by omega),aK hrow hF' (fun g hg h=>by have:=(hrow.lt g hg).1;omega),hn,by omega,hS,hR,hF.trans hF',by have:=hF'.size;omega⟩
  ·rw [if_neg hz] at hR
   refine (Gr b (s+3) s p (s+2) base je xa xb U v3 L w hV hje k0 k1 k2 k3 (by omega) hn hrow hbs (by omega) (by omega) (by omega) (by omega) hz).mono ?_;rintro e u' w' ⟨rfl,hv,v',zJ,row',hS,hF'⟩;refine ⟨rfl,hv,ps,xs,(xa,xb)::L,_,v',rfl,uZ.far hF' (fun k hk hk2 h=>by omega) _ _ h2,hF'.blk k0 (by omega),hF'.blk k1 (by omega),zJ,row',fun h=>(by cases h),by rw [List.length_cons];omega,hS,hR,hF.trans' hF' (fun i hi h=>by omega),by have:=hF'.size;omega⟩
theorem N9 (b:Nat) (pg n f bk ev:Int) (V:Vm) (w:World) (hV:aD w b V) (hK:aQ V) (Ra:(eH pg n f bk ev).length≤512) :
  Calls prog 74 #[.pointer (some ⟨b,0,none⟩),eQ pg n f bk ev] w (N7 b (jw V (bN pg n f bk ev) (eH pg n f bk ev)) w):=by
 have HA:=ae (fun W h=>VM b pg n f bk ev V W h hK);obtain ⟨w0,hw0,hsz,hB0,k1,k2,k3,k4⟩:=LV (.pointer (some ⟨b,0,none⟩)) (bf pg n f bk ev) w;obtain ⟨s,hs⟩:=aj (w.heap.size);have hbs:b<s:=by rw [←hs];exact hV.lt
 have V0:=hV.call hB0;rw [hs] at k1 k2 k3 k4 hsz;obtain ⟨R,hR⟩:=aj (jw V (bN pg n f bk ev) (eH pg n f bk ev));rw [hR];have hR':=ae hR;unfold jw at hR';generalize bN pg n f bk ev=ck at *;generalize eH pg n f bk ev=G at *;unfold rM at HA;obtain ⟨gn,hgn⟩:=aj (G.length);rw [hgn] at HA Ra;have sF:=ae hgn;clear hR hgn hV hK;by_cases h0:ck=0
 case neg =>
  have h0':(ck != 0)=true:=by simpa using h0
  have hR2:Hid (R=([],ck,V)):=ae (by rw [←hR'.out,if_neg h0]);clear hR' h0
  go_enter_defers func74,ntmps74
  go_upto_region 1 with fail
  unfold bf at hw0;try simp only [hs]
  rw [←hw0];have c1:=k1.cell;have c2:=k2.cell;clear hw0;go_wp2_with fail;refine (HA.out _ V0).mono ?_;rintro e w1 ⟨A1,Gt,rfl,g1,g2,g3,g4,hb1,g6⟩;have jM:=k4.call hb1;have iQ:=k3.call hb1;have B1:=hB0.trans (hb1.mono hB0.size);have V1:=V0.call hb1;have f5:=jM.frozen;have c5:=jM.cell;have hb2:Below w.heap.size w (w1.setCell ⟨s+1+1+1,0,none⟩ (.int .i64 ck)):=B1.setCell (p:=⟨s+1+1+1,0,none⟩) (by show w.heap.size≤s+1+1+1;omega) _;have F2:af (fun k=>k=s+3) w1 (w1.setCell ⟨s+3,0,none⟩ (.int .i64 ck)):=af.setCell (T:=fun k=>k=s+3) (p:=⟨s+3,0,none⟩) (af.refl _ _) (fun _=>rfl) _;have V2:=V1.far F2 (by omega) (fun _ _ _ _ _ _ g _ _ _ hc e=>hc.elim fun cr hcr=>ag.uR hcr jM (by decide) e);have wR:=jM.aO 0 (.int .i64 ck);have gU:=F2.blk iQ (by show ¬s+2=s+3;omega);clear HA c1 c2 k1 k2 k3 k4 hB0 hb1 iQ jM F2 B1;go_upto_region 2 with fail
  generalize w1.setCell _ _=w2 at *;clear c5 f5;have c5:=wR.cell;go_upto_region 3 with fail
  clear c5;have Vd:aD w2.drew b V:=V2.call ((Below.refl _ w2).drew);refine bO ?_;refine bD (ErS (s+1+1+1) ck) [2] (by kernel_rfl) ?_;have Gu:=gU.drew;have Rb:=wR.drew;have hBd:=(hb2).drew;generalize (w2).drew=wd at *;have hS:ErS (s+1+1+1) ck wd:=⟨Rb.cell 0,trivial⟩;have fz4:=Gu.frozen;refine aX 0 hS ?_;refine fu 1 fun K hK=>?_
  have z4:=Gu.cell;go_simp;refine hK.out _ _ (fun _=>⟨((af.setCell (T:=fun k=>k=s+2) (p:=⟨s+1+1,0,none⟩) (af.refl _ wd) (fun _=>rfl) (.slice none 0 0)).cell (Rb.cell 0) (by show ¬s+3=s+2;omega)),trivial⟩) (fun _=>?_);clear hK K fz4 z4 hS;have Fx:af (fun k=>k=s+2) wd (wd.setCell ⟨s+2,0,none⟩ (.slice none 0 0)):=af.setCell (T:=fun k=>k=s+2) (p:=⟨s+2,0,none⟩) (af.refl _ _) (fun _=>rfl) _;have Oa:=Gu.aO 0 (.slice none 0 0);have Bb:=Fx.blk Rb (by show ¬s+3=s+2;omega);have hBe:Below w.heap.size w (wd.setCell ⟨s+1+1,0,none⟩ (.slice none 0 0)):=hBd.setCell (p:=⟨s+1+1,0,none⟩) (by show w.heap.size≤s+1+1;omega) _;generalize wd.setCell _ _=we at *;try simp only [Act.put,gM,gN,gP]
  have fz5:=Bb.frozen;have z5:=Bb.cell;refine fu 2 fun K hK=>?_
  go_simp;refine hK.out _ _ (fun h=>by cases h) (fun _=>?_);clear hK K fz5 z5;have Fy:af (fun k=>k=s+3) we (we.setCell ⟨s+3,0,none⟩ (.int .i64 ck)):=af.setCell (T:=fun k=>k=s+3) (p:=⟨s+3,0,none⟩) (af.refl _ _) (fun _=>rfl) _;have L8:=Bb.aO 0 (.int .i64 ck);have Ob:=Fy.blk Oa (by show ¬s+2=s+3;omega);have hend:Below w.heap.size w (we.setCell ⟨s+1+1+1,0,none⟩ (.int .i64 ck)):=hBe.setCell (p:=⟨s+1+1+1,0,none⟩) (by show w.heap.size≤s+1+1+1;omega) _;generalize we.setCell _ _=wf at *;try simp only [Act.put,gM,gN,gP]
  refine bz (by kernel_rfl) ?_ _;refine aT ?_;have c4:=Ob.cell;have c5:=L8.cell;go_wp2_with fail;have Ve:=Vd.far Fx (by omega) (fun _ _ _ _ _ _ g _ _ _ hc e=>hc.elim fun cr hcr=>ag.uR hcr Gu (by decide) e);have Vf:=Ve.far Fy (by omega) (fun _ _ _ _ _ _ g _ _ _ hc e=>hc.elim fun cr hcr=>ag.uR hcr Bb (by decide) e);rw [hR2.out];refine ⟨_,?_,none,0,rfl,RU.nil,fun _ _ h=>(by cases h),by unfold maxLen;simp,Vf,.of_below hend⟩;simp [results,results74,go_sem,c4,c5]
 case pos =>
  subst h0;have hR2:Hid (oL G [] G V=R):=ae (by rw [←hR'.out,if_pos rfl]);clear hR'
  go_enter_defers func74,ntmps74
  go_upto_region 1 with fail
  unfold bf at hw0;try simp only [hs]
  rw [←hw0];have c1:=k1.cell;have c2:=k2.cell;clear hw0;go_wp2_with fail;refine (HA.out _ V0).mono ?_;rintro e w1 ⟨A1,Gt,rfl,g1,g2,g3,g4,hb1,g6⟩;have jM:=k4.call hb1;have iQ:=k3.call hb1;have k11:=k1.call hb1;have B1:=hB0.trans (hb1.mono hB0.size);have V1:=V0.call hb1;have f5:=jM.frozen;have c5:=jM.cell;clear HA c1 c2 k1 k2 k3 k4;go_upto_region 4 with fail
  have F2:af (fun k=>k=s+3) w1 (w1.setCell ⟨s+3,0,none⟩ (.int .i64 0)):=af.setCell (T:=fun k=>k=s+3) (p:=⟨s+3,0,none⟩) (af.refl _ _) (fun _=>rfl) _;have wR:=jM.aO 0 (.int .i64 0);have gU:=F2.blk iQ (by show ¬s+2=s+3;omega);have k12:=F2.blk k11 (by show ¬s=s+3;omega);have V2:=V1.far F2 (by omega) (fun _ _ _ _ _ _ g _ _ _ hc e=>hc.elim fun cr hcr=>ag.uR hcr jM (by decide) e);have hF2:af (fun _=>False) w (w1.setCell ⟨s+1+1+1,0,none⟩ (.int .i64 0)):=(af.of_below B1).trans' F2 (fun i hi e=>by omega);have hs2:=F2.size;have hA1:∀g o,A1=some ⟨g,o,none⟩→s+4≤g:=fun g o e=>by have:=g4 g o e;omega
  have g12:=ae ((F2.ru g1 (fun g o e h=>by have:=hA1 g o e;omega)).more F2.size);have hw4:s+4≤w1.heap.size:=by have:=hb1.size;omega
  clear c5 f5 jM iQ k11 F2 B1 V1 hb1 g1 V0 hB0;generalize w1.setCell _ _=w2 at *;have hgm:gn≤maxLen:=by unfold maxLen;omega
  unfold maxLen at hgm;have El:=ae hA1;have ab7:=ae hF2;have hs':=ae hs;have hsz2:s+4≤w2.heap.size:=by omega
  clear hA1 hF2 hs hsz g2 g3 g4 g6;go_wp2_with fail;refine wp_loop (fun a wr=>∃(k:Nat) (Ds:List Nat) (T:Vm) (u8 u21 u22 u23 u24 u25 u26 u27 u28 u29 u30 u31 u32 u33 u34 u35:Value),a={ tmps:=#[.pointer (some ⟨b,0,none⟩),eQ pg n f bk ev,.pointer (some ⟨s,0,none⟩),.pointer (some ⟨s+1,0,none⟩),.pointer (some ⟨s+1+1,0,none⟩),.pointer (some ⟨s+1+1+1,0,none⟩),.slice A1 gn Gt,undef,u8,.tuple #[.slice A1 gn Gt,.int .i64 0],.pointer (some ⟨b,0,none⟩),.agg #[.int .i64 pg,.int .i64 n,.int .i64 f,.int .i64 bk,.int .i64 ev],.tuple #[.slice A1 gn Gt,.int .i64 0],.slice A1 gn Gt,.int .i64 0,.int .i64 0,.bool false,undef,.slice A1 gn Gt,.int .i64 gn,.int .i64 k,u21,u22,u23,u24,u25,u26,u27,u28,u29,u30,u31,u32,u33,u34,u35,undef],defers:=Ds.map (Yj s) }∧k≤gn∧Hid (oL G (G.take k).reverse (G.drop k) T=R)∧uZ wr (s+4) wr.heap.size Ds (G.take k).reverse∧Hid (aD wr b T)∧ag wr s 44 #[.pointer (some ⟨b,0,none⟩)]∧ag wr (s+2) 41 #[.slice none 0 0]∧ag wr (s+3) 36 #[.int .i64 0]∧af (fun k=>k=b∨k=s+3) w2 wr) (fun a _=>gn - (intOf (a.tmps.getD 20 undef)).toNat) ?_ ?_
  ·exact ⟨0,[],V,_,_,_,_,_,_,_,_,_,_,_,_,_,_,_,_,rfl,by omega,ae (by simpa using hR2.out),trivial,ae V2,k12,gU,wR,af.refl _ _⟩
  ·rintro a wr ⟨k,Ds,T,u8,u21,u22,u23,u24,u25,u26,u27,u28,u29,u30,u31,u32,u33,u34,u35,rfl,hk,hfl,hBx,hT,q1,q2,q3,hF⟩
   have anD:=hF.size;by_cases hlt:k<gn
   ·have hlt':decide ((k:Int)<(gn:Int))=true:=by simpa using hlt
    obtain ⟨rb,ro,hAe,hrb,c5,c6⟩:=g12.out.at_' (k:=k) (by have:=sF.out;omega);have hrs:=El.out _ _ hAe;subst hAe;have d5:=hF.cell c5 (by show ¬(rb=b∨rb=s+3);omega);have d6:=hF.cell c6 (by show ¬(rb=b∨rb=s+3);omega);have hsn:=hfl.out;rw [Go.Pol.drop_cons (0,0) G k (by have:=sF.out;omega),oL] at hsn;have htk:Hid ((G.take (k+1)).reverse=G.getD k (0,0)::(G.take k).reverse):=ae (by rw [rz (0,0) G (by have:=sF.out;omega),List.reverse_append];rfl);generalize G.getD k (0,0)=x at *;obtain ⟨xa,xb⟩:=x;simp only at d5 d6 hsn;have yt:=ae hsn;have e1:=q1.cell;clear hsn c5 c6 hfl;go_upto_region 7 with fail
    have kx:=ag.new wr 140 #[.int .i64 xa,.int .i64 xb];have hbx:Below wr.heap.size wr (wr.alloc (.cells #[.int .i64 xa,.int .i64 xb] 140)):=(Below.refl _ _).alloc (Nat.le_refl _) _;obtain ⟨p,hp⟩:=aj (wr.heap.size);have hzx:(wr.alloc (.cells #[.int .i64 xa,.int .i64 xb] 140)).heap.size=p+1:=by simp [hp]
    have hBx2:=ae (uZ.far (af.of_below hbx) (T:=fun _=>False) (fun _ _ _ h=>h) _ _ hBx);have Tx:=ae (hT.out.call hbx);have r1:=q1.call hbx;have r2:=q2.call hbx;have r3:=q3.call hbx;have FZ:af (fun k=>k=b∨k=s+3) w2 _:=hF.trans (.of_below hbx);rw [hp] at kx;generalize wr.alloc _=w5 at *;try simp only [hp]
    have HD:=ae (QY b xa xb T w5 Tx.out);have cx:=kx.cell;have e2:=r1.cell;clear hbx hT hF d5 d6 e1 q1 q2 q3 hBx;go_wp2_with fail;refine HD.out.mono ?_;rintro e w6 ⟨rfl,V6,F6⟩;have r1':=F6.blk r1 (by omega);have r2':=F6.blk r2 (by omega);have r3':=F6.blk r3 (by omega);have kx':=F6.blk kx (by omega);rw [hp] at hBx2;have hBx3:=ae (uZ.far F6 (fun k h1 h2 e=>by omega) _ _ hBx2.out);have Gf:af (fun k=>k=b∨k=s+3) w2 w6:=FZ.trans (F6.mono (fun _ _ e=>.inl e));have hz6:p+1≤w6.heap.size:=by have:=F6.size;omega
    generalize bJ T xa xb 4 1 3=J at *;obtain ⟨je,jV⟩:=J;simp only at yt V6;have f3:=r3'.frozen;have c63:=r3'.cell;have tV:=r3'.aO 0 (.int .i64 je);have F7:af (fun k=>k=s+3) w6 (w6.setCell ⟨s+3,0,none⟩ (.int .i64 je)):=af.setCell (T:=fun k=>k=s+3) (p:=⟨s+3,0,none⟩) (af.refl _ _) (fun _=>rfl) _;have V7:=V6.far F7 (by omega) (fun _ _ _ _ _ _ g _ _ _ hc e=>hc.elim fun cr hcr=>ag.uR hcr r3' (by decide) e);have k17:=F7.blk r1' (by omega);have k27:=F7.blk r2' (by omega);have Cc:=F7.blk kx' (by omega);have BV:=ae (uZ.far F7 (fun k h1 h2 e=>by omega) _ _ hBx3.out);have rq:af (fun k=>k=b∨k=s+3) w2 (w6.setCell ⟨s+1+1+1,0,none⟩ (.int .i64 je)):=Gf.trans (F7.mono (fun _ _ e=>.inr e));have hz7:p+1≤(w6.setCell ⟨s+1+1+1,0,none⟩ (.int .i64 je)).heap.size:=Nat.le_trans hz6 F7.size;have mI:=yt.out;clear HD Tx r1 r2 r3 FZ F6 V6 kx cx e2 r1' r2' kx' hBx2 hBx3 Gf hz6 F7 yt;go_upto_region 8 with fail
    generalize w6.setCell _ _=w7 at *;clear r3' f3 c63;have c3:=tV.cell;by_cases hj2:je=0
    ·subst hj2
     rw [if_pos rfl] at mI;have Ce:=ae mI;clear mI;go_upto_region 11 with fail
     go_wp2_with fail;rw [show ((k:Int)+1)=((k+1:Nat):Int) by omega];refine ⟨⟨k+1,p::Ds,jV,_,_,_,_,_,_,_,_,_,_,_,_,_,_,_,_,rfl,by omega,by rw [htk.out];exact Ce,?_,ae V7,k17,k27,tV,rq⟩,?_⟩
     ·rw [htk.out]
      exact ⟨⟨by omega,by omega,Cc⟩,uZ.more (by omega) _ _ BV.out⟩
     ·simp [intOf];omega
    ·have hj':(je != 0)=true:=by simpa using hj2
     rw [if_neg hj2] at mI;have Ce:=ae mI;clear mI;go_upto_region 9 with fail
     refine bO ?_;refine bD (StS (s+1+1) (s+1+1+1) je) [3] (by kernel_rfl) ?_;have Gu:=k27.drew;have Rb:=tV.drew;have kd1:=k17.drew;have Vd:aD w7.drew b jV:=V7.call ((Below.refl _ w7).drew);have hBd:=ae (uZ.far (T:=fun _=>False) ((af.refl _ w7).drew) (fun _ _ _ h=>h) _ _ BV.out);have Yk:af (fun k=>k=b∨k=s+3) w2 w7.drew:=rq.drew;have hzd:p+1≤w7.drew.heap.size:=hz7;clear k27 tV k17 V7 BV rq c3 Cc hz7;generalize w7.drew=wd at *;have hS:StS (s+1+1) (s+1+1+1) je wd:=⟨Gu.cell 0,Rb.cell 0⟩;refine aX 0 hS ?_;refine aX 1 hS ?_;refine fu 2 fun K hK=>?_
     have z4:=Gu.cell;have fz4:=Gu.frozen;go_simp;have Fx:af (fun k=>k=s+2) wd (wd.setCell ⟨s+2,0,none⟩ (.slice none 0 0)):=af.setCell (T:=fun k=>k=s+2) (p:=⟨s+2,0,none⟩) (af.refl _ wd) (fun _=>rfl) _;have Oa:=Gu.aO 0 (.slice none 0 0);have Bb:=Fx.blk Rb (by omega);refine hK.out _ _ (fun _=>⟨Oa.cell 0,Bb.cell 0⟩) (fun _=>?_);have ke1:=Fx.blk kd1 (by omega);have Ve:=Vd.far Fx (by omega) (fun _ _ _ _ _ _ g _ _ _ hc e=>hc.elim fun cr hcr=>ag.uR hcr Gu (by decide) e);have hBe:=ae (uZ.far Fx (fun k h1 h2 e=>by omega) _ _ hBd.out);have hFe:af (fun k=>k=b∨k=s+3∨k=s+2) w2 (wd.setCell ⟨s+2,0,none⟩ (.slice none 0 0)):=(Yk.mono (fun k _ e=>by omega)).trans (Fx.mono (fun k _ e=>by omega));have hze:p≤(wd.setCell ⟨s+2,0,none⟩ (.slice none 0 0)).heap.size:=Nat.le_trans (by omega) Fx.size;clear hK K fz4 z4 hS Fx hzd Yk hBd Vd kd1 Gu Rb;generalize wd.setCell _ _=we at *;have fz5:=Bb.frozen;have z5:=Bb.cell;refine fu 3 fun K hK=>?_
     go_simp;refine hK.out _ _ (fun h=>by cases h) (fun _=>?_);have Fy:af (fun k=>k=s+3) we (we.setCell ⟨s+3,0,none⟩ (.int .i64 je)):=af.setCell (T:=fun k=>k=s+3) (p:=⟨s+3,0,none⟩) (af.refl _ we) (fun _=>rfl) _;have L8:=Bb.aO 0 (.int .i64 je);have Ob:=Fy.blk Oa (by omega);have kf1:=Fy.blk ke1 (by omega);have hzf:p≤(we.setCell ⟨s+3,0,none⟩ (.int .i64 je)).heap.size:=Nat.le_trans hze Fy.size;have Vf:=Ve.far Fy (by omega) (fun _ _ _ _ _ _ g _ _ _ hc e=>hc.elim fun cr hcr=>ag.uR hcr Bb (by decide) e);have hBf:=ae (uZ.more hzf _ _ (uZ.far Fy (fun k h1 h2 e=>by omega) _ _ hBe.out));have hFf:af (fun k=>k=b∨k=s+3∨k=s+2) w2 (we.setCell ⟨s+1+1+1,0,none⟩ (.int .i64 je)):=hFe.trans (Fy.mono (fun k _ e=>by omega));clear hK K fz5 z5 ke1 Oa Bb Ve hBe hFe;generalize we.setCell _ _=wf at *;refine bz (by kernel_rfl) ?_ _;refine aT ?_;go_wp2_with fail;obtain ⟨Df,hDf⟩:=aj ((G.take k).reverse.foldl jk ([],jV));have jH:R=(Df.1,je,Df.2):=by rw [←Ce.out,hDf]
     refine yo (PlI b s wf.heap.size je Df w) ?_ (fun d ds w' h=>VN b s wf.heap.size je Df w hs'.out hbs (by omega) hj2 d ds w' h) _ wf ?_
     ·rintro w' ⟨Ds',D',L',U',v3,g1,g2,g5,_,g4,grow,_,gl,gV,gR,gF,gz⟩
      have hD0:D'=[]:=by
       have:Ds'=[]:=List.map_eq_nil_iff.1 g1.symm;subst this
       match D',g2 with
       | [],_=>rfl
      subst hD0;rw [jH,←gR];obtain ⟨A5,cap5,rfl,Oc,_,_,Uq,_⟩:=mU grow rfl;have x4:=g4.cell;have x5:=g5.cell;refine ⟨_,?_,A5,cap5,rfl,Oc,fun g o e=>by have:=Uq g o e;have:=hs'.out;omega,?_,gV,gF⟩
      ·simp [results,results74,go_sem,x4,x5]
      ·unfold maxLen
       show L'.length≤_;omega
     ·exact ⟨Ds,(G.take k).reverse,[],jV,_,rfl,hBf.out,L8,kf1,Ob,World.ownsRow_nil _ _ _ _,fun _=>rfl,by simp only [List.length_nil,List.length_reverse,List.length_take];omega,Vf,hDf,(ab7.out.mono (fun _ _ h=>h.elim)).trans' hFf (fun i hi e=>by have:=hs'.out;omega),Nat.le_refl _⟩
   ·obtain rfl:k=gn:=by omega
    have hlt':decide ((k:Int)<(k:Int))=false:=by simp
    have jH:Hid (R=(G,0,T)):=ae (by rw [←hfl.out,List.drop_of_length_le (by have:=sF.out;omega)];rfl);have f4:=q2.frozen;have c4:=q2.cell;have Fx:af (fun k=>k=s+2) wr (wr.setCell ⟨s+2,0,none⟩ (.slice A1 k Gt)):=af.setCell (T:=fun k=>k=s+2) (p:=⟨s+2,0,none⟩) (af.refl _ _) (fun _=>rfl) _;have f5:=(Fx.blk q3 (by omega)).frozen;have c5:=(Fx.blk q3 (by omega)).cell;have Oa:=q2.aO 0 (.slice A1 k Gt);have Bb:=Fx.blk q3 (by omega);have Ve:=hT.out.far Fx (by omega) (fun _ _ _ _ _ _ g _ _ _ hc e=>hc.elim fun cr hcr=>ag.uR hcr q2 (by decide) e);go_wp2_with fail;have Fy:af (fun k=>k=s+3) (wr.setCell ⟨s+2,0,none⟩ (.slice A1 k Gt)) ((wr.setCell ⟨s+2,0,none⟩ (.slice A1 k Gt)).setCell ⟨s+3,0,none⟩ (.int .i64 0)):=af.setCell (T:=fun k=>k=s+3) (p:=⟨s+3,0,none⟩) (af.refl _ _) (fun _=>rfl) _;have L8:=Bb.aO 0 (.int .i64 0);have Ob:=Fy.blk Oa (by omega);have Vf:=Ve.far Fy (by omega) (fun _ _ _ _ _ _ g _ _ _ hc e=>hc.elim fun cr hcr=>ag.uR hcr Bb (by decide) e);have hFf:=((hF.mono (T':=fun k=>k=b∨k=s+3∨k=s+2) (fun k _ e=>by omega)).trans (Fx.mono (fun k _ e=>by omega))).trans (Fy.mono (fun k _ e=>by omega));have g15:=((hF.ru g12.out (fun g o e h=>by have:=El.out g o e;omega)).more hF.size);have g16:=(Fx.ru g15 (fun g o e h=>by have:=El.out g o e;omega)).more Fx.size;have g17:=(Fy.ru g16 (fun g o e h=>by have:=El.out g o e;omega)).more Fy.size;have x4:=Ob.cell;have x5:=L8.cell;clear f4 c4 f5 c5 Fx Fy Oa Bb Ve q2 q3 g15 g16;generalize (wr.setCell _ _).setCell _ _=wf at *;refine yo (fun ds w'=>w'=wf∧∃Ds':List Nat,ds=Ds'.map (Yj s)) ?_ ?_ _ wf ⟨rfl,Ds,rfl⟩
    ·rintro w' ⟨rfl,_⟩
     rw [jH.out];refine ⟨_,?_,A1,Gt,by rw [sF.out],g17,fun g o e=>by have:=El.out g o e;have:=hs'.out;omega,?_,Vf,(ab7.out.mono (fun _ _ h=>h.elim)).trans' hFf (fun i hi e=>by have:=hs'.out;omega)⟩
     ·simp [results,results74,go_sem,x4,x5]
     ·have:=sF.out
      unfold maxLen;show G.length≤_;omega
    ·rintro d ds w' ⟨rfl,Ds',hds⟩
     match Ds',hds with
     | p::ps,hds =>
      rw [List.map_cons] at hds;obtain ⟨rfl,rfl⟩:=List.cons.inj hds;refine ⟨_,_,_,_,rfl,Ej s p w',(Jt (s+3) s p (s+2) w' L8).mono ?_⟩;rintro e u' w3 ⟨rfl,hv,rfl⟩;exact ⟨rfl,hv,rfl,ps,rfl⟩
theorem kQ (n m:Int) (w:World):Calls prog 48 #[.int .i64 n,.int .i64 m] w fun e w'=>e= .returned (.bool (decide (n<0∨m<n)))∧w'=w:=by
 by_cases h:n<0
 ·have d1:decide (n<0)=true:=by simpa using h
  have h':decide (n<0∨m<n)=true:=by simp [h]
  rw [h'];go_enter func48,ntmps48;go_wp2_with fail;go_ret;exact ⟨rfl,rfl⟩
 ·have d1:decide (n<0)=false:=by simpa using h
  have h':decide (n<0∨m<n)=decide (m<n):=by simp [h]
  rw [h'];go_enter func48,ntmps48;go_wp2_with fail;go_ret;exact ⟨rfl,rfl⟩
theorem wT (b:Nat) (n:Int) (L:List Nd) (w:World) (hB:bA w b L) (hO:jE L) :
  Calls prog 137 #[.pointer (some ⟨b,0,none⟩),.int .i64 n] w fun e w'=>e= .returned (.bool (decide (0≤n∧n<(L.length:Int))))∧w'=w:=by
 obtain ⟨g,cap,hc1,hc2,kb,hg,hgl,hcell,hfz⟩:=hB.node hO.pos;have cb:=kb.cell;obtain ⟨m,hm⟩:=aj (L.length);have hmm:=hO.few;rw [hm] at cb hmm ⊢;by_cases h1:0≤n
 ·have d1:decide (0≤n)=true:=by simpa using h1
  by_cases h2:n<(m:Int)
  ·have d2:decide (n<(m:Int))=true:=by simpa using h2
   have h':decide (0≤n∧n<(m:Int))=true:=by simp [h1,h2]
   obtain ⟨i,rfl⟩:∃i:Nat,n=(i:Int):=⟨n.toNat,by omega⟩;have hi:i<L.length:=by omega
   have c4:=hcell i hi 4 (.bool (L.getD i nd0).cl) rfl;rw [(hO.chain i hi).1] at c4;rw [h'];clear h1 h2 h';have h2:i<m:=by omega
   go_enter func137,ntmps137;go_wp2_with fail;go_ret;exact ⟨rfl,rfl⟩
  ·have d2:decide (n<(m:Int))=false:=by simpa using h2
   have h':decide (0≤n∧n<(m:Int))=false:=by simp [h2]
   rw [h'];go_enter func137,ntmps137;go_wp2_with fail;go_ret;exact ⟨rfl,rfl⟩
 ·have d1:decide (0≤n)=false:=by simpa using h1
  have h':decide (0≤n∧n<(m:Int))=false:=by simp [h1]
  rw [h'];go_enter func137,ntmps137;go_wp2_with fail;go_ret;exact ⟨rfl,rfl⟩
theorem KH (b:Nat) (n:Int) (A:Option Addr) (cap:Nat) (L:List Nd) (w:World) (hB:bA w b L) (hO:jE L) (hr:RI w w.heap.size A [n]) :
  Calls prog 76 #[.pointer (some ⟨b,0,none⟩),.slice A 1 cap] w fun e w'=>e= .returned (.int .i64 (if 0≤n∧n<(L.length:Int) then 0 else 4))∧w'=w:=by
 have HO:=ae (wT b n L w hB hO);obtain ⟨g,cap2,hc1,hc2,kb,hg,hgl,hcell,hfz⟩:=hB.node hO.pos;have cb:=kb.cell;obtain ⟨p,o,rfl,_,c0⟩:=hr 0 (by simp);simp only [Nat.add_zero] at c0;obtain ⟨R,hR⟩:=aj (decide (0≤n∧n<(L.length:Int)));have hR2:Hid ((if 0≤n∧n<(L.length:Int) then (0:Int) else 4)=if R=true then 0 else 4):=ae (by rw [←hR];simp);rw [hR] at HO;rw [hR2.out];generalize L.length=m at *;clear hR hc1 hcell hB hO hr;cases R with
 | true =>
  go_enter func76,ntmps76;go_wp2_with fail
  go_loopw [18] (fun i wr=>∃k:Nat,k≤1∧i= .int .i64 k∧wr=w) (fun i _=>1 - (intOf i).toNat)
  case atStart=>exact ⟨0,by omega,rfl,rfl⟩
  case round =>
   obtain ⟨k,hk,rfl,hw⟩:=hrel;replace hw:=hw.symm;subst hw;by_cases h0:k=0
   ·subst h0
    go_wp2_with fail;refine HO.out.mono ?_;rintro e w2 ⟨rfl,hw2⟩;replace hw2:=hw2.symm;subst hw2;go_wp2_with fail;go_roundw
    case rel=>exact ⟨1,by omega,by go_num,trivial⟩
    case measure=>simp [intOf]
   ·have h1:k=1:=by omega
    subst h1;go_wp2_with fail;go_ret;exact ⟨rfl,rfl⟩
 | false =>
  go_enter func76,ntmps76;go_wp2_with fail
  go_loopw [18] (fun i wr=>i= .int .i64 0∧wr=w) (fun i _=>1)
  case atStart=>exact ⟨rfl,rfl⟩
  case round =>
   obtain ⟨rfl,hw⟩:=hrel;replace hw:=hw.symm;subst hw;go_wp2_with fail;refine HO.out.mono ?_;rintro e w2 ⟨rfl,hw2⟩;replace hw2:=hw2.symm;subst hw2;go_wp2_with fail;go_ret;exact ⟨rfl,rfl⟩
theorem VP (b:Nat) (L:List Nd) (w:World) (hB:bA w b L) (hO:jE L) :
  Calls prog 76 #[.pointer (some ⟨b,0,none⟩),.slice none 0 0] w fun e w'=>e= .returned (.int .i64 0)∧w'=w:=by
 obtain ⟨g,cap2,hc1,hc2,kb,hg,hgl,hcell,hfz⟩:=hB.node hO.pos;have cb:=kb.cell;generalize L.length=m at *;clear hcell hB hO hc1;go_enter func76,ntmps76;go_wp2_with fail
 go_loopw [18] (fun i wr=>i= .int .i64 0∧wr=w) (fun i _=>1)
 case atStart=>exact ⟨rfl,rfl⟩
 case round =>
  obtain ⟨rfl,hw⟩:=hrel;replace hw:=hw.symm;subst hw;go_wp2_with fail;go_ret;exact ⟨rfl,rfl⟩
theorem Be (b i:Nat) (L:List Nd) (w:World) (hB:bA w b L) (hO:bg L) (hi:i<L.length) :
  Calls prog 173 #[.pointer (some ⟨b,0,none⟩),.int .i64 i] w fun e w'=>e= .returned (.int .i64 (bQ L i))∧Below w.heap.size w w':=by
 obtain ⟨g,cap2,hc1,hc2,kb,hg,hgl,hcell,hfz⟩:=hB.node hO.pos;have c1:=hcell i hi 1 _ rfl;have c5:=hcell i hi 5 _ rfl;have hx:=hO.get hi;unfold bQ;generalize (L.getD i nd0).lim=x at *;generalize (L.getD i nd0).all=y at *;have e1:=fun z:Ext w=>z.cell c1
 have e5:=fun z:Ext w=>z.cell c5
 have eb:=fun z:Ext w=>(z.blk kb).cell
 generalize L.length=m at *;have hwr:IntKind.i64.wrap (x - y)=x - y:=by rw [IntKind.wrap_i64];omega
 clear hcell hB hO;go_enter func173,ntmps173;go_upto_region 1 with fail
 refine aF (by kernel_rfl) (by kernel_rfl) ?_
 repeat (go_big_quiet_step (fail))
 refine wpQuiet_nil ?_;rintro w2 ⟨⟨_,hw2⟩,rfl⟩;go_wp2_with fail;go_ret;exact ⟨rfl,hw2⟩
theorem Ci:∀args w,(callFunc 204 args).run prog w= .ok (.enter 204 args) w:=enters_of func204 (by kernel_rfl) rfl
theorem KI (b:Nat) (n:Int) (w:World):Calls prog 180 #[.pointer (some ⟨b,0,none⟩),.int .i64 n] w fun e w' =>
  e= .returned (.func (.func 204) #[] #[.pointer (some ⟨w.heap.size,0,none⟩),.pointer (some ⟨w.heap.size+1,0,none⟩)])∧w'=(w.alloc (.cells #[.pointer (some ⟨b,0,none⟩)] 45)).alloc (.cells #[.int .i64 n] 3):=by
 go_enter func180,ntmps180;go_wp2_with fail;go_ret;exact ⟨rfl,rfl⟩
theorem Gx (b n len B1 B2:Nat) (w:World) (hn:n<len) (hne:B1≠B2) (hbl:b≠B2) (k1:ag w B1 45 #[.pointer (some ⟨b,0,none⟩)]) (k2:ag w B2 3 #[.int .i64 n]) :
  ab8 prog 204 #[.pointer (some ⟨B1,0,none⟩),.pointer (some ⟨B2,0,none⟩)] (fun i:Nat=>#[.int .i64 i]) (fun k=>k=B2) (fun k=>k=B1∨k=B2) (Yl b len) (ji n) w:=by
 intro m l J Jx W hW hI hJ hJx hY h0;have kB1:=hW.blk k1 (by simp);have kB2:=hW.blk k2 (by simp);refine callsIn_of_wp func204 rfl trivial ?_ rfl;simp only [ntmps204,List.size_toArray,List.length_cons,List.length_nil,Nat.reduceAdd,Nat.reduceSub,Array.replicate_succ,Array.replicate_zero,List.push_toArray,List.append_toArray,List.nil_append,List.cons_append]
 gi_wp2_with fail
 gi_loopw [4] (fun _ wr=>∃j:Nat,j≤n+1∧ag wr B1 45 #[.pointer (some ⟨b,0,none⟩)]∧ag wr B2 3 #[.int .i64 ((j:Int) - 1)]∧J ((ji n).take (n+1 - j)) wr) (fun _ wr=>match wr.cell? ⟨B2,0,none⟩ with|some v=>((intOf v)+1).toNat|none=>0)
 case atStart=>exact ⟨n+1,by omega,kB1,by rw [show ((n+1:Nat):Int) - 1=(n:Int) by omega];exact kB2,by simpa using h0⟩
 case round =>
  obtain ⟨j,hj,kB1,kB2,hJs⟩:=hrel;obtain ⟨L,hB,hO,hLl⟩:=hI _ _ hJs;have q1:=kB1.cell;have q2:=kB2.cell;have hm2:=ae (kB2.cell 0);by_cases hz:j=0
  ·subst hz
   have HO:=ae (wT b (-1) L wr hB hO);rw [show decide ((0:Int)≤-1∧(-1:Int)<(L.length:Int))=false by simp] at HO;rw [show ((0:Nat):Int) - 1 = -1 by omega] at q2;have hJe:Hid (J (ji n) wr):=ae (by rw [show (ji n).take (n+1 - 0)=ji n from List.take_of_length_le (by unfold ji;simp)] at hJs;exact hJs)
   gi_wp2_with (gi_at_call 137;refine (callsIn_wide.2 HO.out).mono ?_;rintro e w2 ⟨rfl,hw2⟩;replace hw2:=hw2.symm;subst hw2)
   go_end0
   exact ⟨⟨_,rfl⟩,.inl hJe.out⟩
  ·obtain ⟨q,rfl⟩:∃q,j=q+1:=⟨j - 1,by omega⟩
   rw [show ((q+1:Nat):Int) - 1=(q:Int) by omega] at q2;have HO:=ae (wT b (q:Int) L wr hB hO);rw [show decide ((0:Int)≤(q:Int)∧(q:Int)<(L.length:Int))=true by simp;omega] at HO;have hpre:(ji n).take (n+1 - (q+1))++[q]=(ji n).take (n+1 - q):=by
    have:=Rh n q (by omega);rw [show n+1 - (q+1)=n - q by omega,show n+1 - q=n - q+1 by omega];exact this
   obtain ⟨fn,tmps,assign,body,hy,qA⟩:=hY (m - 1) _ q wr hJs (by rw [hpre];exact List.take_prefix _ _)
   gi_wp2_with (gi_at_call 137;refine (callsIn_wide.2 HO.out).mono ?_;rintro e w2 ⟨rfl,hw2⟩;replace hw2:=hw2.symm;subst hw2)
   refine qA.mono ?_;rintro e W3 (⟨rfl,hJ3,ma⟩|⟨rfl,hJx3⟩)
   ·have b1:=ma.blk kB1 (by simp)
    have b2:=ma.blk kB2 (by simp);obtain ⟨L3,hB3,hO3,hL3⟩:=hI _ _ hJ3;have hq3:q<L3.length:=by omega
    obtain ⟨g,cap2,hc1,hc2,kb,hg,hgl,hcell,hfz⟩:=hB3.node hO3.pos;have c0:=hcell q hq3 0 _ rfl;rw [(hO3.chain q hq3).2,Nat.add_zero] at c0;have e1:=fun z:Ext W3=>(z.blk b1).cell
    have e2:=fun z:Ext W3=>(z.blk b2).cell
    have e3:=fun z:Ext W3=>(z.blk kb).cell
    have e4:=fun z:Ext W3=>z.cell c0
    have hqm:(q:Int)<(L3.length:Int):=by omega
    rw [hpre] at hJ3;have ahs:=ae hJ3;have anE:=ae hB3;have hne':¬b=B2:=hbl;clear hO q1 q2 hB qA hJs hpre HO hcell hJ3 hB3 kB1 kB2;generalize L3.length=ml at *
    gi_upto_region 1 with fail
    refine wpIn_wide.2 ?_;refine dH 9 (by kernel_rfl) (by kernel_rfl) ?_;simp only [List.take_succ_cons,List.take_zero,List.drop_succ_cons,List.drop_zero]
    repeat (go_big_quiet_step (fail))
    refine wpQuiet_nil ?_;intro z;have b1z:=(af.of_below z.le:af (fun _=>False) _ _).blk b1 id;have b2z:=(af.of_below z.le:af (fun _=>False) _ _).blk b2 id;have Je:=hJ _ _ z.w ahs.out (af.of_below z.le);have f2:=b2z.frozen;have c2:=b2z.cell;have F4:af (fun k=>k=B2) z.w (z.w.setCell ⟨B2,0,none⟩ (.int .i64 ((q:Int) - 1))):=af.setCell (T:=fun k=>k=B2) (p:=⟨B2,0,none⟩) (af.refl _ _) (fun _=>rfl) _;have k14:=F4.blk b1z hne;have k24:=b2z.aO 0 (.int .i64 ((q:Int) - 1));have Jy:=hJ _ _ _ Je F4;have hfin:=ae (And.intro k14 (And.intro k24 Jy));clear e1 e2 e3 e4 b1z k14 k24 Jy F4 Je b1 b2;go_wp2_with fail;refine ⟨⟨q,by omega,hfin.out.1,hfin.out.2.1,hfin.out.2.2⟩,?_⟩;have h1:(z.w.setCell ⟨B2,0,none⟩ (.int .i64 ((q:Int) - 1))).cell? ⟨B2,0,none⟩=some (.int .i64 ((q:Int) - 1)):=by have:=hfin.out.2.1.cell 0;simpa using this
    have h2:wr.cell? ⟨B2,0,none⟩=some (.int .i64 (((q+1:Nat):Int) - 1)):=by have:=hm2.out;simpa using this
    rw [h1,h2];simp only [intOf];omega
   ·have hpr:(ji n).take (n+1 - (q+1))++[q] <+: ji n:=by rw [hpre];exact List.take_prefix _ _
    gi_wp2_with fail
    go_end0
    exact ⟨⟨_,rfl⟩,.inr ⟨_,hpr,hJx3⟩⟩
def ahw (s b g0 cap0:Nat) (p:Int) (L:List Nd) (w:World) (pre:List Nat) (W:World):Prop :=
 ag W b 75 #[.bool true,.slice (some ⟨g0,0,none⟩) L.length cap0]∧bA W b (pre.foldl (fun L i=>L.modify i (sG p)) L)∧ag W s 45 #[.pointer (some ⟨b,0,none⟩)]∧ag W (s+1) 3 #[.int .i64 p]∧af (ko b w) w W
theorem KJ (b n:Nat) (p:Int) (L:List Nd) (w:World) (hB:bA w b L) (hO:jE L) (hn:n<L.length) (hS:Ut L) (hp : -100000≤p∧p≤100000) :
  Calls prog 122 #[.pointer (some ⟨b,0,none⟩),.int .i64 n,.int .i64 p] w fun e w'=>(∃v,e= .returned v)∧bA w' b (qQ L n p)∧af (ko b w) w w':=by
 have hb0:=(aV w (.cells #[.pointer (some ⟨b,0,none⟩)] 45)).alloc (by simp) (.cells #[.int .i64 p] 3);have k1:=(ag.new w 45 #[.pointer (some ⟨b,0,none⟩)]).alloc (.cells #[.int .i64 p] 3);have k2:=ag.new (w.alloc (.cells #[.pointer (some ⟨b,0,none⟩)] 45)) 3 #[.int .i64 p];rw [World.size_alloc] at k2;have B0:=hB.call hb0;have hbs:=hB.lt;have c1:=k1.cell;obtain ⟨g0,cap0,hc1,hc2,EP,hg0,ahx,_,_⟩:=hB.node hO.pos;refine bM func122 rfl ?_;simp only [ntmps122,List.size_toArray,List.length_cons,List.length_nil,Nat.reduceAdd,Nat.reduceSub,Array.replicate_succ,Array.replicate_zero,List.push_toArray,List.append_toArray,List.nil_append,List.cons_append]
 go_wp2_with (go_at_call 180;refine (KI b n _).mono ?_;rintro e w2 ⟨rfl,rfl⟩)
 obtain ⟨s,hs⟩:=aj (w.heap.size);rw [hs] at hbs ahx;obtain ⟨W0,hW0⟩:=aj ((((w.alloc (.cells #[.pointer (some ⟨b,0,none⟩)] 45)).alloc (.cells #[.int .i64 p] 3)).alloc (.cells #[.pointer (some ⟨b,0,none⟩)] 45)).alloc (.cells #[.int .i64 n] 3));have hsz:W0.heap.size=s+4:=by rw [←hW0];simp [hs]
 have k1':ag W0 s 45 #[.pointer (some ⟨b,0,none⟩)]:=by rw [←hW0,←hs];exact (k1.alloc _).alloc _
 have k2':ag W0 (s+1) 3 #[.int .i64 p]:=by rw [←hW0,←hs];exact (k2.alloc _).alloc _
 have zJ:ag W0 (s+2) 45 #[.pointer (some ⟨b,0,none⟩)]:=by
  have:=(ag.new ((w.alloc (.cells #[.pointer (some ⟨b,0,none⟩)] 45)).alloc (.cells #[.int .i64 p] 3)) 45 #[.pointer (some ⟨b,0,none⟩)]).alloc (.cells #[.int .i64 n] 3);rw [hW0,World.size_alloc,World.size_alloc,hs] at this;exact this
 have AY:ag W0 (s+3) 3 #[.int .i64 n]:=by
  have:=ag.new (((w.alloc (.cells #[.pointer (some ⟨b,0,none⟩)] 45)).alloc (.cells #[.int .i64 p] 3)).alloc (.cells #[.pointer (some ⟨b,0,none⟩)] 45)) 3 #[.int .i64 n];rw [hW0,World.size_alloc,World.size_alloc,World.size_alloc,hs] at this;exact this
 have FK:af (ko b w) w W0:=by rw [←hW0];exact ((((af.refl _ w).alloc _).alloc _).alloc _).alloc _
 have B0':bA W0 b L:=by rw [←hW0];exact ((hB.call hb0).call ((Below.refl _ _).alloc (Nat.le_refl _) _)).call ((Below.refl _ _).alloc (Nat.le_refl _) _)
 have ahy:ag W0 b 75 #[.bool true,.slice (some ⟨g0,0,none⟩) L.length cap0]:=FK.blk EP (fun h=>h.2.elim fun cs hcs=>ag.uR EP hcs (by decide) rfl);have hseq:=Gx b n L.length (s+2) (s+3) W0 hn (by omega) (by omega) zJ AY;have hsz':=ae hsz;simp only [hs] at hW0 ⊢;rw [hW0];clear hW0 c1 B0 k1 k2 hb0 EP;refine Us (gf:=204) (lb:=#[.pointer (some ⟨s+2,0,none⟩),.pointer (some ⟨s+3,0,none⟩)]) rfl Ci hseq (fun _=>rfl) (fun k h=>by omega) (fun k h=>by omega)
  (ahw s b g0 cap0 p L w) (fun _ _ _=>False)
  (fun pre A h=>⟨_,h.2.1,hO.fold pre p,rP _ _ _⟩)
  (fun pre A B h hf=>⟨hf.blk h.1 (by omega),h.2.1.ab9 hf (by omega) (fun g cap hk=>by rw [rP] at hk;have:=Cj h.1 hk;omega),hf.blk h.2.2.1 (by omega),hf.blk h.2.2.2.1 (by omega),h.2.2.2.2.trans' hf (fun i hi ht=>by omega)⟩)
  (fun _ _ _ _ h _=>h.elim) ⟨ahy,B0',k1',k2',FK⟩
  (fun _ i a' W=>∃u7 u12 u13 u14 u15 u16 u17 u18 u19 u20 u21 u22 u23 u24 u25 u26 u27 u28 u29 u30 u31 u32 u33 u34 u35 u36 u37 u38 u39:Value,a'={ tmps:=#[.pointer (some ⟨b,0,none⟩),.int .i64 n,.int .i64 p,.pointer (some ⟨s,0,none⟩),undef,.pointer (some ⟨s+1,0,none⟩),.int .i64 i,u7,.pointer (some ⟨b,0,none⟩),.int .i64 n,.func (.func 204) #[] #[.pointer (some ⟨s+2,0,none⟩),.pointer (some ⟨s+3,0,none⟩)],.int .i64 i,u12,u13,u14,u15,u16,u17,u18,u19,u20,u21,u22,u23,u24,u25,u26,u27,u28,u29,u30,u31,u32,u33,u34,u35,u36,u37,u38,u39],defers:=[] })
  (fun _ _ _ _ _ h _=>h) ?assign ?body ?done ?stop
 case assign =>
  intro m l' i W C hs' hC
  gi_wp2
  exact hC _ _ (af.refl _ _) ⟨_,_,_,_,_,_,_,_,_,_,_,_,_,_,_,_,_,_,_,_,_,_,_,_,_,_,_,_,_,rfl⟩
 case body =>
  rintro m l' pre i a' Wa W hs2 hI ⟨u7,u12,u13,u14,u15,u16,u17,u18,u19,u20,u21,u22,u23,u24,u25,u26,u27,u28,u29,u30,u31,u32,u33,u34,u35,u36,u37,u38,u39,rfl⟩ hpre _ _;obtain ⟨kb,hBW,Ri,Gy,hF⟩:=hI;have hnd:pre.Nodup∧i∉pre:=by
   have:=(Cf n).sublist hpre.sublist;rw [List.nodup_append] at this;exact ⟨this.1,fun h=>this.2.2 i h i (by simp) rfl⟩
  have hin:i≤n:=oZ.1 (hpre.subset (by simp));obtain ⟨M,hM⟩:=aj (pre.foldl (fun L i=>L.modify i (sG p)) L);have hML:M.length=L.length:=by rw [←hM];exact rP _ _ _
  have hMi:M.getD i nd0=L.getD i nd0:=by rw [←hM];exact VR pre L p hnd.1 i hnd.2
  have hfin:(pre++[i]).foldl (fun L i=>L.modify i (sG p)) L=M.modify i (sG p):=by rw [List.foldl_append,hM];rfl
  rw [hM] at hBW;have hiM:i<M.length:=by omega
  obtain ⟨g,cap,hc3,hc4,Ym,hgN,hgl,hcell,hfz,hput⟩:=hBW.put hiM;have hgg:g=g0:=by rw [hML] at Ym;exact Cj kb Ym
  have hx:=hS i (by omega);rw [←hMi] at hx;have z5:=hcell 5 _ rfl;have z3:=hcell 3 _ rfl;have Yn:=ae hput;have hi1:i<(M.modify i (VQ p)).length:=by rw [List.length_modify];omega
  have hM1:Hid ((M.modify i (VQ p)).getD i nd0=VQ p (M.getD i nd0)):=ae (by
   rw [List.getD_eq_getElem?_getD,gW,if_pos rfl,List.getElem?_eq_getElem hiM,List.getD_eq_getElem?_getD,List.getElem?_eq_getElem hiM];rfl)
  have hkb2:=ae Ym;have hl1:Hid ((M.modify i (VQ p)).length=M.length):=ae (List.length_modify _ _ _);have hbg:Hid (b≠g):=ae (fun e=>hgN.2.elim fun cs hcs=>ag.uR Ym hcs (by decide) e);have q1:=Ri.cell;have q2:=Gy.cell;have qb:=Ym.cell;have hil:i<M.length:=hiM;have e1:=fun z:Ext W=>z.cell z5
  have e2:=fun z:Ext W=>(z.blk Gy).cell
  have hwr:IntKind.i64.wrap ((M.getD i nd0).all+p)=(M.getD i nd0).all+p:=by rw [IntKind.wrap_i64];omega
  obtain ⟨yp,hyp⟩:∃y,(M.getD i nd0).iZ=y:=⟨_,rfl⟩;obtain ⟨ya,hya⟩:∃y,(M.getD i nd0).all=y:=⟨_,rfl⟩;rw [hya] at hwr e1 z5;rw [hyp] at z3;have aca:=ae hyp;have Yo:=ae hya;have aeE:=ae hfin;have hM':=ae hM;have hF':=ae hF;have hkb:=ae kb;have acb:=ae hgg;have hbx : -200000≤ya+p∧ya+p≤200000:=by omega
  clear hcell hput hM hfin hyp hya hMi hx hBW hF kb hgg;generalize M.length=ml at *
  gi_upto_region 4 with fail
  clear q1 qb;refine ny 8 (by kernel_rfl) (by kernel_rfl) ?hlo1 (by kernel_rfl) ?_
  case hlo1=>rintro ⟨a,w,h⟩;exact h
  simp only [List.take_succ_cons,List.take_zero,List.drop_succ_cons,List.drop_zero]
  repeat (go_big_quiet_step (fail))
  refine wpQuiet_nil ?_;intro z;have hz5:=z.cell z5;have hz3:=z.cell z3;have fz:∀o,z.w.frozen? ⟨g,o,none⟩=false:=fun o=>(z.blk (hgN.2.choose_spec)).frozen o
  have hP1:=Yn.out z.w z.le 5 (.int .i64 (ya+p)) (VQ p) (by omega) (by rw [←Yo.out];rfl);clear Yn e1 e2;go_wp2_with fail;obtain ⟨hB1,hF1⟩:=hP1;obtain ⟨w1,hw1⟩:=aj (z.w.setCell ⟨g,i*6+5,none⟩ (.int .i64 (ya+p)));rw [hw1] at hB1 hF1 ⊢;obtain ⟨g',cap',_,_,acd,hgN',anF,hcell',hfz',j6⟩:=hB1.put hi1;rw [hM1.out] at hcell' j6;have hg':g'=g:=by
   have h1:=hF1.blk hkb2.out hbg.out;have h2:=acd;rw [hl1.out] at h2;exact Cj h1 h2
  subst hg';have y5:=hcell' 5 (.int .i64 (ya+p)) (by rw [←Yo.out];rfl);have y3:=hcell' 3 (.int .i64 yp) (by rw [←aca.out];rfl);have uT:=ae j6;have e5:=fun z:Ext w1=>z.cell y5
  have e3:=fun z:Ext w1=>z.cell y3
  have ahA:=ae hF1;have anG:=hfz';clear hcell' j6 y5 y3 acd hB1 hw1;refine ny 14 (by kernel_rfl) (by kernel_rfl) ?hlo2 (by kernel_rfl) ?_
  case hlo2=>rintro ⟨a,w,h⟩;exact h
  simp only [List.take_succ_cons,List.take_zero,List.drop_succ_cons,List.drop_zero]
  repeat (go_big_quiet_step (fail))
  refine wpQuiet_nil ?_;intro z2;have hP2:=uT.out z2.w z2.le 3 (.int .i64 (max yp (ya+p))) f2B (by omega) (by rw [←aca.out,←Yo.out];rfl);have fz4:∀o,z2.w.frozen? ⟨g',o,none⟩=false:=fun o=>(z2.blk (hgN'.2.choose_spec)).frozen o
  have y3':=z2.cell (e3 ⟨w1,Below.refl _ _⟩);clear uT e3 e5;go_wp2_with fail;have F:=ahA.out.trans hP2.2;have hgs:g'<s:=by have:=acb.out;omega
  have hwx:(z2.w.setCell ⟨g',i*6+3,none⟩ (.int .i64 (max yp (ya+p)))).heap.size≥W.heap.size:=F.size;refine ⟨F.mono (fun k _ e=>by omega),F.blk hkb.out (by have:=hbg.out;omega),?_,F.blk Ri (by omega),F.blk Gy (by omega),hF'.out.trans' F (fun k _ e=>by subst e;rw [acb.out];exact hg0)⟩;rw [aeE.out,←ahv];exact hP2.1
 case done =>
  rintro W hs2 ⟨kb,hBW,Ri,Gy,hF⟩ hd;have Yk:af (fun k=>k=W0.heap.size) W (W.putObj W0.heap.size (.deferred none)):=af.putObj (T:=fun k=>k=W0.heap.size) (af.refl _ _) (fun _=>rfl) _;refine eY hd (results_none rfl _ _ _) ⟨⟨_,rfl⟩,?_,hF.trans' Yk (fun i hi e=>by omega)⟩;exact hBW.ab9 Yk (by omega) (fun g cap hk=>by rw [rP] at hk;have:=Cj kb hk;omega)
 case stop=>exact fun _ _ _ _ _ h _=>h.elim
def TiI (s b:Nat) (L:List Nd) (n:Nat) (w:World) (pre:List Nat) (W:World):Prop :=
 Below w.heap.size w W∧ag W s 45 #[.pointer (some ⟨b,0,none⟩)]∧ag W (s+2) 3 #[.int .i64 ((pre.foldl (fun b p=>if bQ L p<bQ L b then p else b) n:Nat):Int)]
theorem Og (b n:Nat) (L:List Nd) (w:World) (hB:bA w b L) (hO:bg L) (hn:n<L.length) :
  Calls prog 179 #[.pointer (some ⟨b,0,none⟩),.int .i64 n] w fun e w'=>e= .returned (.tuple #[.int .i64 (jI L n:Int),.int .i64 0])∧Below w.heap.size w w':=by
 have hb0:=(aV w (.cells #[.pointer (some ⟨b,0,none⟩)] 45)).alloc (by simp) (.cells #[.int .i64 n] 3);have k1:=(ag.new w 45 #[.pointer (some ⟨b,0,none⟩)]).alloc (.cells #[.int .i64 n] 3);have k2:=ag.new (w.alloc (.cells #[.pointer (some ⟨b,0,none⟩)] 45)) 3 #[.int .i64 n];rw [World.size_alloc] at k2;have B0:=hB.call hb0;have hbs:=hB.lt;have c1:=k1.cell;have hA:=ae (KH b (n:Int) (some ⟨w.heap.size+1,0,none⟩) 1 L _ B0 hO.ch (fun k hk=>⟨w.heap.size+1,0,rfl,by simp,by
  have h0:k=0:=by simpa using hk
  subst h0;exact k2.cell 0⟩))
 rw [if_pos (by omega)] at hA;refine bM func179 rfl ?_;simp only [ntmps179,List.size_toArray,List.length_cons,List.length_nil,Nat.reduceAdd,Nat.reduceSub,Array.replicate_succ,Array.replicate_zero,List.push_toArray,List.append_toArray,List.nil_append,List.cons_append];go_upto_region 2 with (go_at_call 76;refine hA.out.mono ?_;rintro e w2 ⟨rfl,hw2⟩;replace hw2:=hw2.symm;subst hw2)
 go_wp2_with (go_at_call 180;refine (KI b n _).mono ?_;rintro e w2 ⟨rfl,rfl⟩)
 obtain ⟨s,hs⟩:=aj (w.heap.size);rw [hs] at hbs;obtain ⟨W0,hW0⟩:=aj (((((w.alloc (.cells #[.pointer (some ⟨b,0,none⟩)] 45)).alloc (.cells #[.int .i64 n] 3)).alloc (.cells #[.int .i64 n] 3)).alloc (.cells #[.pointer (some ⟨b,0,none⟩)] 45)).alloc (.cells #[.int .i64 n] 3));have hsz:W0.heap.size=s+5:=by rw [←hW0];simp [hs]
 have ahB:Below w.heap.size w W0:=by
  rw [←hW0];exact ((hb0.alloc (by simp;omega) _).alloc (by simp;omega) _).alloc (by simp;omega) _
 have k1':ag W0 s 45 #[.pointer (some ⟨b,0,none⟩)]:=by rw [←hW0,←hs];exact ((k1.alloc _).alloc _).alloc _
 have zJ:ag W0 (s+2) 3 #[.int .i64 n]:=by
  have:=((ag.new ((w.alloc (.cells #[.pointer (some ⟨b,0,none⟩)] 45)).alloc (.cells #[.int .i64 n] 3)) 3 #[.int .i64 n]).alloc (.cells #[.pointer (some ⟨b,0,none⟩)] 45)).alloc (.cells #[.int .i64 n] 3);rw [hW0,World.size_alloc,World.size_alloc,hs] at this;exact this
 have AY:ag W0 (s+3) 45 #[.pointer (some ⟨b,0,none⟩)]:=by
  have:=(ag.new (((w.alloc (.cells #[.pointer (some ⟨b,0,none⟩)] 45)).alloc (.cells #[.int .i64 n] 3)).alloc (.cells #[.int .i64 n] 3)) 45 #[.pointer (some ⟨b,0,none⟩)]).alloc (.cells #[.int .i64 n] 3);rw [hW0,World.size_alloc,World.size_alloc,World.size_alloc,hs] at this;exact this
 have k5':ag W0 (s+4) 3 #[.int .i64 n]:=by
  have:=ag.new ((((w.alloc (.cells #[.pointer (some ⟨b,0,none⟩)] 45)).alloc (.cells #[.int .i64 n] 3)).alloc (.cells #[.int .i64 n] 3)).alloc (.cells #[.pointer (some ⟨b,0,none⟩)] 45)) 3 #[.int .i64 n];rw [hW0,World.size_alloc,World.size_alloc,World.size_alloc,World.size_alloc,hs] at this;exact this
 have hseq:=Gx b n L.length (s+3) (s+4) W0 hn (by omega) (by omega) AY k5';have oV:=ae hB;have hs':=ae hs;simp only [hs] at hW0 ⊢;rw [hW0];clear hW0 c1 B0 k1 k2 hb0 hA;refine Us (gf:=204) (lb:=#[.pointer (some ⟨s+3,0,none⟩),.pointer (some ⟨s+4,0,none⟩)]) rfl Ci hseq (fun _=>rfl) (fun k h=>by omega) (fun k h=>by omega)
  (TiI s b L n w) (fun _ _ _=>False)
  (fun pre A h=>⟨L,oV.out.call h.1,hO.ch,rfl⟩)
  (fun pre A B h hf=>⟨h.1.trans (hf.below (by have:=h.1.size;omega) (fun k hk e=>by have:=hs'.out;omega)),hf.blk h.2.1 (by omega),hf.blk h.2.2 (by omega)⟩)
  (fun _ _ _ _ h _=>h.elim) ⟨ahB,k1',zJ⟩
  (fun _ i a' W=>∃u21 u22 u23 u24 u25 u26 u27 u28 u29:Value,a'={ tmps:=#[.pointer (some ⟨b,0,none⟩),.int .i64 n,.pointer (some ⟨s,0,none⟩),undef,.int .i64 0,.int .i64 0,.int .i64 0,.pointer (some ⟨s+2,0,none⟩),.int .i64 i,.pointer (some ⟨b,0,none⟩),.int .i64 n,.slice (some ⟨s+1,0,none⟩) 1 1,.int .i64 0,.int .i64 0,.bool false,undef,.int .i64 n,.pointer (some ⟨b,0,none⟩),.int .i64 n,.func (.func 204) #[] #[.pointer (some ⟨s+3,0,none⟩),.pointer (some ⟨s+4,0,none⟩)],.int .i64 i,u21,u22,u23,u24,u25,u26,u27,u28,u29],defers:=[] })
  (fun _ _ _ _ _ h _=>h) ?assign ?body ?done ?stop
 case assign =>
  intro m l' i W C hs' hC
  gi_wp2
  exact hC _ _ (af.refl _ _) ⟨_,_,_,_,_,_,_,_,_,rfl⟩
 case body =>
  rintro m l' pre i a' Wa W hs2 hI ⟨u21,u22,u23,u24,u25,u26,u27,u28,u29,rfl⟩ hpre _ _;obtain ⟨hBl,Ri,Gy⟩:=hI;have hin:i≤n:=oZ.1 (hpre.subset (by simp));obtain ⟨t,ht⟩:=aj (pre.foldl (fun b p=>if bQ L p<bQ L b then p else b) n);have htn:t≤n:=by
   rw [←ht];exact Dq L pre n n (Nat.le_refl _) (fun p hp=>oZ.1 (hpre.subset (by simp [hp])))
  have hfin:Hid ((pre++[i]).foldl (fun b p=>if bQ L p<bQ L b then p else b) n=if bQ L i<bQ L t then i else t):=ae (by rw [List.foldl_append,ht];rfl);rw [ht] at Gy;have hBW:=oV.out.call hBl;have HR:Hid (∀(z:Ext W) (j:Nat),j<L.length→Calls prog 173 #[.pointer (some ⟨b,0,none⟩),.int .i64 j] z.w fun e w''=>e= .returned (.int .i64 (bQ L j))∧∃t:Ext W,w''=t.w):=ae (fun z j hj=>Ext.call (Be b j L z.w (hBW.call z.le) hO hj));have e1:=fun z:Ext W=>(z.blk Ri).cell
  have e2:=fun z:Ext W=>(z.blk Gy).cell
  have hil:i<L.length:=by omega
  have htl:t<L.length:=by omega
  have ace:=ae hBl;have q2:=Gy.frozen;clear hBW hBl ht
  gi_upto_region 7 with fail
  refine ny 6 (by kernel_rfl) (by kernel_rfl) ?hlo1 (by kernel_rfl) ?_
  case hlo1=>rintro ⟨a,w,h⟩;exact h
  simp only [List.take_succ_cons,List.take_zero,List.drop_succ_cons,List.drop_zero]
  repeat (go_big_quiet_step ((go_at_call 173;first|exact HR.out _ _ hil|exact HR.out _ _ htl)))
  refine wpQuiet_nil ?_;intro z;have kz1:=z.blk Ri;have kz2:=z.blk Gy;have hBz:=ace.out.trans (z.le.mono ace.out.size);have cz2:=kz2.cell;have fz2:=kz2.frozen;have hsz2:=hBz.size;have FB:=af.of_below z.le (T:=fun _=>False);clear e1 e2 HR q2;obtain ⟨ri,tX⟩:∃r,bQ L i=r:=⟨_,rfl⟩;obtain ⟨rt,hrt⟩:∃r,bQ L t=r:=⟨_,rfl⟩;rw [tX,hrt] at hfin;by_cases hlt:ri<rt
  ·have hlt':decide (ri<rt)=true:=by simpa using hlt
   have Bg:=hfin.out;rw [if_pos hlt] at Bg;have Rj:=ae Bg;have F3:af (fun k=>k=s+2) z.w (z.w.setCell ⟨s+2,0,none⟩ (.int .i64 i)):=af.setCell (T:=fun k=>k=s+2) (p:=⟨s+2,0,none⟩) (af.refl _ _) (fun _=>rfl) _;have k13:=F3.blk kz1 (by omega);have k23:=kz2.aO 0 (.int .i64 i);have hB3:=hBz.trans (F3.below (Nat.le_trans (Nat.le_of_eq rfl) hsz2) (fun k hk e=>by have:=hs'.out;omega));have hall:=ae (And.intro k13 (And.intro k23 (And.intro hB3 F3)));clear hfin Bg k13 k23 hB3 F3 hlt;go_wp2_with fail
   gi_wp2_with fail
   refine ⟨(FB.mono (fun _ _ h=>h.elim)).trans (hall.out.2.2.2.mono (fun k _ e=>by omega)),hall.out.2.2.1,hall.out.1,?_⟩;rw [Rj.out];exact hall.out.2.1
  ·have hlt':decide (ri<rt)=false:=by simpa using hlt
   have Bg:=hfin.out;rw [if_neg hlt] at Bg;have Rj:=ae Bg;clear hfin Bg hlt;go_wp2_with fail
   gi_wp2_with fail
   refine ⟨FB.mono (fun _ _ h=>h.elim),hBz,kz1,?_⟩;rw [Rj.out];exact kz2
 case done =>
  rintro W hs2 ⟨hBl,Ri,Gy⟩ hd;have c2:=Gy.cell;have hd':=ae hd;go_wp2_with fail;refine eY hd'.out (v:=.tuple #[.int .i64 (jI L n:Int),.int .i64 0]) ?_ ⟨rfl,QC hBl (by have:=hs'.out;omega) _⟩;simp [results,results179,go_sem,jI]
 case stop=>exact fun _ _ _ _ _ h _=>h.elim
theorem Rk (b n:Nat) (L:List Nd) (w:World) (hB:bA w b L) (hO:bg L) (hn:n<L.length) :
  Calls prog 121 #[.pointer (some ⟨b,0,none⟩),.int .i64 n] w fun e w'=>e= .returned (.tuple #[.int .i64 (qD L n),.int .i64 0])∧Below w.heap.size w w':=by
 have HT:=ae (Og b n L w hB hO hn);have hle:=Gv L n;have HR:=ae (fun W (h:bA W b L)=>Be b (jI L n) L W h hO (by omega));have hh:qD L n=max (bQ L (jI L n)) 0:=rfl;rw [hh];have hB':=ae hB;generalize bQ L (jI L n)=r at *;generalize jI L n=t at *;clear hh hle hB;go_enter func121,ntmps121;go_wp2_with fail;refine HT.out.mono ?_;rintro e w1 ⟨rfl,hb1⟩;go_wp2_with fail;refine (HR.out w1 (hB'.out.call hb1)).mono ?_;rintro e w2 ⟨rfl,hb2⟩;go_wp2_with fail;go_ret2;exact ⟨rfl,hb1.trans (hb2.mono hb1.size)⟩
theorem Ma (b n:Nat) (p:Int) (L:List Nd) (w:World) (hB:bA w b L) (hO:bg L) (hn:n<L.length) :
  Calls prog 54 #[.pointer (some ⟨b,0,none⟩),.int .i64 n,.int .i64 p] w fun e w'=>e= .returned (.int .i64 (iO L n p).1)∧L9 b (iO L n p).2 w w':=by
 have HH:=ae (Rk b n L w hB hO hn);have HO:=ae (fun W=>kQ p 4096 W);obtain ⟨R,hR⟩:=aj (iO L n p);rw [hR];have hR':=ae hR;unfold iO at hR';obtain ⟨hd,hhd⟩:=aj (qD L n);rw [hhd] at HH hR';by_cases h1:p<0∨4096<p
 ·have hR2:Hid (R=(7,L)):=ae (by rw [←hR'.out,if_pos h1])
  rw [decide_eq_true h1] at HO;have hB':=ae hB;clear hR hR' h1 hB;go_enter func54,ntmps54;go_wp2_with fail;refine HH.out.mono ?_;rintro e w1 ⟨rfl,hb1⟩;go_wp2_with fail;refine (HO.out _).mono ?_;rintro e w2 ⟨rfl,hw2⟩;replace hw2:=hw2.symm;subst hw2;go_wp2_with fail;go_ret;rw [hR2.out];exact ⟨rfl,hB'.out.call hb1,af.of_below hb1⟩
 ·rw [decide_eq_false h1] at HO
  have hR2:=hR'.out;rw [if_neg h1] at hR2;by_cases h2:hd<p
  ·have h2':decide (hd<p)=true:=by simpa using h2
   rw [if_pos h2] at hR2;have jH:=ae hR2;have hB':=ae hB;clear hR hR' hR2 h1 h2 hB;go_enter func54,ntmps54;go_wp2_with fail;refine HH.out.mono ?_;rintro e w1 ⟨rfl,hb1⟩;go_wp2_with fail;refine (HO.out _).mono ?_;rintro e w2 ⟨rfl,hw2⟩;replace hw2:=hw2.symm;subst hw2;go_wp2_with fail;go_ret;rw [←jH.out];exact ⟨rfl,hB'.out.call hb1,af.of_below hb1⟩
  ·have h2':decide (hd<p)=false:=by simpa using h2
   rw [if_neg h2] at hR2;have jH:=ae hR2;have hx:=hO.get hn;have hB':=ae hB;have hM1:=hO.ch.mod n (fun x:Nd=>{ x with own:=x.own+p }) (fun _=>⟨rfl,rfl⟩);have hM2:=jE.small hO n (fun x:Nd=>{ x with own:=x.own+p }) (fun _=>⟨rfl,rfl⟩);have hwr:IntKind.i64.wrap ((L.getD n nd0).own+p)=(L.getD n nd0).own+p:=by rw [IntKind.wrap_i64];omega
   have Yp:=ae hM1;have Yq:=ae hM2;have hp : -100000≤p∧p≤100000:=by omega
   have hn2:Hid (n<(L.modify n (fun x:Nd=>{ x with own:=x.own+p })).length):=ae (by rw [List.length_modify];exact hn);clear hR hR' hR2 h1 h2 hB hM1 hM2;go_enter func54,ntmps54;go_wp2_with fail;refine HH.out.mono ?_;rintro e w1 ⟨rfl,hb1⟩;go_wp2_with fail;refine (HO.out _).mono ?_;rintro e w2 ⟨rfl,hw2⟩;replace hw2:=hw2.symm;subst hw2;obtain ⟨g,cap,hc1,hc2,kb,hgN,hgl,hcell,hfz,hput⟩:=(hB'.out.call hb1).put hn;have c2:=hcell 2 _ rfl;have cb:=kb.cell;have hP:=ae (hput w1 (Below.refl _ _) 2 (.int .i64 ((L.getD n nd0).own+p)) (fun x:Nd=>{ x with own:=x.own+p }) (by omega) rfl);obtain ⟨o,ho⟩:=aj ((L.getD n nd0).own);rw [ho] at c2 hwr hP hx;have hnl:n<L.length:=hn;clear hcell hput ho;generalize L.length=ml at *;go_upto_region 9 with fail
   obtain ⟨w3,hw3⟩:=aj (w1.setCell ⟨g,n*6+2,none⟩ (.int .i64 (o+p)));rw [hw3] at hP ⊢;have ma:=ae (ko.one (af.of_below hb1) hgN hP.out.2);have HA:=ae (KJ b n p _ w3 hP.out.1 Yp.out hn2.out Yq.out hp);clear hP;go_wp2_with fail;refine HA.out.mono ?_;rintro e w4 ⟨⟨v,rfl⟩,hB4,iI⟩;go_wp2_with fail;go_ret;rw [←jH.out];exact ⟨rfl,hB4,ko.trans ma.out iI⟩
theorem yx (b n:Nat) (L:List Nd) (w:World) (hB:bA w b L) (hO:jE L) (hn:n<L.length) :
  Calls prog 76 #[.pointer (some ⟨b,0,none⟩),.slice (some ⟨w.heap.size,0,none⟩) 1 1] (w.alloc (.cells #[.int .i64 n] 3)) fun e w'=>e= .returned (.int .i64 0)∧w'=w.alloc (.cells #[.int .i64 n] 3):=by
 have h:=KH b (n:Int) (some ⟨w.heap.size,0,none⟩) 1 L (w.alloc (.cells #[.int .i64 n] 3)) (hB.call ((Below.refl _ _).alloc (Nat.le_refl _) _)) hO (fun k hk=>⟨w.heap.size,0,rfl,by simp,by
  have h0:k=0:=by simpa using hk
  subst h0;exact (ag.new w 3 #[.int .i64 n]).cell 0⟩)
 rw [if_pos (by omega)] at h;exact h
theorem Bh (b n:Nat) (p:Int) (L:List Nd) (w:World) (hB:bA w b L) (hO:bg L) (hn:n<L.length) :
  Calls prog 57 #[.pointer (some ⟨b,0,none⟩),.int .i64 n,.int .i64 p] w fun e w'=>e= .returned (.int .i64 (iT L n p).1)∧L9 b (iT L n p).2 w w':=by
 have HK:=ae (yx b n L w hB hO.ch hn);have hb1:=aV w (.cells #[.int .i64 n] 3);have hB1:=hB.call hb1;have HO:=ae (fun W=>kQ p 4096 W);obtain ⟨R,hR⟩:=aj (iT L n p);rw [hR];have hR':=ae hR;unfold iT at hR';obtain ⟨w1,hw1⟩:=aj (w.alloc (.cells #[.int .i64 n] 3));rw [hw1] at HK hb1 hB1;have hB':=ae hB1;by_cases h1:p<0∨4096<p
 ·have hR2:Hid (R=(7,L)):=ae (by rw [←hR'.out,if_pos h1])
  rw [decide_eq_true h1] at HO;clear hR hR' h1 hB hB1;go_enter func57,ntmps57
  go_wp2_with (first|(go_at_call 76;refine HK.out.mono ?_;rintro e w2 ⟨rfl,hw2⟩;replace hw2:=hw2.symm;subst hw2)|(go_at_call 48;refine (HO.out _).mono ?_;rintro e w2 ⟨rfl,hw2⟩;replace hw2:=hw2.symm;subst hw2))
  go_ret;rw [hR2.out];exact ⟨rfl,hB'.out,af.of_below hb1⟩
 ·rw [decide_eq_false h1] at HO
  have hR2:=hR'.out;rw [if_neg h1] at hR2;obtain ⟨g,cap,hc1,hc2,kb,hgN,hgl,hcell,hfz,hput⟩:=hB1.put hn;have c2:=hcell 2 _ rfl;have cb:=kb.cell;have hx:=hO.get hn;have hwr:IntKind.i64.wrap ((L.getD n nd0).own - p)=(L.getD n nd0).own + -p:=by rw [IntKind.wrap_i64];omega
  have hP:=ae (hput w1 (Below.refl _ _) 2 (.int .i64 ((L.getD n nd0).own + -p)) (fun x:Nd=>{ x with own:=x.own + -p }) (by omega) rfl);have Yp:=ae (hO.ch.mod n (fun x:Nd=>{ x with own:=x.own + -p }) (fun _=>⟨rfl,rfl⟩));have Yq:=ae (jE.small hO n (fun x:Nd=>{ x with own:=x.own + -p }) (fun _=>⟨rfl,rfl⟩));have hn2:Hid (n<(L.modify n (fun x:Nd=>{ x with own:=x.own + -p })).length):=ae (by rw [List.length_modify];exact hn);have hwp:IntKind.i64.wrap (-p) = -p:=by rw [IntKind.wrap_i64];omega
  have hp : -100000≤-p∧-p≤100000:=by omega
  have hsub:(fun x:Nd=>{ x with own:=x.own - p })=(fun x:Nd=>{ x with own:=x.own + -p }):=by funext x;simp [Int.sub_eq_add_neg]
  rw [hsub] at hR2;obtain ⟨o,ho⟩:=aj ((L.getD n nd0).own);rw [ho] at c2 hwr hP hx hR2;have hnl:n<L.length:=hn;by_cases h2:o<p
  ·have h2':decide (o<p)=true:=by simpa using h2
   rw [if_pos h2] at hR2;have jH:=ae hR2;clear hcell hput ho hR hR' hR2 h1 h2 hB hP hB1;generalize L.length=ml at *;go_enter func57,ntmps57
   go_wp2_with (first|(go_at_call 76;refine HK.out.mono ?_;rintro e w2 ⟨rfl,hw2⟩;replace hw2:=hw2.symm;subst hw2)|(go_at_call 48;refine (HO.out _).mono ?_;rintro e w2 ⟨rfl,hw2⟩;replace hw2:=hw2.symm;subst hw2))
   go_ret;rw [←jH.out];exact ⟨rfl,hB'.out,af.of_below hb1⟩
  ·have h2':decide (o<p)=false:=by simpa using h2
   rw [if_neg h2] at hR2;have jH:=ae hR2;obtain ⟨w3,hw3⟩:=aj (w1.setCell ⟨g,n*6+2,none⟩ (.int .i64 (o + -p)));rw [hw3] at hP;have ma:=ae (ko.one (af.of_below hb1) hgN hP.out.2);have HA:=ae (KJ b n (-p) _ w3 hP.out.1 Yp.out hn2.out Yq.out hp);clear hcell hput ho hR hR' hR2 h1 h2 hB hP hB1;generalize L.length=ml at *;go_enter func57,ntmps57;go_upto_region 9 with (first|(go_at_call 76;refine HK.out.mono ?_;rintro e w2 ⟨rfl,hw2⟩;replace hw2:=hw2.symm;subst hw2)|(go_at_call 48;refine (HO.out _).mono ?_;rintro e w2 ⟨rfl,hw2⟩;replace hw2:=hw2.symm;subst hw2))
   go_wp2_with fail;refine HA.out.mono ?_;rintro e w4 ⟨⟨v,rfl⟩,hB4,iI⟩;go_wp2_with fail;go_ret;rw [←jH.out];exact ⟨rfl,hB4,ko.trans ma.out iI⟩
theorem Gz (b n:Nat) (L:List Nd) (w:World) (hB:bA w b L) (hO:bg L) (hn:n<L.length) :
  Calls prog 25 #[.pointer (some ⟨b,0,none⟩),.int .i64 n] w fun e w'=>e= .returned (.tuple #[.int .i64 (L.getD n nd0).own,.int .i64 (L.getD n nd0).all,.int .i64 0])∧Below w.heap.size w w':=by
 have HK:=ae (yx b n L w hB hO.ch hn);have hb1:=aV w (.cells #[.int .i64 n] 3);have hB1:=hB.call hb1;obtain ⟨w1,hw1⟩:=aj (w.alloc (.cells #[.int .i64 n] 3));rw [hw1] at HK hb1 hB1;obtain ⟨g,cap,hc1,hc2,kb,hgN,hgl,hcell,hfz⟩:=hB1.node hO.pos;have c2:=hcell n hn 2 _ rfl;have c5:=hcell n hn 5 _ rfl;have e2:=fun z:Ext w1=>z.cell c2
 have e5:=fun z:Ext w1=>z.cell c5
 have eb:=fun z:Ext w1=>(z.blk kb).cell
 generalize (L.getD n nd0).own=x at *;generalize (L.getD n nd0).all=y at *;have hnl:n<L.length:=hn;clear hcell hB hB1;generalize L.length=ml at *;go_enter func25,ntmps25;go_upto_region 4 with (go_at_call 76;refine HK.out.mono ?_;rintro e w2 ⟨rfl,hw2⟩;replace hw2:=hw2.symm;subst hw2)
 refine aF (by kernel_rfl) (by kernel_rfl) ?_
 repeat (go_big_quiet_step (fail))
 refine wpQuiet_nil ?_;rintro w3 ⟨⟨_,hw3⟩,rfl⟩;go_wp2_with fail
 go_ret3
 exact ⟨rfl,hb1.trans (hw3.mono hb1.size)⟩
theorem KL (l:Int) (w:World) :
  Calls prog 18 #[.int .i64 l] w fun e w'=>(if l<0∨4096<l then e= .returned (.tuple #[.pointer none,.int .i64 7]) else ∃b,e= .returned (.tuple #[.pointer (some ⟨b,0,none⟩),.int .i64 0])∧w.heap.size+1≤b∧bA w' b (fo l))∧Below w.heap.size w w':=by
 have HO:=ae (fun W=>kQ l 4096 W);by_cases h1:l<0∨4096<l
 ·rw [decide_eq_true h1] at HO
  simp only [if_pos h1];clear h1;go_enter func18,ntmps18
  go_wp2_with (go_at_call 48;refine (HO.out _).mono ?_;rintro e w2 ⟨rfl,hw2⟩;replace hw2:=hw2.symm;subst hw2)
  go_ret2;exact ⟨rfl,Below.refl _ _⟩
 ·rw [decide_eq_false h1] at HO
  simp only [if_neg h1];clear h1;go_enter func18,ntmps18
  go_wp2_with (go_at_call 48;refine (HO.out _).mono ?_;rintro e w2 ⟨rfl,hw2⟩;replace hw2:=hw2.symm;subst hw2)
  have hb2:=(aV w (.cells #[.int .i64 (-1),.int .i64 l,.int .i64 0,.int .i64 0,.bool false,.int .i64 0] 122)).alloc (by simp) (.cells #[.bool true,.slice (some ⟨w.heap.size,0,none⟩) 1 1] 75);have k1:=(ag.new w 122 #[.int .i64 (-1),.int .i64 l,.int .i64 0,.int .i64 0,.bool false,.int .i64 0]).alloc (.cells #[.bool true,.slice (some ⟨w.heap.size,0,none⟩) 1 1] 75);have k2:=ag.new (w.alloc (.cells #[.int .i64 (-1),.int .i64 l,.int .i64 0,.int .i64 0,.bool false,.int .i64 0] 122)) 75 #[.bool true,.slice (some ⟨w.heap.size,0,none⟩) 1 1];rw [World.size_alloc] at k2;go_ret2;exact ⟨⟨_,rfl,Nat.le_refl _,⟨some ⟨w.heap.size,0,none⟩,1,k2,⟨rfl,.inr ⟨w.heap.size,1,_,rfl,Nat.le_refl _,k1,Nat.le_refl _,by unfold maxLen;omega,rfl,rfl⟩⟩⟩⟩,hb2⟩
theorem Yr:(prog.info? 3).map (fun i=>(i.zero,i.size,i.bytes))=some (some (.int .i64 0),1,8):=by kernel_rfl
theorem yz:∃i0,prog.info? 3=some i0∧i0.zero=some (.int .i64 0)∧i0.size=1∧i0.bytes=8:=by
 obtain ⟨i0,h⟩:=info_parts Yr;exact ⟨i0,h⟩
theorem Rl (b:Nat) (L:List Nd) (w:World) (hB:bA w b L) (hO:bg L) :
  Calls prog 114 #[.pointer (some ⟨b,0,none⟩)] w fun e w'=>(∃v,e= .returned (.tuple #[v,.int .i64 0]))∧Below w.heap.size w w':=by
 obtain ⟨i0,hi0,hi1,hi2,hi3⟩:=yz;have HK:=ae (VP b L w hB hO.ch);obtain ⟨g,cap,hc1,hc2,kb,hgN,hgl,hcell,hfz⟩:=hB.node hO.pos;have cb:=kb.cell;have hB':=ae hB;have ahD:=hO.few;clear hcell hB;obtain ⟨ml,LD⟩:∃m,L.length=m:=⟨_,rfl⟩;rw [LD] at cb ahD;have acf:=ae LD;clear LD;go_enter func114,ntmps114
 go_wp2_with (go_at_call 76;refine HK.out.mono ?_;rintro e w2 ⟨rfl,hw2⟩;replace hw2:=hw2.symm;subst hw2)
 go_loopw [5,17] (fun v5 i wr=>∃(k:Nat) (xs:List Int),k≤ml∧i= .int .i64 k∧xs.length≤k∧wr.ownsRow w.heap.size 3 1 v5 xs.length (xs.map (Value.int .i64))∧Below w.heap.size w wr) (fun _ i _=>ml - (intOf i).toNat)
 case atStart=>exact ⟨0,[],by omega,rfl,by simp,World.ownsRow_nil _ _ _ _,Below.refl _ _⟩
 case round =>
  obtain ⟨k,xs,hk,rfl,hxl,hrow,hBl⟩:=hrel;by_cases hlt:k<ml
  ·have hlt':decide ((k:Int)<(ml:Int))=true:=by simpa using hlt
   have hBW:=hB'.out.call hBl;have HO:=ae (wT b (k:Int) L wr hBW hO.ch);rw [show decide ((0:Int)≤(k:Int)∧(k:Int)<(L.length:Int))=true by have:=acf.out;simp;omega] at HO;have HR:=ae (Be b k L wr hBW hO (by have:=acf.out;omega));generalize bQ L k=r at *;clear cb;by_cases hr:r<0
   ·have hr':decide (r<0)=true:=by simpa using hr
    go_upto_region 9 with (first|(go_at_call 137;refine HO.out.mono ?_;rintro e w2 ⟨rfl,hw2⟩;replace hw2:=hw2.symm;subst hw2)|(go_at_call 173;refine HR.out.mono ?_;rintro e w3 ⟨rfl,hw3⟩))
    have KF:=ae (aB hrow hw3);have hB3:=ae (hBl.trans (hw3.mono hBl.size));have kN:=ag.new w3 3 #[.int .i64 k];have hbN:Below w3.heap.size w3 (w3.alloc (.cells #[.int .i64 k] 3)):=(Below.refl _ _).alloc (Nat.le_refl _) _;have ahE:=aB KF.out hbN;have hsN:=hB3.out.size;clear HO HR hBW hrow
    go_wp2_with (at_builtin;refine wpList_append_own _ rfl (.tmp 29) (.tmp 31) 84 rfl w.heap.size 3 i0 (.int .i64 0) 1 8 underlying84 hi0 hi1 hi2 hi3 rfl (by decide) _ xs.length (xs.map (Value.int .i64)) rfl ahE ⟨w3.heap.size,0,none⟩ 1 1 [.int .i64 k] rfl rfl (fun j u hu=>by
     have hj0:j=0:=by have:=(List.getElem?_eq_some_iff.1 hu).1;simp at this;omega
     subst hj0;rw [dh,Nat.zero_add,kN.cell];simpa using hu) (fun u hu=>by simp only [List.mem_singleton] at hu;subst hu;rfl) (by unfold maxLen;omega) (by omega) (by simp;omega) ?_;intro v' w7 hown' hgrow _)
    go_roundw
    case rel =>
     refine ⟨k+1,xs++[(k:Int)],by omega,by go_num,by simp;omega,by simpa using hown',?_⟩;exact hB3.out.trans ((hbN.mono hsN).grown hgrow (by simp;omega) (fun g hg=>(KF.out.lt g hg).1))
    case measure=>simp [intOf];omega
   ·have hr':decide (r<0)=false:=by simpa using hr
    go_wp2_with (first|(go_at_call 137;refine HO.out.mono ?_;rintro e w2 ⟨rfl,hw2⟩;replace hw2:=hw2.symm;subst hw2)|(go_at_call 173;refine HR.out.mono ?_;rintro e w3 ⟨rfl,hw3⟩))
    go_roundw
    case rel=>exact ⟨k+1,xs,by omega,by go_num,by omega,aB hrow hw3,hBl.trans (hw3.mono hBl.size)⟩
    case measure=>simp [intOf];omega
  ·obtain rfl:k=ml:=by omega
   have hlt':decide ((k:Int)<(k:Int))=false:=by simp
   clear cb;go_wp2_with fail;go_ret2;exact ⟨⟨_,rfl⟩,hBl⟩
end Go.Proofs.YtjmmgoijnhnnaaaGreat
