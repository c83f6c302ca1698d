/- Walks of layer 6: Save. -/
import Derived.Great.BuildSlice
import Derived.Shelf.SlSortCmp.WholeK
import Derived.Ground.SlsfProg
import Derived.Shelf.Spec.SlicesGrow
import Derived.Ground.Names8Prog
import Derived.Test.YtjmmgoijnhnnaaaGreatProg
import Derived.Sort.OwnSortedInts
import Derived.Laws.AppendOwnNone
import Derived.Deep.MidRow
import Derived.Deep.CutRange
import Derived.OwnWalk
import Derived.Laws.CopyRow
import Derived.Lib.AppendZerosOnto
import Derived.Deep.DeepAppendWide
import Derived.Lib.Overlaps
import Derived.Shelf.RegionOpenPlain
import Derived.Laws.Externs
import Derived.Shelf.Abstract
import Derived.RangeFuncLeaves
import Derived.Test.YtjmmgoijnhnnaaaGreatRows
import Derived.Carry
import Derived.ChangeSlices
import Derived.RowKit2
import Derived.RowKit3
import Derived.JoinedAt
import Derived.Test.YtjmmgoijnhnnaaaGreatR10
set_option maxRecDepth 100000
set_option maxHeartbeats 12800000
namespace Go.Pol
open Go Go.RowKit Go.Proofs.Tryz
def jP (p:Int) (f:Nat→Int):Array Value:=(Value.int .i64 p::(List.range 64).map fun i=>Value.int .u8 (f i)).toArray
theorem Rd.xM {w w':World} {N:Nat} {A:Option Addr} {xs:List Value} {T:Nat→Prop} (h:Rd w N A xs) (hF:af T w w') (hT:∀k,k<N→(∃o,A=some ⟨k,o,none⟩)→¬T k):Rd w' N A xs:=fun k hk=>by
 obtain ⟨b,o,e,hb,hc⟩:=h k hk;exact ⟨b,o,e,hb,hF.cell hc (hT b hb ⟨o,e⟩)⟩
def Zu (V:Vm) (w:World) (e:Ending) (w':World):Prop:=∃S,e= .returned S∧Kw w' S V∧Below w.heap.size w w'
theorem CO (g:Pg):(List.range 64).all (fun i=>g.iJ i==0)=!AZ g:=by
 unfold AZ;rw [Bool.eq_iff_iff];simp
theorem xu (V:Vm) (p:Nat):tT V p=(jP p (V.pg p).iJ).toList:=rfl
theorem fK.write {V:Vm} (h:fK V) (a v:Int):fK (om V a v):=by
 unfold om;by_cases c:xq V a=0
 ·rw [if_pos c]
  have hk:(V.pg (a / 64).toNat).kind=2:=by
   unfold xq at c;split at c
   ·omega
   ·split at c
    ·omega
    ·rename_i h;simpa using h
  have e:∀q,(V.iY (a / 64).toNat ((V.pg (a / 64).toNat).mr (a % 64).toNat v)).pg q=if q=(a / 64).toNat then (V.pg (a / 64).toNat).mr (a % 64).toNat v else V.pg q:=fun q=>rfl
  have e2:((V.pg (a / 64).toNat).mr (a % 64).toNat v).kind=2:=hk;refine ⟨fun q hq=>?_,fun q hq=>?_,fun q hq=>?_⟩
  ·rw [e]
   split
   ·rw [e2];omega
   ·exact h.kinds q hq
  ·rw [e]
   split
   ·intro _;exact e2
   ·exact h.BZ q hq
  ·rw [e]
   split
   ·intro hc;exact absurd e2 hc
   ·exact h.iJ q hq
 ·rw [if_neg c];exact h
def jT (L:List Nd) (n:Nat) (l:Int):Int×List Nd :=
 if l<0∨4096<l then (7,L) else (0,L.modify n fun x=>{ x with lim:=l })
def fF (L:List Nd) (l:Int):Int×List Nd :=
 if l<0∨4096<l then (7,L) else (0,L++[⟨(L.length:Int) - 1,l,0,0,false,0⟩])
theorem bg.abH {L:List Nd} (h:bg L) {n:Nat} {l:Int} (hl:0≤l∧l≤4096):bg (L.modify n fun x=>{ x with lim:=l }):=by
 obtain ⟨M,hM⟩:=aj ((L.modify n fun x=>{ x with lim:=l }));have hlen:M.length=L.length:=by rw [←hM];simp
 have hat:∀i,i<L.length→M.getD i nd0=(if n=i then { L.getD i nd0 with lim:=l } else L.getD i nd0):=fun i hi=>by
  rw [←hM];refine Cg ?_;have hg:L[i]? = some (L.getD i nd0):=by rw [List.getD_eq_getElem?_getD,List.getElem?_eq_getElem hi];rfl
  rw [gW,hg];by_cases h2:n=i
  ·rw [if_pos h2,if_pos h2];rfl
  ·rw [if_neg h2,if_neg h2]
 have hfl:∀i,i<L.length→(M.getD i nd0).lim=(if n=i then l else (L.getD i nd0).lim)∧(M.getD i nd0).cl=(L.getD i nd0).cl∧(M.getD i nd0).par=(L.getD i nd0).par∧(M.getD i nd0).own=(L.getD i nd0).own∧(M.getD i nd0).all=(L.getD i nd0).all∧(M.getD i nd0).iZ=(L.getD i nd0).iZ:=fun i hi=>by
  rw [hat i hi];by_cases h2:n=i
  ·rw [if_pos h2,if_pos h2];exact ⟨rfl,rfl,rfl,rfl,rfl,rfl⟩
  ·rw [if_neg h2,if_neg h2];exact ⟨rfl,rfl,rfl,rfl,rfl,rfl⟩
 have hmem:∀x∈M,∃i,i<L.length∧x=M.getD i nd0:=fun x hx=>by
  obtain ⟨i,hi,rfl⟩:=List.getElem_of_mem hx;exact ⟨i,by omega,by rw [List.getD_eq_getElem?_getD,List.getElem?_eq_getElem hi];rfl⟩
 rw [hM];refine ⟨by rw [hlen];exact h.pos,by rw [hlen];exact h.few,fun i hi=>?_,fun x hx=>?_,fun x hx=>?_,fun x hx=>?_,fun i hi=>?_⟩
 ·rw [hlen] at hi
  rw [(hfl i hi).2.1,(hfl i hi).2.2.1];exact h.chain i hi
 ·obtain ⟨i,hi,rfl⟩:=hmem x hx
  rw [(hfl i hi).1];have:=h.get hi;split <;> omega
 ·obtain ⟨i,hi,rfl⟩:=hmem x hx
  rw [(hfl i hi).2.2.2.1];exact (h.get hi).2.2.1
 ·obtain ⟨i,hi,rfl⟩:=hmem x hx
  rw [(hfl i hi).2.2.2.2.1,(hfl i hi).2.2.2.2.2];have:=h.get hi;omega
 ·rw [hlen] at hi
  rw [(hfl i hi).2.2.2.2.1,h.all i hi];refine Dr (by simp [hlen]) fun j hj=>?_
  rw [List.length_drop] at hj;have:=(hfl (i+j) (by omega)).2.2.2.1;rw [List.getD_eq_getElem?_getD,List.getD_eq_getElem?_getD,List.getElem?_drop,List.getElem?_drop,←List.getD_eq_getElem?_getD,←List.getD_eq_getElem?_getD];exact this.symm
theorem Pf {L:List Nd} (h:bg L) (n:Nat) (l:Int):bg (jT L n l).2:=by
 unfold jT;split
 ·exact h
 ·exact h.abH (by omega)
theorem Ih {l m:Int} (hm:0≤m∧m≤4096):bg (fF (fo m) l).2:=by
 unfold fF;split
 ·exact yw hm
 ·rename_i hl
  refine ⟨by simp,by simp [fo],fun i hi=>?_,fun x hx=>?_,fun x hx=>?_,fun x hx=>?_,fun i hi=>?_⟩
  ·have:i=0∨i=1:=by simp [fo] at hi;omega
   rcases this with rfl|rfl <;> exact ⟨rfl,rfl⟩
  ·simp only [fo,List.cons_append,List.nil_append,List.mem_cons,List.not_mem_nil,or_false] at hx
   rcases hx with rfl|rfl
   ·exact hm
   ·show 0≤l∧l≤4096;omega
  ·simp only [fo,List.cons_append,List.nil_append,List.mem_cons,List.not_mem_nil,or_false] at hx
   rcases hx with rfl|rfl <;> exact Int.le_refl 0
  ·simp only [fo,List.cons_append,List.nil_append,List.mem_cons,List.not_mem_nil,or_false] at hx
   rcases hx with rfl|rfl <;> exact ⟨Int.le_refl 0,(show (0:Int)≤4096 by omega)⟩
  ·have:i=0∨i=1:=by simp [fo] at hi;omega
   rcases this with rfl|rfl <;> rfl
theorem KW (l:List Ru) (h:(ic l).2=0):uU lg l={ lg with rf:=LK l }:=by unfold uU;rw [if_pos h]
theorem jX.congr {cs:Array Value} {v:Value} {V U:Vm} (h:jX cs v V) (hp:U.pg=V.pg) (hc:U.rf.calls=V.rf.calls) (hh:U.rf.hits=V.rf.hits):jX cs v U :=
 ⟨h.size,h.made,fun p hp2 i hi=>by rw [hp];exact h.page p hp2 i hi,fun i hi=>by rw [hc,hh];exact h.rf i hi⟩
open Go.Proofs Go.ChangeShapes Go.WideShapes Go.Deep Tryz
theorem Rd.Pj {α:Type} {enc:α→List Value} {sz:Nat} {w:World} {B b o:Nat} (hlen:∀x,(enc x).length=sz) (h0:0<sz) (d:α) (us:List α) (hb:us≠[]→b<B)
  (h:∀k,k<us.length→∀(j:Nat) (v:Value),(enc (us.getD k d))[j]? = some v→w.cell? ⟨b,o+k*sz+j,none⟩=some v):Rd w B (some ⟨b,o,none⟩) (fl enc us):=fun i hi=>by
 have hl:=lT hlen us;have hk:i / sz<us.length:=Nat.div_lt_of_lt_mul (by rw [Nat.mul_comm,←hl];exact hi);have hj:i % sz<sz:=Nat.mod_lt _ h0;have hi2:i / sz*sz+i % sz=i:=Nat.div_add_mod' i sz;have e:=yj hlen d us (i / sz) hk (i % sz) hj;rw [hi2] at e;refine ⟨b,o,rfl,hb (fun h=>by rw [h] at hk;simp at hk),?_⟩;have:=h (i / sz) hk (i % sz) _ (e.symm.trans (List.getElem?_eq_getElem hi))
 rwa [Nat.add_assoc,hi2] at this
section
variable {H:Type} {enc:TypeId×Value→H} {P:Program} {w:World} {base:Nat} {held:Bool}
theorem afG {t e:TypeId} {f0 f1 f2 f3:Field} {fuel:Nat} {v:Value} {x:DataW H×List MemPlace} (ht:P.underlying t=some (.slice e)) (he:P.underlying e=some (.struct #[f0,f1,f2,f3])) (hone:oneCellFields P #[f0,f1,f2,f3]=true) (hC:P.cellsOf e=4)
  (h0:P.underlying f0.type=some (.int .i64)) (h1:P.underlying f1.type=some (.int .i64)) (h2:P.underlying f2.type=some (.int .i64)) (h3:P.underlying f3.type=some (.int .i64))
  (h:DataW.trod enc P w base (fun _=>true) held fuel t [v]=some x):∃(A:Option Addr) (n cap:Nat) (us:List Ru),v= .slice A n cap∧us.length=n∧n≤maxLen∧Rd w w.heap.size A (fl iN us)∧(A=none→cap=0):=by
 rcases sP ht he hone hC h with ⟨hcs,_⟩|⟨a,len,cap,m,D,Pl,hcs,_,hl,hm,hmm,_,hi⟩
 ·simp only [List.cons.injEq,and_true] at hcs
  exact ⟨none,0,0,[],hcs,rfl,by unfold maxLen;omega,fun k hk=>absurd hk (by simp [fl]),fun _=>rfl⟩
 ·simp only [List.cons.injEq,and_true] at hcs
  simp only [if_true] at hmm;have each:∀i,i<len→∃p q r s:Int,w.cell? (a.add (i*4))=some (.int .i64 p)∧w.cell? (a.add (i*4+1))=some (.int .i64 q)∧w.cell? (a.add (i*4+2))=some (.int .i64 r)∧w.cell? (a.add (i*4+3))=some (.int .i64 s):=by
   intro i hil;obtain ⟨ys,n,_,_,_,hf⟩:=hi i (by omega);obtain ⟨v0,y0,c0,_,t0⟩:=hf 0 f0 rfl;obtain ⟨v1,y1,c1,_,t1⟩:=hf 1 f1 rfl;obtain ⟨v2,y2,c2,_,t2⟩:=hf 2 f2 rfl;obtain ⟨v3,y3,c3,_,t3⟩:=hf 3 f3 rfl;obtain ⟨p,e0,_⟩:=DataW.trod_int h0 t0;obtain ⟨q,e1,_⟩:=DataW.trod_int h1 t1;obtain ⟨r,e2,_⟩:=DataW.trod_int h2 t2;obtain ⟨s,e3,_⟩:=DataW.trod_int h3 t3;simp only [List.cons.injEq,and_true] at e0 e1 e2 e3;subst e0;subst e1;subst e2;subst e3;exact ⟨p,q,r,s,c0,c1,c2,c3⟩
  obtain ⟨f,hf⟩:=Classical.axiomOfChoice (r:=fun (i:Nat) (x:Ru)=>i<len→w.cell? (a.add (i*4))=some (.int .i64 x.1)∧w.cell? (a.add (i*4+1))=some (.int .i64 x.2.1)∧w.cell? (a.add (i*4+2))=some (.int .i64 x.2.2.1)∧w.cell? (a.add (i*4+3))=some (.int .i64 x.2.2.2)) (fun i=>by
   by_cases hil:i<len
   ·obtain ⟨p,q,r,s,c⟩:=each i hil
    exact ⟨(p,q,r,s),fun _=>c⟩
   ·exact ⟨(0,0,0,0),fun h=>absurd h hil⟩)
  by_cases hz:len=0
  ·subst hz
   exact ⟨some a,0,cap,[],hcs,rfl,by omega,fun k hk=>absurd hk (by simp [fl]),fun h=>(by cases h)⟩
  ·obtain ⟨b,off,spot⟩:=a
   have hspot:spot=none:=by
    obtain ⟨c0',_⟩:=hf 0 (by omega);simpa [Addr.add] using World.cell?_spot c0'
   subst hspot;refine ⟨_,len,cap,(List.range len).map f,hcs,by simp,by omega,Rd.Pj jJ (by omega) oW _ (fun _=>?_) (fun k hk j v hj=>?_),fun h=>(by cases h)⟩
   ·obtain ⟨c0',_⟩:=hf 0 (by omega)
    rw [add_plain] at c0';exact World.block_lt_of_cell? _ _ c0'
   ·have hk':k<len:=by simpa using hk
    obtain ⟨c0,c1,c2,c3⟩:=hf k hk';have e:((List.range len).map f).getD k oW=f k:=by simp [List.getD_eq_getElem?_getD,hk']
    rw [e] at hj;rw [add_plain] at c0 c1 c2 c3
    match j,hj with
    | 0,hj=>cases hj;exact c0
    | 1,hj=>cases hj;rw [Nat.add_assoc];exact c1
    | 2,hj=>cases hj;rw [Nat.add_assoc];exact c2
    | 3,hj=>cases hj;rw [Nat.add_assoc];exact c3
end
def acC (x:Int×Int):List Value:=[.int .u8 x.1,.int .i64 x.2]
theorem Pm (x:Int×Int):(acC x).length=2:=rfl
section
variable {H:Type} {enc:TypeId×Value→H} {P:Program} {w:World} {base:Nat} {held:Bool}
theorem afH {t e:TypeId} {f0 f1:Field} {fuel:Nat} {v:Value} {x:DataW H×List MemPlace} (ht:P.underlying t=some (.slice e)) (he:P.underlying e=some (.struct #[f0,f1])) (hone:oneCellFields P #[f0,f1]=true) (hC:P.cellsOf e=2)
  (h0:P.underlying f0.type=some (.int .u8)) (h1:P.underlying f1.type=some (.int .i64))
  (h:DataW.trod enc P w base (fun _=>true) held fuel t [v]=some x):∃(A:Option Addr) (n cap:Nat) (us:List (Int×Int)),v= .slice A n cap∧us.length=n∧n≤maxLen∧Rd w w.heap.size A (fl acC us)∧∀x∈us,0≤x.1∧x.1≤255∧-9223372036854775808≤x.2∧x.2≤9223372036854775807:=by
 rcases sP ht he hone hC h with ⟨hcs,_⟩|⟨a,len,cap,m,D,Pl,hcs,_,hl,hm,hmm,_,hi⟩
 ·simp only [List.cons.injEq,and_true] at hcs
  exact ⟨none,0,0,[],hcs,rfl,by unfold maxLen;omega,fun k hk=>absurd hk (by simp [fl]),fun x hx=>(by cases hx)⟩
 ·simp only [List.cons.injEq,and_true] at hcs
  simp only [if_true] at hmm;have each:∀i,i<len→∃p q:Int,w.cell? (a.add (i*2))=some (.int .u8 p)∧w.cell? (a.add (i*2+1))=some (.int .i64 q)∧(Lit.int .u8 p).wf=true∧(Lit.int .i64 q).wf=true:=by
   intro i hil;obtain ⟨ys,n,_,_,_,hf⟩:=hi i (by omega);obtain ⟨v0,y0,c0,_,t0⟩:=hf 0 f0 rfl;obtain ⟨v1,y1,c1,_,t1⟩:=hf 1 f1 rfl;obtain ⟨p,e0,_,w0⟩:=DataW.trod_int h0 t0;obtain ⟨q,e1,_,w1⟩:=DataW.trod_int h1 t1;simp only [List.cons.injEq,and_true] at e0 e1;subst e0;subst e1;exact ⟨p,q,c0,c1,w0,w1⟩
  obtain ⟨f,hf⟩:=Classical.axiomOfChoice (r:=fun (i:Nat) (pq:Int×Int)=>i<len→w.cell? (a.add (i*2))=some (.int .u8 pq.1)∧w.cell? (a.add (i*2+1))=some (.int .i64 pq.2)∧(Lit.int .u8 pq.1).wf=true∧(Lit.int .i64 pq.2).wf=true) (fun i=>by
   by_cases hil:i<len
   ·obtain ⟨p,q,c0,c1,c2,c3⟩:=each i hil
    exact ⟨(p,q),fun _=>⟨c0,c1,c2,c3⟩⟩
   ·exact ⟨(0,0),fun h=>absurd h hil⟩)
  by_cases hz:len=0
  ·subst hz
   exact ⟨some a,0,cap,[],hcs,rfl,by omega,fun k hk=>absurd hk (by simp [fl]),fun x hx=>(by cases hx)⟩
  ·obtain ⟨b,off,spot⟩:=a
   have hspot:spot=none:=by
    obtain ⟨c0',_⟩:=hf 0 (by omega);simpa [Addr.add] using World.cell?_spot c0'
   subst hspot;refine ⟨_,len,cap,(List.range len).map f,hcs,by simp,by omega,Rd.Pj Pm (by omega) (0,0) _ (fun _=>?_) (fun k hk j v hj=>?_),fun x hx=>?_⟩
   ·obtain ⟨c0',_⟩:=hf 0 (by omega)
    rw [add_plain] at c0';exact World.block_lt_of_cell? _ _ c0'
   ·have hk':k<len:=by simpa using hk
    obtain ⟨c0,c1,_,_⟩:=hf k hk';have e:((List.range len).map f).getD k (0,0)=f k:=by simp [List.getD_eq_getElem?_getD,hk']
    rw [e] at hj;rw [add_plain] at c0 c1
    match j,hj with
    | 0,hj=>cases hj;exact c0
    | 1,hj=>cases hj;rw [Nat.add_assoc];exact c1
   ·obtain ⟨k,hk,rfl⟩:=List.mem_map.1 hx
    obtain ⟨_,_,h2,h3⟩:=hf k (List.mem_range.1 hk);simp [Lit.wf,IntKind.min,IntKind.max,IntKind.signed,IntKind.bits] at h2 h3;omega
end
abbrev twC (ps pb:Option Addr) (r:Cr) (v:Value):Array Value:=#[.pointer ps,.pointer pb,.int .i64 r.pg,.int .i64 r.n,.int .i64 r.f,.int .i64 r.bk,.int .i64 r.ev,.int .i64 r.node,.int .i64 r.live,v,.bool r.cl,
 .pointer none,.pointer none,.int .i64 0,.int .i64 0,.int .i64 0,.int .i64 0,.int .i64 0,.int .i64 0,.int .i64 0,.slice none 0 0,.bool false]
def vW (W:World) (g:Nat) (r:Cr) (v:Value):World :=
 ((((((((W.setCell ⟨g,2,none⟩ (.int .i64 r.pg)).setCell ⟨g,3,none⟩ (.int .i64 r.n)).setCell ⟨g,4,none⟩ (.int .i64 r.f)).setCell ⟨g,5,none⟩ (.int .i64 r.bk)).setCell ⟨g,6,none⟩ (.int .i64 r.ev)).setCell ⟨g,7,none⟩ (.int .i64 r.node)).setCell ⟨g,8,none⟩ (.int .i64 r.live)).setCell ⟨g,9,none⟩ v).setCell ⟨g,10,none⟩ (.bool r.cl)
theorem vX {W:World} {g:Nat} {t:TypeId} {a b a0 a1 a2 a3 a4 a5 a6 a7 a8 b0 b1 b2 b3 b4 b5 b6 b7 b8 b9 b10:Value} (h:ag W g t #[a,b,a0,a1,a2,a3,a4,a5,a6,a7,a8,b0,b1,b2,b3,b4,b5,b6,b7,b8,b9,b10]) (r:Cr) (v:Value) :
  ag (vW W g r v) g t #[a,b,.int .i64 r.pg,.int .i64 r.n,.int .i64 r.f,.int .i64 r.bk,.int .i64 r.ev,.int .i64 r.node,.int .i64 r.live,v,.bool r.cl,b0,b1,b2,b3,b4,b5,b6,b7,b8,b9,b10]:=by
 have:=((((((((h.aO 2 (.int .i64 r.pg)).aO 3 (.int .i64 r.n)).aO 4 (.int .i64 r.f)).aO 5 (.int .i64 r.bk)).aO 6 (.int .i64 r.ev)).aO 7 (.int .i64 r.node)).aO 8 (.int .i64 r.live)).aO 9 v).aO 10 (.bool r.cl);simpa [vW] using this
theorem vY (W:World) (g:Nat) (r:Cr) (v:Value):af (fun k=>k=g) W (vW W g r v) :=
 (((((((((af.refl (fun k=>k=g) W).setCell (p:=⟨g,2,none⟩) (fun _=>rfl) _).setCell (p:=⟨g,3,none⟩) (fun _=>rfl) _).setCell (p:=⟨g,4,none⟩) (fun _=>rfl) _).setCell (p:=⟨g,5,none⟩) (fun _=>rfl) _).setCell (p:=⟨g,6,none⟩) (fun _=>rfl) _).setCell (p:=⟨g,7,none⟩) (fun _=>rfl) _).setCell (p:=⟨g,8,none⟩) (fun _=>rfl) _).setCell (p:=⟨g,9,none⟩) (fun _=>rfl) _).setCell (p:=⟨g,10,none⟩) (fun _=>rfl) _
theorem WE {l:Int} (h:(fF (fo 4096) l).1=0):bg (fF (fo 4096) l).2∧(fF (fo 4096) l).2.length=2∧((fF (fo 4096) l).2.getD 0 nd0).own=0∧((fF (fo 4096) l).2.getD 1 nd0).own=0:=by
 refine ⟨Ih (by decide),?_⟩;unfold fF at h ⊢;split at h
 ·exact absurd h (by decide)
 ·rename_i h1
  rw [if_neg h1];exact ⟨rfl,rfl,rfl⟩
end Go.Pol
namespace Go.Proofs.YtjmmgoijnhnnaaaGreat
open Go Go.Proofs Go.RowKit Go.Pol Go.Shelf Tryz
attribute [local go_sem] Oper.semAt_some aC au az ah
theorem vS {P:Program} {fn:Func} {a:Tmp} {t:TypeId} {tmps:Array Value} {w:World} {v:Value} {p:Addr} (h:fn.results=#[.cell a t]) (ha:tmps.getD a undef= .pointer (some p)) (hl:(loadVar t p).run P w= .ok v w) :
  (results fn tmps).run P w= .ok v w:=by
 have ha':tmps[a]?.getD undef= .pointer (some p):=by rw [←ha,Array.getD_eq_getD_getElem?]
 simp [results,h,ha',asAddr,hl]
theorem mD {P:Program} {ops:Array Oper} {rest:List Oper} {o:Oper} {a:Act} {w:World} {Q:Exit→Act→World→Prop} (hg:o.guard=none) (d:Nat) (hd:o.dst=some d) (t e:TypeId) (len:Nat) (parts:List (Nat×Operand)) (ho:o.op= .buildSlice t len parts.toArray)
  (vals:List (Nat×Value)) (hv:parts.map (fun x=>(x.1,a.eval x.2))=vals) (cells:Array Value) (ie:TypeInfo) (z:Value)
  (hu:P.underlying t=some (.slice e)) (hie:P.info? e=some ie) (hz:ie.zero=some z) (hsmall:¬len*ie.size > 2 ^ 24) (hpos:¬len*ie.size=0)
  (hf:Instr.fill (fun i=>some (i*ie.size,ie.size)) ((Array.range (len*ie.size)).map (z.cells[· % z.cells.size]!)) vals=some cells)
  (h:wpList P ops Q rest (a.put (some d) (.slice (some ⟨w.heap.size,0,none⟩) len len)) (w.alloc (.cells cells e))):wpList P ops Q (o::rest) a w :=
 wpList_buildSlice hg t e len parts.toArray ho cells ie z hu hie hz hsmall hpos (by rw [←hf,←hv];simp) (by rw [hd];exact h)
theorem O7:(prog.info? 3).map (fun i=>(i.zero,i.size,i.bytes))=some (some (.int .i64 0),1,8):=by kernel_rfl
theorem UR:(prog.info? 167).map (fun i=>(i.zero,i.size,i.bytes))=some (some (.agg (jP 0 (fun _=>0))),65,72):=by kernel_rfl
theorem zy (p:Int) (f:Nat→Int):prog.built 167 [(0,.int .i64 p),(1,.agg (fq .u8 64 f))]=some (jP p f):=by kernel_rfl
theorem CP (p:Int) (f:Nat→Int):Instr.fill (fun i=>some (i*65,65)) ((Array.range (1*65)).map ((Value.agg (jP 0 (fun _=>0))).cells[· % (Value.agg (jP 0 (fun _=>0))).cells.size]!)) [(0,.agg (jP p f))]=some (jP p f):=by kernel_rfl
theorem Wq (b:Nat) (V:Vm) (w:World) (hV:aD w b V) :
  Calls prog 26 #[.pointer (some ⟨b,0,none⟩)] w (Zu V w):=by
 have hV':=ae hV;have hb0:=aV w (.cells (gq (.slice none 0 0) (.slice none 0 0) (.slice none 0 0) (.slice none 0 0) (fun _=>0) (fun _=>0)).toArray 87);have k2:=ag.new w 87 (gq (.slice none 0 0) (.slice none 0 0) (.slice none 0 0) (.slice none 0 0) (fun _=>0) (fun _=>0)).toArray;have V0:=hV.call hb0;have hbs:=hV.lt;have HI:=ae (fun W h=>uD b V W h);obtain ⟨s,hs⟩:=aj (w.heap.size);have hsz0:(w.alloc (.cells (gq (.slice none 0 0) (.slice none 0 0) (.slice none 0 0) (.slice none 0 0) (fun _=>0) (fun _=>0)).toArray 87)).heap.size=s+1:=by rw [World.size_alloc,hs]
 rw [hs] at k2;unfold gq aM at hb0 k2 V0 hsz0;clear hV;go_enter func26,ntmps26;go_upto_region 1 with fail
 generalize w.alloc _=w0 at *;try simp only [hs]
 go_wp2_with fail;refine (HI.out _ V0).mono ?_;rintro e9 w9 ⟨rfl,bH⟩;replace bH:=bH.symm;subst bH;obtain ⟨cs,A,n,cap,kb,hc,hn,hr,hz,_⟩:=V0.ex;have hok:=V0.ok;go_upto_region 3 with fail
 refine O6 _ _ b cs V A n cap (Nat.le_of_ble_eq_true rfl) rfl kb hc ?_;intro B1 s3 v12 w1 hs3 k3 j5 hb1;simp only [bF,Act.put,List.setIfInBounds_toArray,List.set_cons_succ,List.set_cons_zero];obtain ⟨A1,jQ,rfl,r1,_,_,hA1,_⟩:=dC j5;have adk:∀o,A1≠some ⟨s3,o,none⟩:=fun o e=>by
  subst e;exact di j5 rfl k3 (by decide)
 obtain ⟨N1,hN1⟩:=aj ((aP V 1024).length);rw [hN1] at k3 j5;try simp only [hN1]
 have vT:=kb.call hb1;have c67:w1.cell? ⟨b,67585,none⟩=some (.slice A n cap):=by rw [vT.cell];exact (hc.rf 0 (by omega)).trans rfl
 have hr1:=hr.fw hb1;have MF:=(mX.1 hok.plan).1;have hb1':=ae hb1;have k2':=ae (k2.call hb1);have h01:s+1≤w0.heap.size:=Nat.le_of_eq hsz0.symm;have B1:Below s w w1:=by rw [←hs];exact hb0.trans (hb1.mono (by rw [hs];omega))
 have YR:=ae (ym A n cap V.rf.rules w1 hn (by omega) hz hr1);have f3:=k3.frozen;have c3:=k3.cell;have hc':=ae hc;have H9:=ae hN1;have r1':=ae r1;have hAs:=ae hA1;have zJ:=ae k3;clear hb1 k2 kb hr hz hok j5 V0 HI hn hb0 hc hN1 r1 hA1 hr1 MF k3 c3 f3;unfold gK gq aM;go_wp2_with fail;refine YR.out.mono ?_;rintro e w2 ⟨v4,rfl,hv4⟩;obtain ⟨A4,c4,rfl,q1,_,_,q4,q5,hb2⟩:=hv4;have iU:=zJ.out.call hb2;have k22:=k2'.out.call hb2;have pJ:=vT.call hb2;have r12:=ae (r1'.out.below hb2);have B2:=B1.trans (hb2.mono (by have:=B1.size;omega));have c3:=iU.cell;have f3:=iU.frozen;have Mm:w2.cell? ⟨s3,3,none⟩=some (.slice A n cap):=(iU.cell 3).trans rfl;have mH:=iU.aO 3 (.slice A4 V.rf.rules.length c4);have F3:af (fun k=>k=s3) w2 (w2.setCell ⟨s3,3,none⟩ (.slice A4 V.rf.rules.length c4)):=af.setCell (T:=fun k=>k=s3) (p:=⟨s3,3,none⟩) (af.refl _ w2) (fun _=>rfl) _;have anU:=vT.lt;have anV:=zJ.out.lt;clear YR c67 vT c3 k2';go_upto_region 5 with fail
 generalize w2.setCell ⟨s3,3,none⟩ _=w3 at *;have nQ:ag w3 s3 87 (gq (.slice A1 N1 jQ) (.slice none 0 0) (.slice none 0 0) (.slice A4 V.rf.rules.length c4) V.rf.calls V.rf.hits).toArray:=mH;have Zv:Rd w3 w2.heap.size A4 (fl iN V.rf.rules):=q1.Gb F3 (fun g o e=>by have:=q4 g o e;show ¬g=s3;omega);have r13:Rd w3 w1.heap.size A1 (fl qj (aP V 1024)):=r12.out.xM F3 (fun k _ ⟨o,e⟩ h=>adk o (h ▸ e));have qI:=F3.blk pJ (by show ¬b=s3;omega);have k23:=F3.blk k22 (by show ¬s=s3;omega);have B3:=B2.trans (F3.below (by have:=B2.size;omega) (fun k hk e=>by omega));have NK:w2.heap.size≤w3.heap.size:=F3.size;have hsz2:=hb2.size;have Zw:=ae Zv;have ajn:=ae r13;clear F3 iU k22 pJ r12 B2 Mm mH Zv r13 q1 f3 hb2 zJ r1' B1;generalize hN4:V.rf.rules.length=N4 at *;have Zx:=ae hN4;clear hN4;obtain ⟨i0,hi,hz0,hz1,hz2⟩:=info_parts O7;obtain ⟨iD,Ws,KU,xN,Zy⟩:=info_parts UR;obtain ⟨NB,Zz⟩:=aj (w3.heap.size);go_wp2_with fail
 go_loopw [28] (fun u wr=>∃(k:Nat) (v2 v3:Value),k≤1024∧u= .int .i64 k∧ag wr s3 87 (gq (.slice A1 N1 jQ) v2 v3 (.slice A4 N4 c4) V.rf.calls V.rf.hits).toArray ∧
  wr.ownsRow NB 3 1 v2 (dY V k).length ((dY V k).map (Value.int .i64))∧wr.ownsRow NB 167 65 v3 (dL V k).length (fl (tT V) (dL V k))∧af (fun k=>k=s3∨NB≤k) w3 wr) (fun u _=>1024 - (intOf u).toNat)
 case atStart=>exact ⟨0,_,_,by omega,rfl,nQ,World.ownsRow_nil _ _ _ _,World.ownsRow_nil _ _ _ _,af.refl _ _⟩
 case round =>
  clear nQ;obtain ⟨k,v2,v3,hk,rfl,k3,rF,xw,hF⟩:=hrel;by_cases hlt:k<1024
  ·have hlt':decide ((k:Int)<1024)=true:=by rw [decide_eq_true_eq];omega
   have hkl:(k:Int)<1024:=by omega
   have zO:=hF.blk qI (by show ¬(b=s3∨NB≤b);omega);have MG:=ae (qi (k:Int) wr);have zN:lD (k:Int)=decide (k % 16=0):=by
    unfold lD;rw [Bool.eq_iff_iff];simp;omega
   rw [zN] at MG;have jR:Hid (dY V (k+1)=if k % 16=0∧(V.pg k).dz=true then dY V k++[(k:Int)] else dY V k):=ae rfl;have qV:Hid (dL V (k+1)=if AZ (V.pg k)=true then dL V k++[k] else dL V k):=ae rfl;have MH:=(zO.cell (1+k*66+1)).trans (hc'.out.BZ hlt);have Su:=zu V k;have ZA:=zw V k;clear zN;by_cases hm:k % 16=0
   ·rw [decide_eq_true hm] at MG
    cases hh:(V.pg k).dz with
    | true =>
     rw [hh] at MH;have df:Hid (dY V (k+1)=dY V k++[(k:Int)]):=ae (by rw [jR.out,if_pos ⟨hm,hh⟩]);clear jR hm hh;obtain ⟨ll,hll⟩:=aj ((dY V k).length);rw [hll] at rF Su;obtain ⟨A2,cap2,rfl,_⟩:=dC rF;have kN:=ag.new wr 3 #[.int .i64 (k:Int)];have hbN:Below wr.heap.size wr (wr.alloc (.cells #[.int .i64 (k:Int)] 3)):=(Below.refl _ _).alloc (Nat.le_refl _) _;have hsF:=hF.size;have c3:=k3.cell;unfold gq aM at c3;go_wp2_with fail;refine MG.out.mono ?_;rintro e8 w8 ⟨rfl,hw8⟩;replace hw8:=hw8.symm;subst hw8;go_upto_region 10 with (refine wpList_append_own _ rfl (.tmp 43) (.tmp 45) 84 rfl NB 3 i0 (.int .i64 0) 1 8 underlying84 hi hz0 hz1 hz2 rfl (by decide) _ ll ((dY V k).map (Value.int .i64)) rfl (rF.alloc _) ⟨wr.heap.size,0,none⟩ 1 1 [.int .i64 (k:Int)] rfl rfl (Fu kN) zt (by unfold maxLen;omega) (by omega) (by simp;omega) ?_;intro v' w7 hown' hgrow _;rw [show (dY V k).map (Value.int .i64)++[Value.int .i64 (k:Int)]=(dY V k++[(k:Int)]).map (Value.int .i64) by simp] at hown';have F7:af (fun g=>(Value.slice A2 ll cap2).ownBlock=some g) wr w7:=(af.of_below hbN).grown hgrow (fun g hg _=>hg);have tV:=F7.blk k3 (fun h=>di rF h k3 (by decide));have f37:=tV.frozen;have adl:w7.cell? ⟨s3,1,none⟩=some (.slice A2 ll cap2):=(tV.cell 1).trans rfl;obtain ⟨Ia,sU,rfl,_⟩:=dC hown';clear c3)
     have F8:af (fun k=>k=s3) w7 (w7.setCell ⟨s3,1,none⟩ (.slice Ia (ll+1) sU)):=af.setCell (T:=fun k=>k=s3) (p:=⟨s3,1,none⟩) (af.refl _ w7) (fun _=>rfl) _;have nZ:ag (w7.setCell ⟨s3,1,none⟩ (.slice Ia (ll+1) sU)) s3 87 (gq (.slice A1 N1 jQ) (.slice Ia (ll+1) sU) v3 (.slice A4 N4 c4) V.rf.calls V.rf.hits).toArray:=tV.aO 1 _;have lG:(w7.setCell ⟨s3,1,none⟩ (.slice Ia (ll+1) sU)).ownsRow NB 3 1 (.slice Ia (ll+1) sU) (dY V (k+1)).length ((dY V (k+1)).map (Value.int .i64)):=by
      rw [df.out,List.length_append,List.length_singleton,hll];exact aK hown' F8 (fun g hg h=>di hown' (hg.trans (congrArg some h)) tV (by decide))
     have mP:=aK (aK xw F7 (fun g hg h=>by
      rcases rF.2 with ⟨hx,_⟩|⟨g',cap',cur,hx,_,hkx,_⟩
      ·rw [hx] at h;cases h
      ·rw [hx] at h
       have e':g'=g:=by injection h
       subst e';exact di xw hg (show ag wr g' 3 cur from hkx) (by decide))) F8 (fun g hg h=>by
      have:=(xw.lt g hg).1;omega)
     have yS:af (fun k=>k=s3∨NB≤k) w3 (w7.setCell ⟨s3,1,none⟩ (.slice Ia (ll+1) sU)):=(hF.trans' F7 (fun i hi h=>.inr (rF.lt i h).1)).trans' F8 (fun i hi h=>.inl h);have Fb:=F8.blk (F7.blk zO (fun h=>by have:=(rF.lt b h).1;omega)) (by show ¬b=s3;omega);clear F7 F8 tV f37 adl hown' hgrow rF xw hF k3 zO kN hbN MH Su hsF MG;generalize w7.setCell ⟨s3,1,none⟩ _=w8 at *;generalize (.slice Ia (ll+1) sU:Value)=v2n at *;obtain ⟨X,hX⟩:=aj (fq .u8 64 (V.pg k).iJ);have yR:X.size=64:=by rw [←hX];simp [fq]
     have hra:w8.rangeAt b (1+k*66+2) X.toList:=fun j v hj=>by
      rw [←hX] at hj;have yT:j<64:=by have:=(List.getElem?_eq_some_iff.1 hj).1;simpa [fq] using this
      rw [Fb.cell,show 1+k*66+2+j=1+k*66+(j+2) by omega,hc'.out.byte hlt yT,←hj,Array.getElem?_toList,qy yT]
     have jL:(prog.info? 63).map (·.size)=some X.size:=by rw [yR];exact pI
     have kF:(prog.info? 63).map (·.size)=some X.toList.length:=by rw [Array.length_toList];exact jL
     have hone:X.all (·.oneCell')=true:=by
      rw [←hX];unfold fq;exact Go.all_oneCell_toArray (fun x hx=>by simp only [List.mem_map] at hx;obtain ⟨i,_,rfl⟩:=hx;rfl)
     have ht:∀Z:Array Value,Z.size=64→(w8.alloc (.cells Z 63)).there w8.heap.size 0 X.size:=fun Z hZ=>dP (ag.new w8 _ Z) 0 X.size (by omega)
     have bH:∀(Z:Array Value) w9,(w8.alloc (.cells Z 63)).setCells w8.heap.size 0 X.toList=w9→Z.size=64→ag w9 w8.heap.size 63 X∧Below w8.heap.size w8 w9:=fun Z w9 h hZ=>by
      have kP:=ag.puts (g:=w8.heap.size) (t:=63) (w:=w8) (cs:=#[]) X.toList 0 _ _ (ag.new w8 63 Z);rw [eB (by rw [Array.length_toList];omega)] at kP;have hF:=af.puts (T:=fun k=>k=w8.heap.size) rfl X.toList 0 w8 _ ((af.refl _ w8).alloc (.cells Z 63));rw [h] at kP hF;exact ⟨kP,hF.below (Nat.le_refl _) (fun k hk e=>by omega)⟩
     have heq:∀W,(Op.equalIn 10000 63 (.agg X) (.agg #[.int .u8 0,.int .u8 0,.int .u8 0,.int .u8 0,.int .u8 0,.int .u8 0,.int .u8 0,.int .u8 0,.int .u8 0,.int .u8 0,.int .u8 0,.int .u8 0,.int .u8 0,.int .u8 0,.int .u8 0,.int .u8 0,.int .u8 0,.int .u8 0,.int .u8 0,.int .u8 0,.int .u8 0,.int .u8 0,.int .u8 0,.int .u8 0,.int .u8 0,.int .u8 0,.int .u8 0,.int .u8 0,.int .u8 0,.int .u8 0,.int .u8 0,.int .u8 0,.int .u8 0,.int .u8 0,.int .u8 0,.int .u8 0,.int .u8 0,.int .u8 0,.int .u8 0,.int .u8 0,.int .u8 0,.int .u8 0,.int .u8 0,.int .u8 0,.int .u8 0,.int .u8 0,.int .u8 0,.int .u8 0,.int .u8 0,.int .u8 0,.int .u8 0,.int .u8 0,.int .u8 0,.int .u8 0,.int .u8 0,.int .u8 0,.int .u8 0,.int .u8 0,.int .u8 0,.int .u8 0,.int .u8 0,.int .u8 0,.int .u8 0,.int .u8 0])).run prog W= .ok (!AZ (V.pg k)) W:=fun W=>by
      have h:=zx (V.pg k).iJ (fun _=>0) W;rw [hX,CO] at h;exact h
     have ZB:=ae hX;have adm:=ae yR;clear hX yR;go_upto_region 11 with (first
      | (refine wpList_load_mid rfl 63 (.tmp 53) rfl b (1+k*66+2) rfl X.toList _ hra underlying63 rfl kF ?_;rw [Array.toArray_toList])
      | (refine wpList_store_mid rfl 63 (.tmp 5) (.tmp 54) rfl w8.heap.size 0 X rfl rfl (ht _ rfl) jL hone ?_))
     generalize O8:World.setCells _ w8.heap.size 0 X.toList=w9;obtain ⟨k9,iH⟩:=bH _ _ O8 rfl;clear O8 bH ht hra;have sj:w9.rangeAt w8.heap.size 0 X.toList:=fun j v hj=>by rw [Nat.zero_add,k9.cell];simpa using hj
     cases hnz:AZ (V.pg k) with
     | false =>
      rw [hnz] at heq
      go_wp2_with (refine wpList_load_mid rfl 63 (.tmp 5) rfl w8.heap.size 0 rfl X.toList _ sj underlying63 rfl kF ?_;rw [Array.toArray_toList])
      go_roundw
      case rel =>
       have lL:dL V (k+1)=dL V k:=by rw [qV.out,if_neg (by rw [hnz];decide)]
       exact ⟨k+1,v2n,v3,by omega,by go_num,nZ.call iH,aB lG iH,by rw [lL];exact aB mP iH,yS.trans (.of_below iH)⟩
      case measure=>simp [intOf];omega
     | true =>
      rw [hnz] at heq;go_upto_region 12 with (refine wpList_load_mid rfl 63 (.tmp 5) rfl w8.heap.size 0 rfl X.toList _ sj underlying63 rfl kF ?_;rw [Array.toArray_toList])
      obtain ⟨D,hD⟩:=aj (jP (k:Int) (V.pg k).iJ);have hbt:prog.built 167 [(0,.int .i64 (k:Int)),(1,.agg X)]=some D:=by rw [←hD,←ZB.out];exact zy _ _
      have Ib:∀W,(Instr.build 167 #[(0,.int .i64 (k:Int)),(1,.agg X)]).run prog W= .ok (.agg D) W:=fun W=>run_build W _ _ _ hbt
      have hbs:=CP (k:Int) (V.pg k).iJ;rw [hD] at hbs;have hDs:D.toList.length=65:=by rw [←hD];simp [jP]
      have ZC:∀u∈D.toList,u.oneCell'=true:=by
       intro u hu;rw [←hD,←xu] at hu;exact Hz V [k] u (by simpa [fl] using hu)
      have hDl:fl (tT V) [k]=D.toList:=by rw [←hD,←xu];simp [fl]
      have lL:Hid (dL V (k+1)=dL V k++[k]):=ae (by rw [qV.out,if_pos hnz]);obtain ⟨dl,hdl⟩:=aj ((dL V k).length);rw [hdl] at mP ZA;have kL:=aB mP iH;have sM:=nZ.call iH;obtain ⟨Ic,sW,rfl,_⟩:=dC kL;have JG:w9.cell? ⟨s3,2,none⟩=some (.slice Ic dl sW):=(sM.cell 2).trans rfl;clear hD hnz heq;have hfl:Instr.fill (fun i=>some (i*iD.size,iD.size)) ((Array.range (1*iD.size)).map ((Value.agg (jP 0 (fun _=>0))).cells[· % (Value.agg (jP 0 (fun _=>0))).cells.size]!)) [(0,.agg D)]=some D:=by rw [xN];exact hbs
      have hs1:¬1*iD.size > 2 ^ 24:=by rw [xN];decide
      have hs2:¬1*iD.size=0:=by rw [xN];decide
      have kD:=ag.new w9 167 D;have hbD:Below w9.heap.size w9 (w9.alloc (.cells D 167)):=(Below.refl _ _).alloc (Nat.le_refl _) _;have ZE:∀(j:Nat) (u:Value),D.toList[j]? = some u→(w9.alloc (.cells D 167)).cell? ((⟨w9.heap.size,0,none⟩:Addr).add j)=some u:=fun j u hu=>by
       rw [dh,Nat.zero_add,kD.cell];simpa using hu
      have adn:=(yS.trans (.of_below iH)).size;clear hbs Ib
      go_wp2_with (refine wpList_load_mid rfl 63 (.tmp 5) rfl w8.heap.size 0 rfl X.toList _ sj underlying63 rfl kF ?_;rw [Array.toArray_toList];refine su rfl 62 rfl 167 [(0,.tmp 60),(1,.tmp 61)] rfl _ rfl D hbt ?_;refine mD rfl 63 rfl 85 167 1 [(0,.tmp 62)] rfl _ rfl D iD _ underlying85 Ws KU hs1 hs2 hfl ?_;refine wpList_append_own _ rfl (.tmp 59) (.tmp 63) 85 rfl NB 167 iD (.agg (jP 0 (fun _=>0))) 65 72 underlying85 Ws KU xN Zy rfl (by decide) _ dl (fl (tT V) (dL V k)) rfl (kL.alloc _) ⟨w9.heap.size,0,none⟩ 1 1 D.toList rfl hDs ZE ZC (by unfold maxLen;omega) (by omega) (by simp;omega) ?_;intro v' il hown' hgrow _;rw [←hDl,←jd] at hown';have nz:af (fun g=>(Value.slice Ic dl sW).ownBlock=some g) w9 il:=(af.of_below hbD).grown hgrow (fun g hg _=>hg);have oP:=nz.blk sM (fun h=>di kL h sM (by decide));have f310:=oP.frozen;have ado:il.cell? ⟨s3,2,none⟩=some (.slice Ic dl sW):=(oP.cell 2).trans rfl;obtain ⟨vU,jS,rfl,_⟩:=dC hown';clear JG)
      have vV:af (fun k=>k=s3) il (il.setCell ⟨s3,2,none⟩ (.slice vU (dl+1) jS)):=af.setCell (T:=fun k=>k=s3) (p:=⟨s3,2,none⟩) (af.refl _ il) (fun _=>rfl) _;have O9:ag (il.setCell ⟨s3,2,none⟩ (.slice vU (dl+1) jS)) s3 87 (gq (.slice A1 N1 jQ) v2n (.slice vU (dl+1) jS) (.slice A4 N4 c4) V.rf.calls V.rf.hits).toArray:=oP.aO 2 _;have Ie:(il.setCell ⟨s3,2,none⟩ (.slice vU (dl+1) jS)).ownsRow NB 167 65 (.slice vU (dl+1) jS) (dL V (k+1)).length (fl (tT V) (dL V (k+1))):=by
       rw [lL.out,List.length_append,List.length_singleton,hdl];exact aK hown' vV (fun g hg h=>di hown' (hg.trans (congrArg some h)) oP (by decide))
      have sZ:=aB lG iH;have Ig:=aK (aK sZ nz (fun g hg h=>by
       rcases kL.2 with ⟨hx,_⟩|⟨g',cap',cur,hx,_,hkx,_⟩
       ·rw [hx] at h;cases h
       ·rw [hx] at h
        have e':g'=g:=by injection h
        subst e';exact di sZ hg (show ag w9 g' 167 cur from hkx) (by decide))) vV (fun g hg h=>by
       have:=(sZ.lt g hg).1;omega)
      have Pb:af (fun k=>k=s3∨NB≤k) w3 (il.setCell ⟨s3,2,none⟩ (.slice vU (dl+1) jS)):=((yS.trans (.of_below iH)).trans' nz (fun i hi h=>.inr (kL.lt i h).1)).trans' vV (fun i hi h=>.inl h);go_roundw
      case rel=>exact ⟨k+1,v2n,_,by omega,by go_num,O9,Ig,Ie,Pb⟩
      case measure=>simp [intOf];omega
    | false =>
     rw [hh] at MH;have df:Hid (dY V (k+1)=dY V k):=ae (by rw [jR.out,if_neg (by rw [hh];simp)]);clear jR hm hh;have nZ:=k3;have lG:wr.ownsRow NB 3 1 v2 (dY V (k+1)).length ((dY V (k+1)).map (Value.int .i64)):=by rw [df.out];exact rF
     have mP:=xw;have yS:=hF;have Fb:=zO;clear k3 rF xw hF zO Su;go_upto_region 10 with fail
     refine MG.out.mono ?_;rintro e8 w8 ⟨rfl,hw8⟩;replace hw8:=hw8.symm;subst hw8;go_upto_region 10 with fail
     clear MG MH;obtain ⟨X,hX⟩:=aj (fq .u8 64 (V.pg k).iJ);have yR:X.size=64:=by rw [←hX];simp [fq]
     have hra:wr.rangeAt b (1+k*66+2) X.toList:=fun j v hj=>by
      rw [←hX] at hj;have yT:j<64:=by have:=(List.getElem?_eq_some_iff.1 hj).1;simpa [fq] using this
      rw [Fb.cell,show 1+k*66+2+j=1+k*66+(j+2) by omega,hc'.out.byte hlt yT,←hj,Array.getElem?_toList,qy yT]
     have jL:(prog.info? 63).map (·.size)=some X.size:=by rw [yR];exact pI
     have kF:(prog.info? 63).map (·.size)=some X.toList.length:=by rw [Array.length_toList];exact jL
     have hone:X.all (·.oneCell')=true:=by
      rw [←hX];unfold fq;exact Go.all_oneCell_toArray (fun x hx=>by simp only [List.mem_map] at hx;obtain ⟨i,_,rfl⟩:=hx;rfl)
     have ht:∀Z:Array Value,Z.size=64→(wr.alloc (.cells Z 63)).there wr.heap.size 0 X.size:=fun Z hZ=>dP (ag.new wr _ Z) 0 X.size (by omega)
     have bH:∀(Z:Array Value) w9,(wr.alloc (.cells Z 63)).setCells wr.heap.size 0 X.toList=w9→Z.size=64→ag w9 wr.heap.size 63 X∧Below wr.heap.size wr w9:=fun Z w9 h hZ=>by
      have kP:=ag.puts (g:=wr.heap.size) (t:=63) (w:=wr) (cs:=#[]) X.toList 0 _ _ (ag.new wr 63 Z);rw [eB (by rw [Array.length_toList];omega)] at kP;have hF:=af.puts (T:=fun k=>k=wr.heap.size) rfl X.toList 0 wr _ ((af.refl _ wr).alloc (.cells Z 63));rw [h] at kP hF;exact ⟨kP,hF.below (Nat.le_refl _) (fun k hk e=>by omega)⟩
     have heq:∀W,(Op.equalIn 10000 63 (.agg X) (.agg #[.int .u8 0,.int .u8 0,.int .u8 0,.int .u8 0,.int .u8 0,.int .u8 0,.int .u8 0,.int .u8 0,.int .u8 0,.int .u8 0,.int .u8 0,.int .u8 0,.int .u8 0,.int .u8 0,.int .u8 0,.int .u8 0,.int .u8 0,.int .u8 0,.int .u8 0,.int .u8 0,.int .u8 0,.int .u8 0,.int .u8 0,.int .u8 0,.int .u8 0,.int .u8 0,.int .u8 0,.int .u8 0,.int .u8 0,.int .u8 0,.int .u8 0,.int .u8 0,.int .u8 0,.int .u8 0,.int .u8 0,.int .u8 0,.int .u8 0,.int .u8 0,.int .u8 0,.int .u8 0,.int .u8 0,.int .u8 0,.int .u8 0,.int .u8 0,.int .u8 0,.int .u8 0,.int .u8 0,.int .u8 0,.int .u8 0,.int .u8 0,.int .u8 0,.int .u8 0,.int .u8 0,.int .u8 0,.int .u8 0,.int .u8 0,.int .u8 0,.int .u8 0,.int .u8 0,.int .u8 0,.int .u8 0,.int .u8 0,.int .u8 0,.int .u8 0])).run prog W= .ok (!AZ (V.pg k)) W:=fun W=>by
      have h:=zx (V.pg k).iJ (fun _=>0) W;rw [hX,CO] at h;exact h
     have ZB:=ae hX;have adm:=ae yR;clear hX yR;go_upto_region 11 with (first
      | (refine wpList_load_mid rfl 63 (.tmp 53) rfl b (1+k*66+2) rfl X.toList _ hra underlying63 rfl kF ?_;rw [Array.toArray_toList])
      | (refine wpList_store_mid rfl 63 (.tmp 5) (.tmp 54) rfl wr.heap.size 0 X rfl rfl (ht _ rfl) jL hone ?_))
     generalize O8:World.setCells _ wr.heap.size 0 X.toList=w9;obtain ⟨k9,iH⟩:=bH _ _ O8 rfl;clear O8 bH ht hra;have sj:w9.rangeAt wr.heap.size 0 X.toList:=fun j v hj=>by rw [Nat.zero_add,k9.cell];simpa using hj
     cases hnz:AZ (V.pg k) with
     | false =>
      rw [hnz] at heq
      go_wp2_with (refine wpList_load_mid rfl 63 (.tmp 5) rfl wr.heap.size 0 rfl X.toList _ sj underlying63 rfl kF ?_;rw [Array.toArray_toList])
      go_roundw
      case rel =>
       have lL:dL V (k+1)=dL V k:=by rw [qV.out,if_neg (by rw [hnz];decide)]
       exact ⟨k+1,v2,v3,by omega,by go_num,nZ.call iH,aB lG iH,by rw [lL];exact aB mP iH,yS.trans (.of_below iH)⟩
      case measure=>simp [intOf];omega
     | true =>
      rw [hnz] at heq;go_upto_region 12 with (refine wpList_load_mid rfl 63 (.tmp 5) rfl wr.heap.size 0 rfl X.toList _ sj underlying63 rfl kF ?_;rw [Array.toArray_toList])
      obtain ⟨D,hD⟩:=aj (jP (k:Int) (V.pg k).iJ);have hbt:prog.built 167 [(0,.int .i64 (k:Int)),(1,.agg X)]=some D:=by rw [←hD,←ZB.out];exact zy _ _
      have Ib:∀W,(Instr.build 167 #[(0,.int .i64 (k:Int)),(1,.agg X)]).run prog W= .ok (.agg D) W:=fun W=>run_build W _ _ _ hbt
      have hbs:=CP (k:Int) (V.pg k).iJ;rw [hD] at hbs;have hDs:D.toList.length=65:=by rw [←hD];simp [jP]
      have ZC:∀u∈D.toList,u.oneCell'=true:=by
       intro u hu;rw [←hD,←xu] at hu;exact Hz V [k] u (by simpa [fl] using hu)
      have hDl:fl (tT V) [k]=D.toList:=by rw [←hD,←xu];simp [fl]
      have lL:Hid (dL V (k+1)=dL V k++[k]):=ae (by rw [qV.out,if_pos hnz]);obtain ⟨dl,hdl⟩:=aj ((dL V k).length);rw [hdl] at mP ZA;have kL:=aB mP iH;have sM:=nZ.call iH;obtain ⟨Ic,sW,rfl,_⟩:=dC kL;have JG:w9.cell? ⟨s3,2,none⟩=some (.slice Ic dl sW):=(sM.cell 2).trans rfl;clear hD hnz heq;have hfl:Instr.fill (fun i=>some (i*iD.size,iD.size)) ((Array.range (1*iD.size)).map ((Value.agg (jP 0 (fun _=>0))).cells[· % (Value.agg (jP 0 (fun _=>0))).cells.size]!)) [(0,.agg D)]=some D:=by rw [xN];exact hbs
      have hs1:¬1*iD.size > 2 ^ 24:=by rw [xN];decide
      have hs2:¬1*iD.size=0:=by rw [xN];decide
      have kD:=ag.new w9 167 D;have hbD:Below w9.heap.size w9 (w9.alloc (.cells D 167)):=(Below.refl _ _).alloc (Nat.le_refl _) _;have ZE:∀(j:Nat) (u:Value),D.toList[j]? = some u→(w9.alloc (.cells D 167)).cell? ((⟨w9.heap.size,0,none⟩:Addr).add j)=some u:=fun j u hu=>by
       rw [dh,Nat.zero_add,kD.cell];simpa using hu
      have adn:=(yS.trans (.of_below iH)).size;clear hbs Ib
      go_wp2_with (refine wpList_load_mid rfl 63 (.tmp 5) rfl wr.heap.size 0 rfl X.toList _ sj underlying63 rfl kF ?_;rw [Array.toArray_toList];refine su rfl 62 rfl 167 [(0,.tmp 60),(1,.tmp 61)] rfl _ rfl D hbt ?_;refine mD rfl 63 rfl 85 167 1 [(0,.tmp 62)] rfl _ rfl D iD _ underlying85 Ws KU hs1 hs2 hfl ?_;refine wpList_append_own _ rfl (.tmp 59) (.tmp 63) 85 rfl NB 167 iD (.agg (jP 0 (fun _=>0))) 65 72 underlying85 Ws KU xN Zy rfl (by decide) _ dl (fl (tT V) (dL V k)) rfl (kL.alloc _) ⟨w9.heap.size,0,none⟩ 1 1 D.toList rfl hDs ZE ZC (by unfold maxLen;omega) (by omega) (by simp;omega) ?_;intro v' il hown' hgrow _;rw [←hDl,←jd] at hown';have nz:af (fun g=>(Value.slice Ic dl sW).ownBlock=some g) w9 il:=(af.of_below hbD).grown hgrow (fun g hg _=>hg);have oP:=nz.blk sM (fun h=>di kL h sM (by decide));have f310:=oP.frozen;have ado:il.cell? ⟨s3,2,none⟩=some (.slice Ic dl sW):=(oP.cell 2).trans rfl;obtain ⟨vU,jS,rfl,_⟩:=dC hown';clear JG)
      have vV:af (fun k=>k=s3) il (il.setCell ⟨s3,2,none⟩ (.slice vU (dl+1) jS)):=af.setCell (T:=fun k=>k=s3) (p:=⟨s3,2,none⟩) (af.refl _ il) (fun _=>rfl) _;have O9:ag (il.setCell ⟨s3,2,none⟩ (.slice vU (dl+1) jS)) s3 87 (gq (.slice A1 N1 jQ) v2 (.slice vU (dl+1) jS) (.slice A4 N4 c4) V.rf.calls V.rf.hits).toArray:=oP.aO 2 _;have Ie:(il.setCell ⟨s3,2,none⟩ (.slice vU (dl+1) jS)).ownsRow NB 167 65 (.slice vU (dl+1) jS) (dL V (k+1)).length (fl (tT V) (dL V (k+1))):=by
       rw [lL.out,List.length_append,List.length_singleton,hdl];exact aK hown' vV (fun g hg h=>di hown' (hg.trans (congrArg some h)) oP (by decide))
      have sZ:=aB lG iH;have Ig:=aK (aK sZ nz (fun g hg h=>by
       rcases kL.2 with ⟨hx,_⟩|⟨g',cap',cur,hx,_,hkx,_⟩
       ·rw [hx] at h;cases h
       ·rw [hx] at h
        have e':g'=g:=by injection h
        subst e';exact di sZ hg (show ag w9 g' 167 cur from hkx) (by decide))) vV (fun g hg h=>by
       have:=(sZ.lt g hg).1;omega)
      have Pb:af (fun k=>k=s3∨NB≤k) w3 (il.setCell ⟨s3,2,none⟩ (.slice vU (dl+1) jS)):=((yS.trans (.of_below iH)).trans' nz (fun i hi h=>.inr (kL.lt i h).1)).trans' vV (fun i hi h=>.inl h);go_roundw
      case rel=>exact ⟨k+1,v2,_,by omega,by go_num,O9,Ig,Ie,Pb⟩
      case measure=>simp [intOf];omega
   ·rw [decide_eq_false hm] at MG
    have df:Hid (dY V (k+1)=dY V k):=ae (by rw [jR.out,if_neg (fun h=>hm h.1)]);clear jR hm;have nZ:=k3;have lG:wr.ownsRow NB 3 1 v2 (dY V (k+1)).length ((dY V (k+1)).map (Value.int .i64)):=by rw [df.out];exact rF
    have mP:=xw;have yS:=hF;have Fb:=zO;clear k3 rF xw hF zO Su MH;go_upto_region 10 with fail
    refine MG.out.mono ?_;rintro e8 w8 ⟨rfl,hw8⟩;replace hw8:=hw8.symm;subst hw8;go_upto_region 10 with fail
    clear MG;obtain ⟨X,hX⟩:=aj (fq .u8 64 (V.pg k).iJ);have yR:X.size=64:=by rw [←hX];simp [fq]
    have hra:wr.rangeAt b (1+k*66+2) X.toList:=fun j v hj=>by
     rw [←hX] at hj;have yT:j<64:=by have:=(List.getElem?_eq_some_iff.1 hj).1;simpa [fq] using this
     rw [Fb.cell,show 1+k*66+2+j=1+k*66+(j+2) by omega,hc'.out.byte hlt yT,←hj,Array.getElem?_toList,qy yT]
    have jL:(prog.info? 63).map (·.size)=some X.size:=by rw [yR];exact pI
    have kF:(prog.info? 63).map (·.size)=some X.toList.length:=by rw [Array.length_toList];exact jL
    have hone:X.all (·.oneCell')=true:=by
     rw [←hX];unfold fq;exact Go.all_oneCell_toArray (fun x hx=>by simp only [List.mem_map] at hx;obtain ⟨i,_,rfl⟩:=hx;rfl)
    have ht:∀Z:Array Value,Z.size=64→(wr.alloc (.cells Z 63)).there wr.heap.size 0 X.size:=fun Z hZ=>dP (ag.new wr _ Z) 0 X.size (by omega)
    have bH:∀(Z:Array Value) w9,(wr.alloc (.cells Z 63)).setCells wr.heap.size 0 X.toList=w9→Z.size=64→ag w9 wr.heap.size 63 X∧Below wr.heap.size wr w9:=fun Z w9 h hZ=>by
     have kP:=ag.puts (g:=wr.heap.size) (t:=63) (w:=wr) (cs:=#[]) X.toList 0 _ _ (ag.new wr 63 Z);rw [eB (by rw [Array.length_toList];omega)] at kP;have hF:=af.puts (T:=fun k=>k=wr.heap.size) rfl X.toList 0 wr _ ((af.refl _ wr).alloc (.cells Z 63));rw [h] at kP hF;exact ⟨kP,hF.below (Nat.le_refl _) (fun k hk e=>by omega)⟩
    have heq:∀W,(Op.equalIn 10000 63 (.agg X) (.agg #[.int .u8 0,.int .u8 0,.int .u8 0,.int .u8 0,.int .u8 0,.int .u8 0,.int .u8 0,.int .u8 0,.int .u8 0,.int .u8 0,.int .u8 0,.int .u8 0,.int .u8 0,.int .u8 0,.int .u8 0,.int .u8 0,.int .u8 0,.int .u8 0,.int .u8 0,.int .u8 0,.int .u8 0,.int .u8 0,.int .u8 0,.int .u8 0,.int .u8 0,.int .u8 0,.int .u8 0,.int .u8 0,.int .u8 0,.int .u8 0,.int .u8 0,.int .u8 0,.int .u8 0,.int .u8 0,.int .u8 0,.int .u8 0,.int .u8 0,.int .u8 0,.int .u8 0,.int .u8 0,.int .u8 0,.int .u8 0,.int .u8 0,.int .u8 0,.int .u8 0,.int .u8 0,.int .u8 0,.int .u8 0,.int .u8 0,.int .u8 0,.int .u8 0,.int .u8 0,.int .u8 0,.int .u8 0,.int .u8 0,.int .u8 0,.int .u8 0,.int .u8 0,.int .u8 0,.int .u8 0,.int .u8 0,.int .u8 0,.int .u8 0,.int .u8 0])).run prog W= .ok (!AZ (V.pg k)) W:=fun W=>by
     have h:=zx (V.pg k).iJ (fun _=>0) W;rw [hX,CO] at h;exact h
    have ZB:=ae hX;have adm:=ae yR;clear hX yR;go_upto_region 11 with (first
     | (refine wpList_load_mid rfl 63 (.tmp 53) rfl b (1+k*66+2) rfl X.toList _ hra underlying63 rfl kF ?_;rw [Array.toArray_toList])
     | (refine wpList_store_mid rfl 63 (.tmp 5) (.tmp 54) rfl wr.heap.size 0 X rfl rfl (ht _ rfl) jL hone ?_))
    generalize O8:World.setCells _ wr.heap.size 0 X.toList=w9;obtain ⟨k9,iH⟩:=bH _ _ O8 rfl;clear O8 bH ht hra;have sj:w9.rangeAt wr.heap.size 0 X.toList:=fun j v hj=>by rw [Nat.zero_add,k9.cell];simpa using hj
    cases hnz:AZ (V.pg k) with
    | false =>
     rw [hnz] at heq
     go_wp2_with (refine wpList_load_mid rfl 63 (.tmp 5) rfl wr.heap.size 0 rfl X.toList _ sj underlying63 rfl kF ?_;rw [Array.toArray_toList])
     go_roundw
     case rel =>
      have lL:dL V (k+1)=dL V k:=by rw [qV.out,if_neg (by rw [hnz];decide)]
      exact ⟨k+1,v2,v3,by omega,by go_num,nZ.call iH,aB lG iH,by rw [lL];exact aB mP iH,yS.trans (.of_below iH)⟩
     case measure=>simp [intOf];omega
    | true =>
     rw [hnz] at heq;go_upto_region 12 with (refine wpList_load_mid rfl 63 (.tmp 5) rfl wr.heap.size 0 rfl X.toList _ sj underlying63 rfl kF ?_;rw [Array.toArray_toList])
     obtain ⟨D,hD⟩:=aj (jP (k:Int) (V.pg k).iJ);have hbt:prog.built 167 [(0,.int .i64 (k:Int)),(1,.agg X)]=some D:=by rw [←hD,←ZB.out];exact zy _ _
     have Ib:∀W,(Instr.build 167 #[(0,.int .i64 (k:Int)),(1,.agg X)]).run prog W= .ok (.agg D) W:=fun W=>run_build W _ _ _ hbt
     have hbs:=CP (k:Int) (V.pg k).iJ;rw [hD] at hbs;have hDs:D.toList.length=65:=by rw [←hD];simp [jP]
     have ZC:∀u∈D.toList,u.oneCell'=true:=by
      intro u hu;rw [←hD,←xu] at hu;exact Hz V [k] u (by simpa [fl] using hu)
     have hDl:fl (tT V) [k]=D.toList:=by rw [←hD,←xu];simp [fl]
     have lL:Hid (dL V (k+1)=dL V k++[k]):=ae (by rw [qV.out,if_pos hnz]);obtain ⟨dl,hdl⟩:=aj ((dL V k).length);rw [hdl] at mP ZA;have kL:=aB mP iH;have sM:=nZ.call iH;obtain ⟨Ic,sW,rfl,_⟩:=dC kL;have JG:w9.cell? ⟨s3,2,none⟩=some (.slice Ic dl sW):=(sM.cell 2).trans rfl;clear hD hnz heq;have hfl:Instr.fill (fun i=>some (i*iD.size,iD.size)) ((Array.range (1*iD.size)).map ((Value.agg (jP 0 (fun _=>0))).cells[· % (Value.agg (jP 0 (fun _=>0))).cells.size]!)) [(0,.agg D)]=some D:=by rw [xN];exact hbs
     have hs1:¬1*iD.size > 2 ^ 24:=by rw [xN];decide
     have hs2:¬1*iD.size=0:=by rw [xN];decide
     have kD:=ag.new w9 167 D;have hbD:Below w9.heap.size w9 (w9.alloc (.cells D 167)):=(Below.refl _ _).alloc (Nat.le_refl _) _;have ZE:∀(j:Nat) (u:Value),D.toList[j]? = some u→(w9.alloc (.cells D 167)).cell? ((⟨w9.heap.size,0,none⟩:Addr).add j)=some u:=fun j u hu=>by
      rw [dh,Nat.zero_add,kD.cell];simpa using hu
     have adn:=(yS.trans (.of_below iH)).size;clear hbs Ib
     go_wp2_with (refine wpList_load_mid rfl 63 (.tmp 5) rfl wr.heap.size 0 rfl X.toList _ sj underlying63 rfl kF ?_;rw [Array.toArray_toList];refine su rfl 62 rfl 167 [(0,.tmp 60),(1,.tmp 61)] rfl _ rfl D hbt ?_;refine mD rfl 63 rfl 85 167 1 [(0,.tmp 62)] rfl _ rfl D iD _ underlying85 Ws KU hs1 hs2 hfl ?_;refine wpList_append_own _ rfl (.tmp 59) (.tmp 63) 85 rfl NB 167 iD (.agg (jP 0 (fun _=>0))) 65 72 underlying85 Ws KU xN Zy rfl (by decide) _ dl (fl (tT V) (dL V k)) rfl (kL.alloc _) ⟨w9.heap.size,0,none⟩ 1 1 D.toList rfl hDs ZE ZC (by unfold maxLen;omega) (by omega) (by simp;omega) ?_;intro v' il hown' hgrow _;rw [←hDl,←jd] at hown';have nz:af (fun g=>(Value.slice Ic dl sW).ownBlock=some g) w9 il:=(af.of_below hbD).grown hgrow (fun g hg _=>hg);have oP:=nz.blk sM (fun h=>di kL h sM (by decide));have f310:=oP.frozen;have ado:il.cell? ⟨s3,2,none⟩=some (.slice Ic dl sW):=(oP.cell 2).trans rfl;obtain ⟨vU,jS,rfl,_⟩:=dC hown';clear JG)
     have vV:af (fun k=>k=s3) il (il.setCell ⟨s3,2,none⟩ (.slice vU (dl+1) jS)):=af.setCell (T:=fun k=>k=s3) (p:=⟨s3,2,none⟩) (af.refl _ il) (fun _=>rfl) _;have O9:ag (il.setCell ⟨s3,2,none⟩ (.slice vU (dl+1) jS)) s3 87 (gq (.slice A1 N1 jQ) v2 (.slice vU (dl+1) jS) (.slice A4 N4 c4) V.rf.calls V.rf.hits).toArray:=oP.aO 2 _;have Ie:(il.setCell ⟨s3,2,none⟩ (.slice vU (dl+1) jS)).ownsRow NB 167 65 (.slice vU (dl+1) jS) (dL V (k+1)).length (fl (tT V) (dL V (k+1))):=by
      rw [lL.out,List.length_append,List.length_singleton,hdl];exact aK hown' vV (fun g hg h=>di hown' (hg.trans (congrArg some h)) oP (by decide))
     have sZ:=aB lG iH;have Ig:=aK (aK sZ nz (fun g hg h=>by
      rcases kL.2 with ⟨hx,_⟩|⟨g',cap',cur,hx,_,hkx,_⟩
      ·rw [hx] at h;cases h
      ·rw [hx] at h
       have e':g'=g:=by injection h
       subst e';exact di sZ hg (show ag w9 g' 167 cur from hkx) (by decide))) vV (fun g hg h=>by
      have:=(sZ.lt g hg).1;omega)
     have Pb:af (fun k=>k=s3∨NB≤k) w3 (il.setCell ⟨s3,2,none⟩ (.slice vU (dl+1) jS)):=((yS.trans (.of_below iH)).trans' nz (fun i hi h=>.inr (kL.lt i h).1)).trans' vV (fun i hi h=>.inl h);go_roundw
     case rel=>exact ⟨k+1,v2,_,by omega,by go_num,O9,Ig,Ie,Pb⟩
     case measure=>simp [intOf];omega
  ·obtain rfl:k=1024:=by omega
   have hlt':decide (((1024:Nat):Int)<1024)=false:=by decide
   obtain ⟨A2,cap2,rfl,r2,_,_,g2,_⟩:=dC rF;obtain ⟨A3,nK,rfl,r3,_,_,g3,_⟩:=dC xw;have ZF:=hF.blk k23 (by show ¬(s=s3∨NB≤s);omega);obtain ⟨pK,yU⟩:=aj (gq (.slice A1 N1 jQ) (.slice A2 (dY V 1024).length cap2) (.slice A3 (dL V 1024).length nK) (.slice A4 N4 c4) V.rf.calls V.rf.hits);have xx:pK.length=18:=by rw [←yU];rfl
   have Sv:pK.toArray.all (·.oneCell')=true:=by rw [←yU];exact Go.all_oneCell_toArray (H8 rfl rfl rfl rfl _ _)
   rw [yU] at k3;have hra:wr.rangeAt s3 0 pK:=fun j v hj=>by rw [Nat.zero_add,k3.cell];simpa using hj
   have jL:(prog.info? 87).map (·.size)=some pK.length:=by rw [xx];exact MC
   have Sw:(prog.info? 87).map (·.size)=some pK.toArray.size:=by rw [List.size_toArray];exact jL
   have ht:wr.there s 0 pK.toArray.size:=dP ZF 0 _ (by rw [List.size_toArray,xx];exact Nat.le_refl _);have kP:=ag.puts (g:=s) (t:=87) (w:=wr) (cs:=#[]) pK 0 wr _ ZF;rw [eB (by rw [xx];rfl)] at kP;have F9:=af.puts (T:=fun k=>k=s) rfl pK 0 wr wr (af.refl _ _);have hC':=ae yU;have hs':=ae hs;clear yU xx hs
   go_wp2_with (first
    | (refine wpList_load_mid rfl 87 (.tmp 3) rfl s3 0 rfl pK _ hra underlying87 rfl jL ?_)
    | (refine wpList_store_mid rfl 87 (.tmp 2) (.tmp 67) rfl s 0 pK.toArray rfl rfl ht Sw Sv ?_))
   generalize World.setCells wr s 0 pK=w9 at *;have EL:=run_loadVar_mid (P:=prog) w9 s 0 87 pK _ (fun j v hj=>by rw [Nat.zero_add,kP.cell];simpa using hj) underlying87 rfl jL;refine bodyPost_ret (v:=.agg pK.toArray) ?_ rfl ?_
   ·exact vS results26 rfl EL
   have q1r:=Zw.out.xM hF (fun k hk ⟨o,e⟩=>by
    have:=q4 k o e;show ¬(k=s3∨NB≤k);omega)
   have r1r:=ajn.out.xM hF (fun k hk ⟨o,e⟩ h=>by
    rcases h with h|h
    ·exact adk o (h ▸ e)
    ·omega)
   have KV:=F9.size;have ajp:=hF.size;refine ⟨_,rfl,⟨A1,A2,A3,A4,N1,jQ,_,cap2,_,nK,N4,c4,by rw [hC'.out],H9.out,?_,rfl,?_,rfl,?_,Zx.out,?_⟩,?_⟩
   ·exact (r1r.xM F9 (fun k hk ⟨o,e⟩ h=>by have:=hAs.out k o e;omega)).more (by omega)
   ·exact RI.more (r2.xM F9 (fun k hk ⟨o,e⟩ h=>by have:=g2 k o e;omega)) KV
   ·exact (r3.xM F9 (fun k hk ⟨o,e⟩ h=>by have:=g3 k o e;omega)).more KV
   ·exact (q1r.xM F9 (fun k hk ⟨o,e⟩ h=>by have:=q4 k o e;omega)).more (by omega)
   ·rw [hs'.out]
    exact B3.trans ((hF.below (by omega) (fun k hk h=>by omega)).trans (F9.below (by omega) (fun k hk h=>by omega)))
theorem tu (pg n f b ev:Int) (w:World) (hp:dS pg n f b ev) (L:List Int) (hL:bR (aA pg n f b ev)=L) :
  Calls prog 44 #[eQ pg n f b ev] w fun e w'=>∃(A':Option Addr) (cap':Nat),e= .returned (.slice A' L.length cap')∧RI w' w'.heap.size A' L∧Below w.heap.size w w':=by
 have hb0:=aV w (.cells (bf pg n f b ev) 25);have k0:=ag.new w 25 (bf pg n f b ev);have c0:=k0.cell;have HS:=ae (fun W=>Ey pg n f b ev true W hp _ (Sb hp));have HP:=ae (fun A cap W h1 h2=>JK A (aA pg n f b ev).length cap (aA pg n f b ev) W rfl h1 h2 (bL hp) L hL);clear hp hL;generalize aA pg n f b ev=G at *;go_enter func44,ntmps44
 go_wp2_with (first
  | (go_at_call 112;refine (HS.out _).mono ?_;rintro e w1 ⟨A,cap,rfl,gG,h1,h2,h3,hq⟩)
  | (go_at_call 111;refine (HP.out _ _ _ (Nat.le_trans h1 h2) gG).mono ?_;rintro e w2 ⟨A2,cap2,rfl,tX,hq2⟩))
 go_ret;have hb1:=hb0.trans (hq.mono hb0.size);exact ⟨A2,cap2,rfl,tX,hb1.trans (hq2.mono hb1.size)⟩
theorem yV (pg n f b ev i:Int) (w:World) (R:Int×Int) (hR:(if bN pg n f b ev=0 then lu (aA pg n f b ev) i else (0,bN pg n f b ev))=R) :
  Calls prog 13 #[eQ pg n f b ev,.int .i64 i] w fun e w'=>e= .returned (.tuple #[.int .i64 R.1,.int .i64 R.2])∧Below w.heap.size w w':=by
 have HC:=ae (fun W=>oh pg n f b ev W);have hb0:=aV w (.cells (bf pg n f b ev) 25);have k0:=ag.new w 25 (bf pg n f b ev);have c0:=k0.cell;by_cases hc:bN pg n f b ev=0
 ·have hp:=bU.1 hc
  rw [if_pos hc,qf _ _ (fun x hx=>(av.1 ((bL hp).1 x hx)).2.2.1)] at hR;rw [hc] at HC;have HU:=ae (fun W=>tu pg n f b ev W hp _ rfl);have hsum:=jq (aA pg n f b ev) (fun x hx=>by have:=(av.1 ((bL hp).1 x hx)).2.2.1;omega);have hsb:=iA (aA pg n f b ev) (bL hp).1;have hl:=(bL hp).len;generalize bR (aA pg n f b ev)=L at *;generalize ZG:L.length=LL at *;rw [←hsum] at hsb;clear hsum hp hc;by_cases h1:i<0
  ·have h1':decide (i<0)=true:=by simpa using h1
   have hE:Hid (R=(0,7)):=ae (by rw [←hR,vI,if_pos (.inl h1)]);clear hR h1;go_enter func13,ntmps13
   go_wp2_with (first
    | (go_at_call 43;refine (HC.out _).mono ?_;rintro e w1 ⟨rfl,hq⟩;have k1:=k0.call hq;have c1:=k1.cell)
    | (go_at_call 44;refine (HU.out _).mono ?_;rintro e w2 ⟨A2,cap2,rfl,tX,hq2⟩))
   have hb1:=hb0.trans (hq.mono hb0.size);have hb2:=hb1.trans (hq2.mono hb1.size);refine bodyPost_ret (v:=.tuple #[.int .i64 0,.int .i64 7]) (by simp [results,results13,go_sem]) rfl ⟨by rw [hE.out],hb2⟩
  ·have h1':decide (i<0)=false:=by simpa using h1
   by_cases h2:(LL:Int)≤i
   ·have h2':decide ((LL:Int)≤i)=true:=by simpa using h2
    have hE:Hid (R=(0,7)):=ae (by rw [←hR,vI,if_pos (.inr (by rw [ZG];exact h2))]);clear hR h1;go_enter func13,ntmps13
    go_wp2_with (first
     | (go_at_call 43;refine (HC.out _).mono ?_;rintro e w1 ⟨rfl,hq⟩;have k1:=k0.call hq;have c1:=k1.cell)
     | (go_at_call 44;refine (HU.out _).mono ?_;rintro e w2 ⟨A2,cap2,rfl,tX,hq2⟩))
    have hb1:=hb0.trans (hq.mono hb0.size);have hb2:=hb1.trans (hq2.mono hb1.size);refine bodyPost_ret (v:=.tuple #[.int .i64 0,.int .i64 7]) (by simp [results,results13,go_sem]) rfl ⟨by rw [hE.out],hb2⟩
   ·have h2':decide ((LL:Int)≤i)=false:=by simpa using h2
    have hE:Hid (R=(L.getD i.toNat 0,0)):=ae (by rw [←hR,vI,if_neg (by rw [ZG];omega)]);have hi:0≤i∧i<LL:=by omega
    clear hR;obtain ⟨y,hy⟩:=aj (L.getD i.toNat 0);rw [hy] at hE;have hy':=ae hy;clear hy;go_enter func13,ntmps13
    go_wp2_with (first
     | (go_at_call 43;refine (HC.out _).mono ?_;rintro e w1 ⟨rfl,hq⟩;have k1:=k0.call hq;have c1:=k1.cell)
     | (go_at_call 44;refine (HU.out _).mono ?_;rintro e w2 ⟨A2,cap2,rfl,tX,hq2⟩;obtain ⟨bb,oo,rfl,hbb,hcc⟩:=RI.at_ tX (k:=i.toNat) (by omega);rw [hy'.out] at hcc))
    have hb1:=hb0.trans (hq.mono hb0.size);have hb2:=hb1.trans (hq2.mono hb1.size);refine bodyPost_ret (v:=.tuple #[.int .i64 y,.int .i64 0]) (by simp [results,results13,go_sem]) rfl ⟨by rw [hE.out],hb2⟩
 ·rw [if_neg hc] at hR
  generalize bN pg n f b ev=er at *;have hc':(er != 0)=true:=by simpa using hc
  have hE:Hid (R=(0,er)):=ae hR.symm;clear hc hR;go_enter func13,ntmps13
  go_wp2_with (go_at_call 43;refine (HC.out _).mono ?_;rintro e w1 ⟨rfl,hq⟩)
  refine bodyPost_ret (v:=.tuple #[.int .i64 0,.int .i64 er]) (by simp [results,results13,go_sem]) rfl ⟨by rw [hE.out],hb0.trans (hq.mono hb0.size)⟩
theorem MI (b n:Nat) (l:Int) (L:List Nd) (w:World) (hB:bA w b L) (hO:bg L) (hn:n<L.length) :
  Calls prog 46 #[.pointer (some ⟨b,0,none⟩),.int .i64 n,.int .i64 l] w fun e w'=>e= .returned (.int .i64 (jT L n l).1)∧L9 b (jT L n l).2 w w':=by
 have HK:=ae (yx b n L w hB hO.ch hn);have hb1:=aV w (.cells #[.int .i64 n] 3);have hB1:=hB.call hb1;have HO:=ae (fun W=>kQ l 4096 W);obtain ⟨R,hR⟩:=aj (jT L n l);rw [hR];have hR':=ae hR;unfold jT at hR';obtain ⟨w1,hw1⟩:=aj (w.alloc (.cells #[.int .i64 n] 3));rw [hw1] at HK hb1 hB1;have hB':=ae hB1;by_cases h1:l<0∨4096<l
 ·have hR2:Hid (R=(7,L)):=ae (by rw [←hR'.out,if_pos h1])
  rw [decide_eq_true h1] at HO;clear hR hR' h1 hB hB1;go_enter func46,ntmps46
  go_wp2_with (first|(go_at_call 76;refine HK.out.mono ?_;rintro e w2 ⟨rfl,hw2⟩;replace hw2:=hw2.symm;subst hw2)|(go_at_call 48;refine (HO.out _).mono ?_;rintro e w2 ⟨rfl,hw2⟩;replace hw2:=hw2.symm;subst hw2))
  go_ret;rw [hR2.out];exact ⟨rfl,hB'.out,af.of_below hb1⟩
 ·rw [decide_eq_false h1] at HO
  have hR2:=hR'.out;rw [if_neg h1] at hR2;have jH:=ae hR2;obtain ⟨g,cap,hc1,hc2,kb,hgN,hgl,hcell,hfz,hput⟩:=hB1.put hn;have c1:=hcell 1 _ rfl;have cb:=kb.cell;have hP:=ae (hput w1 (Below.refl _ _) 1 (.int .i64 l) (fun x:Nd=>{ x with lim:=l }) (by omega) rfl);have ma:=ae (ko.one (af.of_below hb1) hgN hP.out.2);have hnl:n<L.length:=hn;clear hcell hput hR hR' hR2 h1 hB hB1;generalize L.length=ml at *;go_enter func46,ntmps46
  go_wp2_with (first|(go_at_call 76;refine HK.out.mono ?_;rintro e w2 ⟨rfl,hw2⟩;replace hw2:=hw2.symm;subst hw2)|(go_at_call 48;refine (HO.out _).mono ?_;rintro e w2 ⟨rfl,hw2⟩;replace hw2:=hw2.symm;subst hw2))
  go_ret;rw [←jH.out];exact ⟨rfl,hP.out.1,ma.out⟩
theorem Wt (A:Option Addr) (n cap:Nat) (l:List Ru) (w:World) (hn:l.length=n) (hm:n≤1000) (hz:A=none→cap=0) (hr:Rd w w.heap.size A (fl iN l)) :
  Calls prog 17 #[.agg #[.slice A n cap]] w fun e w'=>((ic l).2≠0∧e= .returned (.tuple #[.pointer none,.int .i64 (ic l).2])∨(ic l).2=0∧∃b,e= .returned (.tuple #[.pointer (some ⟨b,0,none⟩),.int .i64 0])∧aD w' b (uU lg l)∧w.heap.size≤b)∧Below w.heap.size w w':=by
 have hb0:=aV w (.cells #[.slice A n cap] 28);have k0:=ag.new w 28 #[.slice A n cap];have c0:=k0.cell;have hr0:=hr.fw hb0;have HS:=ae (fun W h=>FY A n cap l W hn hm hz h);have hln:=ae hn;clear hn hr;go_enter func17,ntmps17;go_wp2_with fail;refine (HS.out _ hr0).mono ?_;rintro e w1 hS;rcases hS with ⟨h0,rfl,hb1⟩|⟨h0,v,rfl,hv⟩
 ·have B1:=hb0.trans (hb1.mono hb0.size)
  have MJ:=ae h0;have d0:((ic l).2 != 0)=true:=by simpa using h0
  have hB2:=B1.alloc B1.size (.cells (aM (.slice none 0 0) (fun _=>0) (fun _=>0)).toArray 69);clear h0;unfold aM at hB2;unfold gK aM;go_wp2_with fail;go_ret2;exact ⟨.inl ⟨MJ.out,rfl⟩,hB2⟩
 obtain ⟨A,cap,rfl,v1,v2,v3,v4,v5,hb1⟩:=hv;have MJ:=ae h0;obtain ⟨ln,UT⟩:=aj (l.length);rw [UT] at v2;simp only [UT];have ajq:=ae UT;have v1H:=ae v1;have v5H:=ae v5;have B1:=hb0.trans (hb1.mono hb0.size);have hB2:=B1.alloc B1.size (.cells (aM (.slice A ln cap) (fun _=>0) (fun _=>0)).toArray 69);have hb2:=aV w1 (.cells (aM (.slice A ln cap) (fun _=>0) (fun _=>0)).toArray 69);have hzs:=zeroCells71_size;have hzz:=NQ;obtain ⟨zc,hzc⟩:=aj (zeroCells71);rw [hzc] at hzs hzz;have hne:¬zc=#[]:=fun e=>by rw [e] at hzs;simp at hzs
 have hC:=ae (Uk hzz (.slice A ln cap));have kz:=ag.new w1 69 (aM (.slice A ln cap) (fun _=>0) (fun _=>0)).toArray;clear hzz c0 k0 v1 HS v5 h0 UT;unfold aM at hB2 kz hb2;unfold gK aM;go_upto_region 4 with fail
 generalize w1.alloc _=w2 at *;have cz:=kz.cell;have hB3:=hB2.alloc hB2.size (.cells (jr (jr zc 0 [.bool true]) 67585 (aM (.slice A ln cap) (fun _=>0) (fun _=>0))) 71);have hb3:=aV w2 (.cells (jr (jr zc 0 [.bool true]) 67585 (aM (.slice A ln cap) (fun _=>0) (fun _=>0))) 71);have kS:=ag.new w2 71 (jr (jr zc 0 [.bool true]) 67585 (aM (.slice A ln cap) (fun _=>0) (fun _=>0)));have hbs:=hB2.size;go_wp2_with fail;go_ret2;refine ⟨.inr ⟨MJ.out,w2.heap.size,rfl,?_,hbs⟩,hB3⟩;have e:=KW l MJ.out;rw [e];have hr2:=((v1H.out.fw hb2).fw hb3);refine ⟨_,A,ln,cap,kS,hC.out.congr rfl rfl rfl,ajq.out,hr2,v5H.out.1,fun g o e h=>?_,KT MJ.out,fun g o e h=>?_⟩
 ·have:=v4 g o e
  obtain ⟨cr,hcr⟩:=v5H.out.2 g o e h;have:=(hcr.call hb2).lt;omega
 ·obtain ⟨cr,hcr⟩:=v5H.out.2 g o e h
  exact ⟨cr,(hcr.call hb2).call hb3⟩
theorem abI:(prog.info? 122).map (fun i=>(i.zero,i.size,i.bytes))=some (some (.agg #[.int .i64 0,.int .i64 0,.int .i64 0,.int .i64 0,.bool false,.int .i64 0]),6,48):=by kernel_rfl
theorem JN:∃i0,prog.info? 122=some i0∧i0.zero=some (.agg #[.int .i64 0,.int .i64 0,.int .i64 0,.int .i64 0,.bool false,.int .i64 0])∧i0.size=6∧i0.bytes=48:=by
 obtain ⟨i0,h⟩:=info_parts abI;exact ⟨i0,h⟩
theorem Ii:∀args w,(callFunc 108 args).run prog w= .ok (.enter 108 args) w:=enters_of func108 (by kernel_rfl) rfl
theorem Ph (a b c d f:Int) (cl:Bool) (w:World):Calls prog 108 #[.agg #[.int .i64 a,.int .i64 b,.int .i64 c,.int .i64 d,.bool cl,.int .i64 f]] w fun e w'=>e= .returned (.bool cl)∧Below w.heap.size w w':=by
 have hb0:=aV w (.cells #[.int .i64 a,.int .i64 b,.int .i64 c,.int .i64 d,.bool cl,.int .i64 f] 122);have k0:=ag.new w 122 #[.int .i64 a,.int .i64 b,.int .i64 c,.int .i64 d,.bool cl,.int .i64 f];have c0:=k0.cell;go_enter func108,ntmps108;go_wp2_with fail;go_ret;exact ⟨rfl,hb0⟩
theorem MK (g cap:Nat) (a b c d f:Int) (w:World) (c0:∀(q:Nat) (v:Value),[Value.int .i64 a,.int .i64 b,.int .i64 c,.int .i64 d,.bool false,.int .i64 f][q]? = some v→w.cell? ⟨g,q,none⟩=some v) :
  Calls prog 107 #[.slice (some ⟨g,0,none⟩) 1 cap,.func (.func 108) #[] #[]] w fun e w'=>e= .returned (.int .i64 (-1))∧Below w.heap.size w w':=by
 have q0:=c0 0 _ rfl;have q1:=c0 1 _ rfl;have q2:=c0 2 _ rfl;have q3:=c0 3 _ rfl;have q4:=c0 4 _ rfl;have q5:=c0 5 _ rfl;have HC:=ae (fun W=>Ph a b c d f false W);clear c0;have eg:=Ii;go_enter func107,ntmps107;go_wp2_with fail
 go_loopw [8] (fun u wr=>(u= .int .i64 0∧wr=w)∨(u= .int .i64 1∧Below w.heap.size w wr)) (fun u _=>2 - (intOf u).toNat)
 case atStart=>exact .inl ⟨rfl,rfl⟩
 case round =>
  rcases hrel with ⟨rfl,rfl⟩|⟨rfl,hB⟩
  ·go_wp2_with fail
   refine (HC.out _).mono ?_;rintro e w1 ⟨rfl,hb1⟩;go_wp2_with fail;go_roundw
   case rel=>exact .inr ⟨rfl,hb1⟩
   case measure=>decide
  ·go_wp2_with fail
   go_ret;exact ⟨rfl,hB⟩
theorem ZH {w:World} {base:Nat} {e:TypeId} {v:Value} {xs:List Value} (h:w.ownsRow base e 6 v (1+1) xs) :
  ∃g cap,v= .slice (some ⟨g,0,none⟩) 2 cap∧base≤g∧2≤cap∧cap≤maxLen∧∃cs,ag w g e cs:=by
 rcases h.2 with ⟨_,hn⟩|⟨g,cap,cur,hv,hb,hk,hc,hm,_,_⟩
 ·omega
 ·exact ⟨g,cap,hv,hb,hc,hm,cur,hk⟩
theorem Sy (b:Nat) (m lim:Int) (w:World) (hB:bA w b (fo m)) (hm:0≤m∧m≤4096) :
  Calls prog 42 #[.pointer (some ⟨b,0,none⟩),.int .i64 0,.int .i64 lim] w fun e w'=>(∃k:Int,e= .returned (.tuple #[.int .i64 k,.int .i64 (fF (fo m) lim).1])∧((fF (fo m) lim).1=0→k=1))∧bA w' b (fF (fo m) lim).2∧af (fun k=>k=b∨ko b w k) w w':=by
 obtain ⟨i0,hi0,hi1,hi2,hi3⟩:=JN;have HK:=ae (yx b 0 (fo m) w hB (yw hm).ch Nat.zero_lt_one);have hb1:=aV w (.cells #[.int .i64 0] 3);have hB1:=hB.call hb1;have HO:=ae (fun W=>kQ lim 4096 W);obtain ⟨w1,hw1⟩:=aj (w.alloc (.cells #[.int .i64 0] 3));rw [show ((0:Nat):Int)=0 from rfl,hw1] at HK;rw [hw1] at hb1 hB1;unfold fF;by_cases h1:lim<0∨4096<lim
 ·rw [if_pos h1]
  rw [decide_eq_true h1] at HO;have pM:=ae hB1;clear h1 hB hB1;go_enter func42,ntmps42
  go_wp2_with (first|(go_at_call 76;refine HK.out.mono ?_;rintro e w2 ⟨rfl,hw2⟩;replace hw2:=hw2.symm;subst hw2)|(go_at_call 48;refine (HO.out _).mono ?_;rintro e w2 ⟨rfl,hw2⟩;replace hw2:=hw2.symm;subst hw2))
  go_ret2;exact ⟨⟨0,rfl,fun h=>absurd h (by decide)⟩,pM.out,af.of_below hb1⟩
 rw [if_neg h1];rw [decide_eq_false h1] at HO;obtain ⟨A,cap,k,r⟩:=hB1.ex;obtain ⟨g,cap2,hc1,hc2,kb,hgN,hgl,hcell,hfz⟩:=hB1.node (i:=0) Nat.zero_lt_one;have c0:∀(q:Nat) (v:Value),[Value.int .i64 (-1),.int .i64 m,.int .i64 0,.int .i64 0,.bool false,.int .i64 0][q]? = some v→w1.cell? ⟨g,q,none⟩=some v:=fun q v hv=>by
  have:=hcell 0 Nat.zero_lt_one q v hv
  rwa [Nat.zero_mul,Nat.zero_add] at this
 have HI:=ae (fun W (h:Below w1.heap.size w1 W)=>MK g cap2 (-1) m 0 0 0 W (fun q v hv=>(h.cell (block_lt_of_cell (c0 q v hv))).trans (c0 q v hv)));have rH:=ae r;have hbg:b≠g:=fun e=>by subst e;obtain ⟨_,cs,hc⟩:=hgN;exact ag.uR kb hc (by decide) rfl
 have eA:A=some ⟨g,0,none⟩∧cap=cap2:=by
  have:=k.cell 1;rw [kb.cell] at this;simpa using this.symm
 obtain ⟨rfl,rfl⟩:=eA;have cb:=kb.cell;have hlen:(fo m).length=1:=rfl;rw [hlen] at cb;clear hcell k r hB hB1 h1 c0 hlen;go_enter func42,ntmps42
 go_wp2_with (first|(go_at_call 76;refine HK.out.mono ?_;rintro e w2 ⟨rfl,hw2⟩;replace hw2:=hw2.symm;subst hw2)|(go_at_call 48;refine (HO.out _).mono ?_;rintro e w2 ⟨rfl,hw2⟩;replace hw2:=hw2.symm;subst hw2))
 refine (HI.out w1 (Below.refl _ _)).mono ?_;rintro e w2 ⟨rfl,hb2⟩;have vT:ag w1 b 75 #[.bool true,.slice (some ⟨g,0,none⟩) 1 cap]:=kb;have pJ:=vT.call hb2;have cb2:=pJ.cell;have fb2:=pJ.frozen;have KE:w1.ownsRow (b - 1) 122 6 (.slice (some ⟨g,0,none⟩) 1 cap) 1 [.int .i64 (-1),.int .i64 m,.int .i64 0,.int .i64 0,.bool false,.int .i64 0]:=rH.out;have adp:=ae (aB KE hb2);clear KE;have hsz2:=hb2.size;have hbl:=pJ.lt;have kN:=ag.new w2 122 #[.int .i64 0,.int .i64 0,.int .i64 0,.int .i64 0,.bool false,.int .i64 0];clear cb kb vT;go_upto_region 8 with fail
 go_upto_region 12 with (at_builtin;refine wpList_append_own _ rfl (.tmp 33) (.tmp 35) 73 rfl (b - 1) 122 i0 (.agg #[.int .i64 0,.int .i64 0,.int .i64 0,.int .i64 0,.bool false,.int .i64 0]) 6 48 underlying73 hi0 hi1 hi2 hi3 rfl (by decide) (.slice (some ⟨g,0,none⟩) 1 cap) 1 [.int .i64 (-1),.int .i64 m,.int .i64 0,.int .i64 0,.bool false,.int .i64 0] rfl (adp.out.alloc _) ⟨w2.heap.size,0,none⟩ 1 1 [.int .i64 0,.int .i64 0,.int .i64 0,.int .i64 0,.bool false,.int .i64 0] rfl rfl (fun j u hu=>by
   rw [dh,Nat.zero_add,kN.cell];simpa using hu) (fun u hu=>by simp only [List.mem_cons,List.not_mem_nil,or_false] at hu;rcases hu with rfl|rfl|rfl|rfl|rfl|rfl <;> rfl) (by unfold maxLen;omega) (by omega) (by simp;omega) ?_;intro v' w3 hown' hgrow _;obtain ⟨g',cap',rfl,anW,hc2',hcm',cs',hcs'⟩:=ZH hown';have qI:=(pJ.alloc (.cells #[.int .i64 0,.int .i64 0,.int .i64 0,.int .i64 0,.bool false,.int .i64 0] 122)).grown hgrow (fun e=>hbg (by simpa [Value.ownBlock] using e));have cb3:=qI.cell;have fb3:=qI.frozen)
 have F4:af (fun k=>k=b) w3 (w3.setCell ⟨b,1,none⟩ (.slice (some ⟨g',0,none⟩) 2 cap')):=af.setCell (T:=fun k=>k=b) (p:=⟨b,1,none⟩) (af.refl _ w3) (fun _=>rfl) _;have Wu:=qI.aO 1 (.slice (some ⟨g',0,none⟩) 2 cap');have hne:g'≠b:=fun e=>by subst e;exact ag.uR hcs' qI (by decide) rfl
 have Cb:=aK hown' F4 (fun q hq e=>by
  have hq:some g'=some q:=hq;have e:q=b:=e;subst e;exact hne (Option.some.inj hq))
 have kg4:=F4.blk hcs' hne;have FA:af (fun k=>k=b∨ko b w k) w w3:=((af.of_below (hb1.trans (hb2.mono hb1.size))).alloc _).grown hgrow (fun q hq hlt=>by
  have hq:some g=some q:=hq;cases hq;exact .inr (ko.back (af.of_below hb1) hlt hgN))
 have FB:=FA.trans (F4.mono (fun _ _ h=>.inl h));generalize w3.setCell ⟨b,1,none⟩ (.slice (some ⟨g',0,none⟩) 2 cap')=w4 at *;simp only [List.setIfInBounds_toArray,List.set_cons_zero,List.set_cons_succ] at Wu;clear pJ qI cb2 fb2 cb3 fb3 F4 FA hown' hcs' hgrow adp kN HI HK HO;have cb4:=Wu.cell;have fg4:=kg4.frozen;have cg4:=Cb.cells (g:=g') rfl;have q6:w4.cell? ⟨g',6,none⟩=some (.int .i64 0):=by have:=cg4 6 _ rfl;rwa [dh,Nat.zero_add] at this
 have q7:w4.cell? ⟨g',7,none⟩=some (.int .i64 0):=by have:=cg4 7 _ rfl;rwa [dh,Nat.zero_add] at this
 have q8:w4.cell? ⟨g',8,none⟩=some (.int .i64 0):=by have:=cg4 8 _ rfl;rwa [dh,Nat.zero_add] at this
 have q9:w4.cell? ⟨g',9,none⟩=some (.int .i64 0):=by have:=cg4 9 _ rfl;rwa [dh,Nat.zero_add] at this
 have q10:w4.cell? ⟨g',10,none⟩=some (.bool false):=by have:=cg4 10 _ rfl;rwa [dh,Nat.zero_add] at this
 have q11:w4.cell? ⟨g',11,none⟩=some (.int .i64 0):=by have:=cg4 11 _ rfl;rwa [dh,Nat.zero_add] at this
 clear cg4;go_wp2_with fail;go_ret2;have F5:af (fun k=>k=g') w4 ((((((w4.setCell ⟨g',6,none⟩ (.int .i64 0)).setCell ⟨g',7,none⟩ (.int .i64 lim)).setCell ⟨g',8,none⟩ (.int .i64 0)).setCell ⟨g',9,none⟩ (.int .i64 0)).setCell ⟨g',10,none⟩ (.bool false)).setCell ⟨g',11,none⟩ (.int .i64 0)) :=
  ((((((af.refl (fun k=>k=g') w4).setCell (p:=⟨g',6,none⟩) (fun _=>rfl) _).setCell (p:=⟨g',7,none⟩) (fun _=>rfl) _).setCell (p:=⟨g',8,none⟩) (fun _=>rfl) _).setCell (p:=⟨g',9,none⟩) (fun _=>rfl) _).setCell (p:=⟨g',10,none⟩) (fun _=>rfl) _).setCell (p:=⟨g',11,none⟩) (fun _=>rfl) _
 have r5:=gX (i:=11) (v:=.int .i64 0) (gX (i:=10) (v:=.bool false) (gX (i:=9) (v:=.int .i64 0) (gX (i:=8) (v:=.int .i64 0) (gX (i:=7) (v:=.int .i64 lim) (gX (i:=6) (v:=.int .i64 0) Cb)))));have kb5:=F5.blk Wu (fun e=>hne e.symm);generalize (((((w4.setCell ⟨g',6,none⟩ (.int .i64 0)).setCell ⟨g',7,none⟩ (.int .i64 lim)).setCell ⟨g',8,none⟩ (.int .i64 0)).setCell ⟨g',9,none⟩ (.int .i64 0)).setCell ⟨g',10,none⟩ (.bool false)).setCell ⟨g',11,none⟩ (.int .i64 0)=w5 at *;refine ⟨⟨1,rfl,fun _=>rfl⟩,⟨some ⟨g',0,none⟩,cap',kb5,r5⟩,FB.trans' F5 (fun i hi e=>?_)⟩;by_cases h0:i=b∨ko b w i
 ·exact h0
 ·have e:i=g':=e
  exact .inr ⟨by omega,_,(FB.block i hi h0).symm.trans (e ▸ kg4)⟩
open Go.ChangeShapes Go.WideShapes Go.Deep
theorem Wv:∃f0 f1 f2 f3:Field,prog.underlying 164=some (.struct #[f0,f1,f2,f3])∧oneCellFields prog #[f0,f1,f2,f3]=true∧f0.type=3∧f1.type=3∧f2.type=3∧f3.type=3:=⟨_,_,_,_,underlying164,by kernel_rfl,rfl,rfl,rfl,rfl⟩
theorem Ww:prog.cellsOf 26=1:=by kernel_rfl
theorem Pk:prog.cellsOf 28=1:=by kernel_rfl
theorem Wx:prog.cellsOf 31=8:=by kernel_rfl
theorem Wy:prog.cellsOf 29=1:=by kernel_rfl
theorem Wz:∃f0 f1:Field,prog.underlying 51=some (.struct #[f0,f1])∧oneCellFields prog #[f0,f1]=true∧f0.type=5∧f1.type=3:=⟨_,_,underlying51,by kernel_rfl,rfl,rfl⟩
section
variable {H:Type} {enc:TypeId×Value→H} {w:World} {base b0:Nat} {held:Bool} {r:Reach} {v:Value} {d:DataW H} {p:List MemPlace}
theorem WC (hv:Value.okWide prog w r b0 31 v) (h:DataW.Trod enc prog w base (fun _=>true) held 31 v d p) :
  ∃(A1 A2:Option Addr) (n1 c1 n2 c2:Nat) (pg n f bk ev lim:Int) (l:List Ru) (us:List (Int×Int)),v= .agg #[.int .i64 pg,.int .i64 n,.int .i64 f,.int .i64 bk,.int .i64 ev,.int .i64 lim,.slice A1 n1 c1,.slice A2 n2 c2] ∧
   l.length=n1∧Rd w w.heap.size A1 (fl iN l)∧(A1=none→c1=0)∧us.length=n2∧n2≤maxLen∧Rd w w.heap.size A2 (fl acC us)∧(∀x∈us,0≤x.1∧x.1≤255∧-9223372036854775808≤x.2∧x.2≤9223372036854775807)∧-9223372036854775808≤lim∧lim≤9223372036854775807:=by
 obtain ⟨r0,r1,r2,r3,gG,afI,rt0,rt1,rt2,rt3⟩:=Wv;obtain ⟨f0,f1,hs,hone,t0,t1⟩:=Wz;obtain ⟨cs,rfl,hsz⟩:=okWide_struct underlying31 hv;obtain ⟨l⟩:=cs;obtain ⟨fuel,hf⟩:=h;obtain ⟨xs,m,_,hx,hl,hlen,hg⟩:=DataW.trod_struct underlying31 hf;rw [Wx] at hsz
 match l,hsz with
 | [c0,c1,c2,c3,c4,c5,c6,c7],_ =>
  have g0:DataW.trod enc prog w base (fun _=>true) held m 25 [c0,c1,c2,c3,c4]=xs[0]? := by have:=hg 0 _ rfl;simpa [Value.cells,sQ] using this
  have g1:DataW.trod enc prog w base (fun _=>true) held m 3 [c5]=xs[1]? := by have:=hg 1 _ rfl;simpa [Value.cells,sQ,intCells] using this
  have g2:DataW.trod enc prog w base (fun _=>true) held m 28 [c6]=xs[2]? := by have:=hg 2 _ rfl;simpa [Value.cells,sQ,intCells,Pk] using this
  have g3:DataW.trod enc prog w base (fun _=>true) held m 29 [c7]=xs[3]? := by have:=hg 3 _ rfl;simpa [Value.cells,sQ,intCells,Pk,Wy] using this
  match xs,hlen with
  | [y0,y1,y2,y3],_ =>
   obtain ⟨pg,n,f,b,ev,e0⟩:=abz (g0.trans rfl);obtain ⟨n1,e1,_,w1⟩:=DataW.trod_int underlying3 (g1.trans rfl);have g2':DataW.trod enc prog w base (fun _=>true) held m 28 [c6]=some y2:=g2.trans rfl;obtain ⟨zs,m2,_,hx2,hl2,afJ,hg2⟩:=DataW.trod_struct underlying28 g2';have g4:DataW.trod enc prog w base (fun _=>true) held m2 26 [c6]=zs[0]? := by have:=hg2 0 _ rfl;simpa [Value.cells,Ww] using this
   match zs,afJ with
   | [z0],_ =>
    obtain ⟨A4,n4,k4,L,rfl,u1,u2,u3,u4⟩:=afG underlying26 gG afI (by kernel_rfl) (by rw [rt0];exact underlying3) (by rw [rt1];exact underlying3) (by rw [rt2];exact underlying3) (by rw [rt3];exact underlying3) (g4.trans rfl);obtain ⟨A5,n5,k5,U,rfl,q1,q2,q3,q4⟩:=afH underlying29 hs hone (by kernel_rfl) (by rw [t0];exact underlying5) (by rw [t1];exact underlying3) (g3.trans rfl);simp only [List.cons.injEq,and_true] at e0 e1;obtain ⟨rfl,rfl,rfl,rfl,rfl⟩:=e0;subst e1;have hw : -9223372036854775808≤n1∧n1≤9223372036854775807:=by
     simp [Lit.wf,IntKind.min,IntKind.max,IntKind.signed,IntKind.bits] at w1;omega
    exact ⟨A4,A5,n4,k4,n5,k5,pg,n,f,b,ev,n1,L,U,rfl,u1,u3,u4,q1,q2,q3,q4,hw.1,hw.2⟩
end
end Go.Proofs.YtjmmgoijnhnnaaaGreat
