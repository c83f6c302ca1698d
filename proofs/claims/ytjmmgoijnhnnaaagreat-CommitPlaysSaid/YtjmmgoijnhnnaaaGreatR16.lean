/- Texts: GWalkM, QWalkZE, QWalkZF, RWalkB, RSpecA, RWalkC, RWalkD, RWalkE, RWalkF, RWalkG. -/
import Derived.Test.YtjmmgoijnhnnaaaGreatR15
set_option maxRecDepth 100000
set_option maxHeartbeats 12800000
namespace Go.Pol
open Go Go.RowKit Go.Proofs.Tryz
def PU (B b:Nat) (r:List Sp×Int×Vm) (w:World) (e:Ending) (w':World):Prop :=
 ∃(A:Option Addr) (cap:Nat),e= .returned (.tuple #[.slice A r.1.length cap,.int .i64 r.2.1])∧RU w' w'.heap.size A r.1∧(∀g o,A=some ⟨g,o,none⟩→w.heap.size≤g)∧r.1.length≤maxLen∧bq w' B b r.2.2∧af (fun k=>k=b) w w'
theorem Z5 {w:World} {base:Nat} {e:TypeId} {a b:Value} (hb:base≤w.heap.size):(w.alloc (.cells #[a,b] e)).ownsRow base e 2 (.slice (some ⟨w.heap.size,0,none⟩) 1 1) 1 [a,b] :=
 ⟨rfl,.inr ⟨w.heap.size,1,#[a,b],rfl,hb,heap_alloc_new w _,Nat.le_refl _,by unfold maxLen;omega,rfl,rfl⟩⟩
structure oq (L:List Nd):Prop where
 ch:jE L
 own:∀x∈L,0≤x.own
 all:∀i,i<L.length→(L.getD i nd0).all=ig (L.drop i)
 top:ig L≤1000000
theorem bg.sum {L:List Nd} (h:bg L):oq L:=by
 refine ⟨⟨h.pos,h.few,h.chain⟩,h.own,h.all,?_⟩;have h1:=h.all 0 h.pos;have h2:=h.get h.pos;rw [List.drop_zero] at h1;omega
theorem oq.U0 {L:List Nd} (h:oq L) {n:Nat} (hn:n<L.length):0≤(L.getD n nd0).all∧(L.getD n nd0).all≤1000000:=by
 have h1:=h.top;have e:=List.take_append_drop n L;rw [←e,rG] at h1;have h2:=rR (L:=L.take n) (fun x hx=>h.own x (List.mem_of_mem_take hx));have h3:=rR (L:=L.drop n) (fun x hx=>h.own x (List.mem_of_mem_drop hx));rw [h.all n hn];omega
def qc (L:List Nd) (n i:Nat):Nat:=((ji n).take i).foldl (fun b p=>if bQ L p<bQ L b then p else b) n
theorem Tk (n:Nat):(ji n).length=n+1:=by simp [ji]
theorem WR (n:Nat) {i:Nat} (hi:i<n+1):(ji n)[i]? = some (n - i):=by
 unfold ji;rw [List.getElem?_reverse (by simpa using hi)];simp only [List.length_range];rw [List.getElem?_range (by omega)];congr 1
theorem MP (L:List Nd) (n:Nat) {i:Nat} (hi:i<n+1):qc L n (i+1)=if bQ L (n - i)<bQ L (qc L n i) then n - i else qc L n i:=by
 unfold qc;rw [List.take_add_one,WR n hi,Option.toList_some,List.foldl_append];rfl
theorem PV (L:List Nd) (n:Nat):qc L n (n+1)=jI L n:=by
 unfold qc jI;rw [List.take_of_length_le (by rw [Tk];exact Nat.le_refl _)]
def xB (x:Nd):Nd:={ x with iZ:=max x.iZ x.all }
def xC (L:List Nd) (n:Nat) (p:Int):List Nd:=L.mapIdx fun i x=>{ x with own:=if i=n then x.own+p else x.own,all:=if i≤n then x.all+p else x.all }
theorem IJ (L:List Nd) (n:Nat) (p:Int):(xC L n p).length=L.length:=by simp [xC]
theorem DR (L:List Nd) (n:Nat) (p:Int) (i:Nat):(xC L n p)[i]? = (L[i]?).map fun x=>{ x with own:=if i=n then x.own+p else x.own,all:=if i≤n then x.all+p else x.all }:=by unfold xC;rw [List.getElem?_mapIdx]
def qK (L:List Nd) (i:Nat):List Nd:=(L.take i).map xB++L.drop i
theorem mQ (L:List Nd) (i:Nat):(qK L i).length=L.length:=by
 unfold qK;rw [List.length_append,List.length_map,List.length_take,List.length_drop];omega
theorem WS (L:List Nd):qK L 0=L:=by simp [qK]
theorem Z9 (L:List Nd):qK L L.length=L.map xB:=by unfold qK;rw [List.take_length,List.drop_length,List.append_nil]
theorem IK (L:List Nd) {i j:Nat} (hj:j<L.length):(qK L i).getD j nd0=if j<i then xB (L.getD j nd0) else L.getD j nd0:=by
 have hg:L[j]? = some (L.getD j nd0):=by rw [List.getD_eq_getElem?_getD,List.getElem?_eq_getElem hj];rfl
 rw [List.getD_eq_getElem?_getD];unfold qK;by_cases h:j<i
 ·rw [if_pos h,List.getElem?_append_left (by rw [List.length_map,List.length_take];omega),List.getElem?_map,List.getElem?_take_of_lt h,hg]
  rfl
 ·rw [if_neg h,List.getElem?_append_right (by rw [List.length_map,List.length_take];omega),List.length_map,List.length_take,List.getElem?_drop,show i+(j - min i L.length)=j by omega,hg]
  rfl
theorem K4 {A B:List Nd} (hl:A.length=B.length) (h:∀i,i<A.length→A.getD i nd0=B.getD i nd0):A=B:=by
 apply List.ext_getElem?;intro i;by_cases hi:i<A.length
 ·have:=h i hi
  rw [List.getD_eq_getElem?_getD,List.getD_eq_getElem?_getD,List.getElem?_eq_getElem hi,List.getElem?_eq_getElem (by omega)] at this;rw [List.getElem?_eq_getElem hi,List.getElem?_eq_getElem (by omega)];exact congrArg some this
 ·rw [List.getElem?_eq_none (by omega),List.getElem?_eq_none (by omega)]
theorem WT (L:List Nd) {i:Nat} (_hi:i<L.length):qK L (i+1)=(qK L i).modify i xB:=by
 refine K4 (by rw [List.length_modify,mQ,mQ]) (fun j hj=>?_);rw [mQ] at hj;rw [IK L hj,List.getD_eq_getElem?_getD (l:=List.modify _ _ _),gW];have hg:(qK L i)[j]? = some ((qK L i).getD j nd0):=by rw [List.getD_eq_getElem?_getD,List.getElem?_eq_getElem (by rw [mQ];exact hj)];rfl
 rw [hg,IK L hj];by_cases h:i=j
 ·subst h
  rw [if_pos (by omega),if_pos rfl,if_neg (by omega)];rfl
 ·rw [if_neg h]
  by_cases h2:j<i
  ·rw [if_pos (by omega),if_pos h2];rfl
  ·rw [if_neg (by omega),if_neg h2];rfl
theorem uP {A B:List Nd} (h:A.map Nd.own=B.map Nd.own):ig A=ig B:=by
 induction A generalizing B with
 | nil =>
  match B,h with
  | [],_=>rfl
 | cons x r ih =>
  match B,h with
  | y::s,h =>
   simp only [List.map_cons,List.cons.injEq] at h;rw [ig,ig,h.1,ih h.2]
theorem IL (L:List Nd) (i:Nat):(qK L i).map Nd.own=L.map Nd.own:=by
 unfold qK;rw [List.map_append,List.map_map,show (Nd.own∘xB)=Nd.own from rfl,←List.map_append,List.take_append_drop]
theorem oq.pk {L:List Nd} (h:oq L) (i:Nat):oq (qK L i):=by
 have hg:∀j,j<L.length→((qK L i).getD j nd0).cl=(L.getD j nd0).cl∧((qK L i).getD j nd0).par=(L.getD j nd0).par∧((qK L i).getD j nd0).own=(L.getD j nd0).own∧((qK L i).getD j nd0).all=(L.getD j nd0).all:=fun j hj=>by
  rw [IK L hj];split <;> exact ⟨rfl,rfl,rfl,rfl⟩
 refine ⟨⟨by rw [mQ];exact h.ch.pos,by rw [mQ];exact h.ch.few,fun j hj=>?_⟩,fun x hx=>?_,fun j hj=>?_,?_⟩
 ·rw [mQ] at hj
  rw [(hg j hj).1,(hg j hj).2.1];exact h.ch.chain j hj
 ·have:x.own∈(qK L i).map Nd.own:=List.mem_map.2 ⟨x,hx,rfl⟩
  rw [IL] at this;obtain ⟨y,hy,e⟩:=List.mem_map.1 this;rw [←e];exact h.own y hy
 ·rw [mQ] at hj
  rw [(hg j hj).2.2.2,h.all j hj];refine uP ?_;rw [List.map_drop,List.map_drop,IL]
 ·rw [uP (IL L i)];exact h.top
theorem U1 {L:List Nd} (hL:bg L) (n:Nat) (p:Int):(xC L n p).map xB=qQ (L.modify n fun x=>{ x with own:=x.own+p }) n p:=by
 refine K4 (by rw [List.length_map,IJ,zl,List.length_modify]) (fun i hi=>?_);rw [List.length_map,IJ] at hi;have hg:L[i]? = some (L.getD i nd0):=by rw [List.getD_eq_getElem?_getD,List.getElem?_eq_getElem hi];rfl
 have hp:=hL.get hi;generalize L.getD i nd0=x at *;have hA:((xC L n p).map xB)[i]? = some (xB { x with own:=if i=n then x.own+p else x.own,all:=if i≤n then x.all+p else x.all }):=by
  rw [List.getElem?_map,DR,hg];rfl
 have hB:(qQ (L.modify n fun x=>{ x with own:=x.own+p }) n p)[i]? = some (if i≤n then sG p (if n=i then { x with own:=x.own+p } else x) else x):=by
  rw [Oe,gW,hg];by_cases h1:i≤n
  ·rw [if_pos h1,if_pos h1]
   by_cases h2:n=i
   ·rw [if_pos h2,if_pos h2];rfl
   ·rw [if_neg h2,if_neg h2];rfl
  ·rw [if_neg h1,if_neg h1,if_neg (by omega)]
 rw [Cg hA,Cg hB];by_cases h1:i≤n
 ·rw [if_pos h1,if_pos h1]
  by_cases h2:n=i
  ·subst h2
   rw [if_pos rfl,if_pos rfl];rfl
  ·rw [if_neg h2,if_neg (fun e=>h2 e.symm)];rfl
 ·rw [if_neg h1,if_neg h1,if_neg (by omega)]
  unfold xB;simp only;rw [show max x.iZ x.all=x.iZ by omega]
theorem WU {L:List Nd} (hL:bg L) (n:Nat) {p:Int} (hp:0≤p):(xC L n (-p)).map iL=(qQ (L.modify n fun x=>{ x with own:=x.own - p }) n (-p)).map iL:=by
 have e:(L.modify n fun x=>{ x with own:=x.own - p })=(L.modify n fun x=>{ x with own:=x.own+(-p) }):=by
  congr 1
 rw [e,←U1 hL n (-p),List.map_map];refine List.ext_getElem? (fun i=>?_);rw [List.getElem?_map,List.getElem?_map,DR];cases hx:L[i]? with
 | none=>rfl
 | some x =>
  have hi:i<L.length:=(List.getElem?_eq_some_iff.1 hx).1;have hg:=hL.get hi;rw [List.getD_eq_getElem?_getD,hx] at hg;simp only [Option.getD_some] at hg;simp only [Option.map_some,Function.comp];congr 1;unfold iL xB;simp only;have:max x.iZ (if i≤n then x.all + -p else x.all)=x.iZ:=by split <;> omega
  rw [this]
def mR (N b:Nat) (L:List Nd) (w w':World):Prop:=eP w' N b L∧af (yZ N w) w w'
theorem mR.below {N b:Nat} {L:List Nd} {w w':World} (hB:eP w N b L) (h:Below w.heap.size w w'):mR N b L w w':=⟨hB.call h,af.of_below h⟩
theorem yZ.back {N:Nat} {w w':World} {T:Nat→Prop} (hF:af T w w') (hT:∀k,T k→yZ N w k) {k:Nat} (hk:k<w.heap.size) (h:yZ N w' k):yZ N w k∨¬T k∧yZ N w k:=by
 by_cases ht:T k
 ·exact .inl (hT k ht)
 ·obtain ⟨h1,cs,h2⟩:=h
  refine .inr ⟨ht,h1,cs,?_⟩;have:=hF.block k hk ht;unfold ag at h2 ⊢;rw [←this];exact h2
theorem mR.trans {N b:Nat} {L L1:List Nd} {w w1 w2:World} (h:mR N b L1 w w1) (k:mR N b L w1 w2):mR N b L w w2 :=
 ⟨k.1,h.2.trans' k.2 (fun i hi ht=>by
  rcases yZ.back h.2 (fun _ h=>h) hi ht with h|h
  ·exact h
  ·exact h.2)⟩
theorem eP.same {w:World} {N b:Nat} {L M:List Nd} (h:eP w N b L) (e:L.map iL=M.map iL):eP w N b M:=by
 have hl:L.length=M.length:=by have:=congrArg List.length e;simpa using this
 obtain ⟨A,cap,k,r⟩:=h.ex;refine ⟨A,cap,by rw [←hl];exact k,?_⟩;have hf:fl iL M=fl iL L:=by unfold fl;rw [List.flatMap_def,List.flatMap_def,e]
 rw [hf,←hl];exact r
theorem eP.put {w:World} {N b:Nat} {L:List Nd} (h:eP w N b L) {i:Nat} (hi:i<L.length) :
  ∃(g cap:Nat),L.length≤cap∧cap≤maxLen∧ag w b 227 #[.slice (some ⟨g,0,none⟩) L.length cap]∧yZ N w g∧g<w.heap.size∧(∀(q:Nat) (v:Value),(iL (L.getD i nd0))[q]? = some v→w.cell? ⟨g,i*5+q,none⟩=some v) ∧
   ∀(w':World),Below w.heap.size w w'→(∀o,w'.frozen? ⟨g,o,none⟩=false)∧∀(q:Nat) (v:Value) (f:Nd→Nd),q<5→iL (f (L.getD i nd0))=(iL (L.getD i nd0)).set q v→mR N b (L.modify i f) w (w'.setCell ⟨g,i*5+q,none⟩ v):=by
 obtain ⟨A,cap,k,r⟩:=h.ex;rcases r.2 with ⟨hv,h0⟩|⟨g,cap',cur,hv,hbs,hk,hn,hm,_,ht⟩
 ·omega
 ·cases hv
  have hkg:ag w g 120 cur:=hk;refine ⟨g,cap,hn,hm,k,⟨hbs,cur,hk⟩,ag.lt hk,fun q v hq=>?_,fun w' hw'=>⟨fun o=>ag.frozen (hkg.call hw') o,fun q v f hq hf=>?_⟩⟩
  ·have rZ:q<5:=by rw [←tF (L.getD i nd0)];exact (List.getElem?_eq_some_iff.1 hq).1
   have h1:=yj tF nd0 L i hi q rZ;rw [hq] at h1;have:=r.cells (g:=g) rfl (i*5+q) v h1;rw [dh,Nat.zero_add] at this;exact this
  ·have r':=aB r hw'
   have k':=k.call hw';have hbg:b≠g:=fun e=>ag.uR k hkg (by decide) e
   have F:af (fun k=>k=g) w' (w'.setCell ⟨g,i*5+q,none⟩ v):=af.setCell (T:=fun k=>k=g) (p:=⟨g,i*5+q,none⟩) (af.refl _ _) (fun _=>rfl) _;have r2:=gX (i:=i*5+q) (v:=v) r';rw [←Bf tF nd0 f q v L i hi hq hf] at r2;refine ⟨⟨some ⟨g,0,none⟩,cap,?_,?_⟩,((af.of_below hw').trans F).mono (fun i _ e=>by subst e;exact ⟨hbs,cur,hk⟩)⟩
   ·rw [List.length_modify];exact F.blk k' hbg
   ·rw [List.length_modify];exact r2
def MR (b g m cap i q:Nat) (x:Int) (W:World):Prop:=W.cell? ⟨b,0,none⟩=some (.slice (some ⟨g,0,none⟩) m cap)∧W.cell? ⟨g,i*5+q,none⟩=some (.int .i64 x)
theorem oq.agi {L:List Nd} (h:oq (L.map xB)):oq L:=by
 have hl:(L.map xB).length=L.length:=List.length_map _;have hg:∀j,j<L.length→(L.map xB).getD j nd0=xB (L.getD j nd0):=fun j hj=>by
  rw [List.getD_eq_getElem?_getD,List.getElem?_map,List.getElem?_eq_getElem hj,List.getD_eq_getElem?_getD,List.getElem?_eq_getElem hj];rfl
 have ho:(L.map xB).map Nd.own=L.map Nd.own:=by rw [List.map_map];rfl
 refine ⟨⟨by have:=h.ch.pos;omega,by have:=h.ch.few;omega,fun i hi=>?_⟩,fun x hx=>?_,fun i hi=>?_,?_⟩
 ·have:=h.ch.chain i (by omega)
  rw [hg i hi] at this;exact this
 ·exact h.own (xB x) (List.mem_map.2 ⟨x,hx,rfl⟩)
 ·have:=h.all i (by omega)
  rw [hg i hi] at this;refine this.trans (uP ?_);rw [List.map_drop,List.map_drop,ho]
 ·rw [←uP ho];exact h.top
theorem IM (L:List Nd) (n:Nat) (p:Int):(xC L n p).map iL=(L.modify n fun x=>{ x with own:=x.own+p }).map iL:=by
 refine List.ext_getElem? (fun i=>?_);rw [List.getElem?_map,List.getElem?_map,DR,gW];cases hx:L[i]? with
 | none =>
  by_cases h:n=i
  ·rw [if_pos h];rfl
  ·rw [if_neg h];rfl
 | some x =>
  by_cases h:n=i
  ·rw [if_pos h];simp [iL,h.symm]
  ·rw [if_neg h];simp [iL,Ne.symm h]
def CU (r:Cr) (x:Sp):Bool:=decide (x.1<r.live)||decide (oG r<x.1+x.2)
theorem aac {r:Cr} (h:Can r.kept):(0<r.kept.length∧((r.kept.getD 0 (0,0)).1<r.live∨oG r<(iP r.kept).1+(iP r.kept).2))↔∃x∈r.kept,CU r x=true:=by
 constructor
 ·rintro ⟨h0,h1|h1⟩
  ·refine ⟨_,?_,by unfold CU;rw [decide_eq_true h1];rfl⟩
   rw [List.getD_eq_getElem?_getD,List.getElem?_eq_getElem h0];exact List.getElem_mem _
  ·refine ⟨iP r.kept,?_,by unfold CU;rw [decide_eq_true h1,Bool.or_true]⟩
   unfold iP;rw [List.getD_eq_getElem?_getD,List.getElem?_eq_getElem (by omega)];exact List.getElem_mem _
 ·rintro ⟨x,hx,ho⟩
  have h0:0<r.kept.length:=List.length_pos_of_mem hx;refine ⟨h0,?_⟩;unfold CU at ho;rw [Bool.or_eq_true,decide_eq_true_eq,decide_eq_true_eq] at ho;rcases ho with ho|ho
  ·left
   match hk:r.kept,h0 with
   | y::s,_ =>
    rw [hk] at h hx;have:=FT h x hx;rw [List.getD_cons_zero];omega
  ·right
   have:=qZ r.kept _ (fun z hz=>(av.1 (h.1 z hz)).2.2.1) h.2 x hx;omega
end Go.Pol
namespace Go.Proofs.YtjmmgoijnhnnaaaGreat
open Go Go.Proofs Go.RowKit Go.Pol Tryz
theorem II (pg n f b ev:Int) (w:World) :
  Calls prog 195 #[eQ pg n f b ev] w (Lp w (eH pg n f b ev) (bN pg n f b ev)):=by
 unfold eH;have HC:=ae (fun W=>oh pg n f b ev W);have hb0:=aV w (.cells (bf pg n f b ev) 25);have k0:=ag.new w 25 (bf pg n f b ev);have c0:=k0.cell;by_cases hc:bN pg n f b ev=0
 ·have hp:=bU.1 hc
  rw [hc] at HC ⊢;rw [if_pos rfl];have HS:=ae (fun W=>Ey pg n f b ev false W hp _ (Pp hp));clear hp hc;generalize aZ (aA pg n f b ev) (pg,n)=G at *;go_enter func195,ntmps195
  go_wp2_with (first
   | (go_at_call 43;refine (HC.out _).mono ?_;rintro e w1 ⟨rfl,hq⟩;have k1:=k0.call hq;have c1:=k1.cell)
   | (go_at_call 112;refine (HS.out _).mono ?_;rintro e w2 ⟨A,cap,rfl,gG,h1,h2,h3,hq2⟩))
  go_ret2;have hb1:=hb0.trans (hq.mono hb0.size);exact ⟨A,cap,rfl,gG,h1,h2,fun b o e=>by have:=h3 b o e;have:=hb1.size;omega,hb1.trans (hq2.mono hb1.size)⟩
 ·rw [if_neg hc]
  generalize bN pg n f b ev=er at *;have hc':(er != 0)=true:=by simpa using hc
  clear hc;go_enter func195,ntmps195
  go_wp2_with (go_at_call 43;refine (HC.out _).mono ?_;rintro e w1 ⟨rfl,hq⟩)
  go_ret2;exact ⟨none,0,rfl,RU.nil,by simp,by unfold maxLen;omega,fun b o e=>(by cases e),hb0.trans (hq.mono hb0.size)⟩
theorem vB (pg n f b ev:Int) (w:World) :
  Calls prog 99 #[eQ pg n f b ev] w fun e w'=>e= .returned (.tuple #[.int .i64 (lC pg n f b ev).1,.int .i64 (lC pg n f b ev).2,.int .i64 (bN pg n f b ev)])∧Below w.heap.size w w':=by
 have HC:=ae (fun W=>oh pg n f b ev W);have hb0:=aV w (.cells (bf pg n f b ev) 25);have k0:=ag.new w 25 (bf pg n f b ev);have c0:=k0.cell;unfold lC;by_cases hc:bN pg n f b ev=0
 ·have hp:=bU.1 hc
  rw [hc] at HC ⊢;rw [if_pos rfl];have HU:=ae (fun W=>tu pg n f b ev W hp _ rfl);have hsum:=jq (aA pg n f b ev) (fun x hx=>by have:=(av.1 ((bL hp).1 x hx)).2.2.1;omega);have hsb:=iA (aA pg n f b ev) (bL hp).1;have hl:=(bL hp).len;have hn1:=hp.n1;have hn0:=hp.n0;have xS:=hp.De;generalize bR (aA pg n f b ev)=L at *;rw [←hsum] at hsb ⊢;generalize ZG:L.length=LL at *;clear hsum hp;go_enter func99,ntmps99
  go_wp2_with (first
   | (go_at_call 43;refine (HC.out _).mono ?_;rintro e w1 ⟨rfl,hq⟩;have k1:=k0.call hq;have c1:=k1.cell)
   | (go_at_call 44;refine (HU.out _).mono ?_;rintro e w2 ⟨A2,cap2,rfl,tX,hq2⟩;have k2:=k1.call hq2;have c2:=k2.cell))
  have hb1:=hb0.trans (hq.mono hb0.size);have hb2:=hb1.trans (hq2.mono hb1.size);have e1:=fun z:Ext w2=>(z.blk k2).cell
  refine aF (by kernel_rfl) (by kernel_rfl) ?_
  repeat (go_big_quiet_step (fail))
  refine wpQuiet_nil ?_;rintro w3 ⟨⟨_,hw3⟩,rfl⟩;go_wp2_with fail;refine bodyPost_ret (v:=.tuple #[.int .i64 (LL:Int),.int .i64 (n - LL),.int .i64 0]) (by simp [results,results99,go_sem]) rfl ⟨rfl,hb2.trans (hw3.mono hb2.size)⟩
 ·rw [if_neg hc]
  generalize bN pg n f b ev=er at *;have hc':(er != 0)=true:=by simpa using hc
  clear hc;go_enter func99,ntmps99
  go_wp2_with (go_at_call 43;refine (HC.out _).mono ?_;rintro e w1 ⟨rfl,hq⟩)
  refine bodyPost_ret (v:=.tuple #[.int .i64 0,.int .i64 0,.int .i64 er]) (by simp [results,results99,go_sem]) rfl ⟨rfl,hb0.trans (hq.mono hb0.size)⟩
theorem Tj (page:Int) (L:List Int) (k:Nat) (hk:k<L.length):vJ page k (L.drop k)=if L.getD k 0=page then ((k:Int),0) else vJ page ((k:Int)+1) (L.drop (k+1)):=by
 rw [drop_cons 0 L k hk,vJ]
theorem JV (pg n f b ev page:Int) (w:World) (R:Int×Int) (hR:(if bN pg n f b ev=0 then jg page 0 (aA pg n f b ev) else (0,bN pg n f b ev))=R) :
  Calls prog 170 #[eQ pg n f b ev,.int .i64 page] w fun e w'=>e= .returned (.tuple #[.int .i64 R.1,.int .i64 R.2])∧Below w.heap.size w w':=by
 have HC:=ae (fun W=>oh pg n f b ev W);have hb0:=aV w (.cells (bf pg n f b ev) 25);have k0:=ag.new w 25 (bf pg n f b ev);have c0:=k0.cell;by_cases hc:bN pg n f b ev=0
 ·have hp:=bU.1 hc
  rw [if_pos hc,yh _ _ _ (fun x hx=>(av.1 ((bL hp).1 x hx)).2.2.1)] at hR;rw [hc] at HC;have HU:=ae (fun W=>tu pg n f b ev W hp _ rfl);have hsum:=jq (aA pg n f b ev) (fun x hx=>by have:=(av.1 ((bL hp).1 x hx)).2.2.1;omega);have hsb:=iA (aA pg n f b ev) (bL hp).1;have hl:=(bL hp).len;generalize bR (aA pg n f b ev)=L at *;generalize ZG:L.length=LL at *;rw [←hsum] at hsb;have Z4:=ae ZG;have hR':=ae hR;clear hsum hp hc hR;go_enter func170,ntmps170
  go_wp2_with (first
   | (go_at_call 43;refine (HC.out _).mono ?_;rintro e w1 ⟨rfl,hq⟩;have k1:=k0.call hq;have c1:=k1.cell)
   | (go_at_call 44;refine (HU.out _).mono ?_;rintro e w2 ⟨A2,cap2,rfl,tX,hq2⟩))
  have hb1:=hb0.trans (hq.mono hb0.size);have hb2:=hb1.trans (hq2.mono hb1.size)
  go_loopw [8] (fun i wr=>∃(k:Nat),k≤LL∧i= .int .i64 k∧Below w.heap.size w wr∧RI wr wr.heap.size A2 L∧Hid (R=vJ page k (L.drop k))) (fun i _=>LL - (intOf i).toNat)
  case atStart=>exact ⟨0,by omega,rfl,hb2,tX,ae (by rw [←hR'.out];rfl)⟩
  case round =>
   obtain ⟨k,hk,rfl,hb2,tX,hH⟩:=hrel;by_cases hlt:k<LL
   ·have hlt':decide ((k:Int)<(LL:Int))=true:=by simp;omega
    obtain ⟨bb,oo,rfl,hbb,hcc⟩:=RI.at_ tX (k:=k) (by have:=Z4.out;omega);have hdr:=ae (Tj page L k (by have:=Z4.out;omega));generalize L.getD k 0=y at *;by_cases hy:y=page
    ·have hy':(y==page)=true:=by simpa using hy
     have hE:Hid (R=((k:Int),0)):=ae (by rw [hH.out,hdr.out,if_pos hy]);clear hy;go_wp2_with fail;refine bodyPost_ret (v:=.tuple #[.int .i64 (k:Int),.int .i64 0]) (by simp [results,results170,go_sem]) rfl ⟨by rw [hE.out],hb2⟩
    ·have hy':(y==page)=false:=by simpa using hy
     have hN:Hid (R=vJ page ((k+1:Nat):Int) (L.drop (k+1))):=ae (by rw [hH.out,hdr.out,if_neg hy];rfl);clear hy;go_wp2_with fail;go_roundw
     case rel=>exact ⟨k+1,by omega,by simp,hb2,tX,hN⟩
     case measure=>simp [intOf];omega
   ·have hlt':decide ((k:Int)<(LL:Int))=false:=by simp;omega
    have hE:Hid (R=(0,4)):=ae (by rw [hH.out,List.drop_of_length_le (by have:=Z4.out;omega)];rfl);go_wp2_with fail;refine bodyPost_ret (v:=.tuple #[.int .i64 0,.int .i64 4]) (by simp [results,results170,go_sem]) rfl ⟨by rw [hE.out],hb2⟩
 ·rw [if_neg hc] at hR
  generalize bN pg n f b ev=er at *;have hc':(er != 0)=true:=by simpa using hc
  have hE:Hid (R=(0,er)):=ae hR.symm;clear hc hR;go_enter func170,ntmps170
  go_wp2_with (go_at_call 43;refine (HC.out _).mono ?_;rintro e w1 ⟨rfl,hq⟩)
  refine bodyPost_ret (v:=.tuple #[.int .i64 0,.int .i64 er]) (by simp [results,results170,go_sem]) rfl ⟨by rw [hE.out],hb0.trans (hq.mono hb0.size)⟩
open Go.Shelf
attribute [local go_sem] Oper.semAt_some aC au az ah
theorem Aj (B b:Nat) (a n:Int) (V:Vm) (w:World) (hV:bq w B b V) :
  Calls prog 165 #[.pointer (some ⟨b,0,none⟩),.int .i64 a,.int .i64 n,.bool false] w fun e w'=>e= .returned (.int .i64 (bJ V a n 4 3 1).1)∧dZ B b (bJ V a n 4 3 1).2 w w':=by
 have HC:=ae (nO B b a n 3 1 4 V w hV (by decide));clear hV;generalize bJ V a n 4 3 1=R at *;go_enter func165,ntmps165;go_wp2_with fail;refine HC.out.mono ?_;rintro e w1 ⟨rfl,h1,h2⟩;go_wp2_with fail;go_ret;exact ⟨rfl,h1,h2⟩
theorem JW (B b:Nat) (pg n f bk ev:Int) (V:Vm) (w:World) (hV:bq w B b V) (Ra:(eH pg n f bk ev).length≤512) :
  Calls prog 144 #[.pointer (some ⟨b,0,none⟩),eQ pg n f bk ev] w (PU B b (jw V (bN pg n f bk ev) (eH pg n f bk ev)) w):=by
 obtain ⟨j0,hj,hy0,hy1,hy2⟩:=dW;have hb0:=aV w (.cells (bf pg n f bk ev) 25);have k0:=ag.new w 25 (bf pg n f bk ev);have HA:=ae (fun W=>II pg n f bk ev W);have V0:=hV.call hb0;have hbw:=hV.lt;have hBb:=hV.base;have c0:=k0.cell;obtain ⟨R,hR⟩:=aj (jw V (bN pg n f bk ev) (eH pg n f bk ev));rw [hR];have hR':=ae hR;unfold jw at hR';generalize bN pg n f bk ev=ck at *;generalize eH pg n f bk ev=G at *;unfold Lp at HA;obtain ⟨gn,hgn⟩:=aj (G.length);rw [hgn] at HA Ra;have sF:=ae hgn;clear hV hR hgn;by_cases h0:ck=0
 case neg =>
  have h0':(ck != 0)=true:=by simpa using h0
  have hR2:Hid (R=([],ck,V)):=ae (by rw [←hR'.out,if_neg h0]);clear hR' h0;go_enter func144,ntmps144;go_wp2_with fail;refine (HA.out _).mono ?_;rintro e w1 ⟨A1,c1,rfl,g1,g2,g3,g4,g5⟩;have B1:=hb0.trans (g5.mono hb0.size);have V1:=V0.call g5;clear HA V0;go_wp2_with fail;go_ret2;rw [hR2.out];exact ⟨none,0,rfl,RU.nil,fun _ _ h=>(by cases h),by unfold maxLen;simp,V1,.of_below B1⟩
 case pos =>
  subst h0;have hR2:Hid (oL G [] G V=R):=ae (by rw [←hR'.out,if_pos rfl]);clear hR';go_enter func144,ntmps144;go_wp2_with fail;refine (HA.out (w.alloc (.cells (bf pg n f bk ev) 25))).mono ?_;rintro e w1 ⟨A1,c1,rfl,g1,g2,g3,g4,g5⟩;have B1:=hb0.trans (g5.mono hb0.size);have V1:=ae (V0.call g5);have hs1:=B1.size;have hA1:∀g o,A1=some ⟨g,o,none⟩→¬g=b:=fun g o e h=>by have:=g4 g o e;have:=hb0.size;omega
  have adH:∀g o,A1=some ⟨g,o,none⟩→w.heap.size≤g:=fun g o e=>by have:=g4 g o e;have:=hb0.size;omega
  have g1':=ae g1;have hgm:gn≤maxLen:=by omega
  have adI:=ae hgm;have El:=ae hA1;have Z6:=ae adH;unfold maxLen at hgm;have hB1:=ae B1;clear HA V0 g1 g2 g3 g4 g5 hA1 adH c0 k0 hb0 B1;go_wp2_with fail
  go_loopw [7,8] (fun v7 i wr=>∃(k:Nat) (z7:Int) (T:Vm),k≤gn∧i= .int .i64 k∧v7= .int .i64 z7∧Hid (oL G (G.take k).reverse (G.drop k) T=R)∧Hid (bq wr B b T)∧af (fun k=>k=b) w1 wr) (fun _ i _=>gn - (intOf i).toNat)
  case atStart=>exact ⟨0,_,V,by omega,rfl,rfl,ae (by simpa using hR2.out),V1,af.refl _ _⟩
  case round =>
   clear V1;obtain ⟨k,z7,T,hk,rfl,rfl,hfl,hT,hF⟩:=hrel;have hs4:=hF.size;have hbz:=hT.out.lt;by_cases hlt:k<gn
   ·have hlt':decide ((k:Int)<(gn:Int))=true:=by simpa using hlt
    obtain ⟨rb,ro,hAe,hrb,c5,c6⟩:=g1'.out.at_' (k:=k) (by have:=sF.out;omega);subst hAe;have hne:=El.out _ _ rfl;have hgA:=Z6.out _ _ rfl;have d5:=hF.cell c5 (by show ¬rb=b;omega);have d6:=hF.cell c6 (by show ¬rb=b;omega);have hsn:=hfl.out;rw [Go.Pol.drop_cons (0,0) G k (by have:=sF.out;omega),oL] at hsn;have htk:Hid ((G.take (k+1)).reverse=G.getD k (0,0)::(G.take k).reverse):=ae (by rw [rz (0,0) G (by have:=sF.out;omega),List.reverse_append];rfl);generalize G.getD k (0,0)=x at *;obtain ⟨xa,xb⟩:=x;simp only at d5 d6 hsn;have yt:=ae hsn;have e1:=fun x:Ext wr=>x.cell d5
    have e2:=fun x:Ext wr=>x.cell d6
    clear hsn c5 c6 hfl;go_upto_region 7 with fail
    refine dH 11 (by kernel_rfl) (by kernel_rfl) ?_;simp only [List.take_succ_cons,List.take_zero,List.drop_succ_cons,List.drop_zero]
    repeat (go_big_quiet_step (fail))
    refine wpQuiet_nil ?_;intro z;have Tx:=ae (hT.out.call z.le);have FZ:af (fun k=>k=b) w1 z.w:=hF.trans (.of_below z.le);have HD:=ae (PT B b xa xb T z.w Tx.out);clear hT hF d5 d6 e1 e2;go_wp2_with fail;refine HD.out.mono ?_;rintro e w6 ⟨rfl,V6,F6⟩;have V6':=ae V6;have Gf:=FZ.trans F6;generalize bJ T xa xb 4 1 3=J at *;obtain ⟨je,jV⟩:=J;simp only at yt V6';have mI:=yt.out;clear HD Tx FZ F6 V6 yt;by_cases hj2:je=0
    ·subst hj2
     rw [if_pos rfl] at mI;have Ce:=ae mI;clear mI;go_wp2_with fail;go_roundw
     case rel=>exact ⟨k+1,_,jV,by omega,by go_num,rfl,by rw [htk.out];exact Ce,V6',Gf⟩
     case measure=>simp [intOf];omega
    ·have hj':(je==0)=false:=by simpa using hj2
     rw [if_neg hj2] at mI;obtain ⟨D,hD⟩:=aj ((G.take k).reverse.foldl jk ([],jV));rw [hD] at mI;have jH:=ae mI;have hD':=ae hD;have hs6:=Gf.size;clear mI hj2 hD htk;go_wp2_with fail
     go_loopw [9,10] (fun v9 i wz=>∃(m:Nat) (y:Int) (L:List Sp) (U:Vm),m≤k∧i= .int .i64 y∧y=(m:Int) - 1∧L.length+m≤k∧Hid ((G.take m).reverse.foldl jk (L,U)=D)∧wz.ownsRow w1.heap.size 140 2 v9 L.length (ax L)∧Hid (bq wz B b U)∧af (fun k=>k=b) w1 wz) (fun _ i _=>((intOf i)+1).toNat)
     case atStart=>exact ⟨k,(k:Int) - 1,[],jV,by omega,by go_num,rfl,by simp,hD',World.ownsRow_nil _ _ _ _,V6',Gf⟩
     case round =>
      clear Gf V6' hD';obtain ⟨m,y,L,U,hmk,rfl,hy,hLm,UY,hrow,hU,rq⟩:=hrel;have hs7:=rq.size;have an4:=hU.out.lt;by_cases hm0:m=0
      ·subst hm0
       have hyd:decide (0≤y)=false:=by rw [decide_eq_false_iff_not];omega
       have zP:Hid (R=(L,je,U)):=ae (by rw [←jH.out,←UY.out];rfl);obtain ⟨A5,cap5,rfl,Oc,_,_,Uq,_⟩:=mU hrow rfl;have FF:=(af.of_below hB1.out).trans rq;clear jH UY hy;go_wp2_with fail;go_ret2;rw [zP.out];exact ⟨A5,cap5,rfl,Oc,fun g o e=>by have:=Uq g o e;omega,by have:=adI.out;show L.length≤maxLen;omega,hU.out,FF⟩
      ·obtain ⟨q,hq⟩:∃q:Nat,m=q+1:=⟨m - 1,by omega⟩
       subst hq;have hyq:y=(q:Int):=by omega
       subst hyq;have hyd:decide ((0:Int)≤(q:Int))=true:=by rw [decide_eq_true_eq];omega
       have hqg:q<gn:=by omega
       obtain ⟨rb2,rF,ajP,an5,c5,c6⟩:=g1'.out.at_' (k:=q) (by have:=sF.out;omega);cases ajP;have d5:=rq.cell c5 (by show ¬rb=b;omega);have d6:=rq.cell c6 (by show ¬rb=b;omega);have hsn:=UY.out;rw [rz (0,0) G (by have:=sF.out;omega),List.reverse_append,List.reverse_singleton,List.singleton_append,List.foldl_cons] at hsn;generalize G.getD q (0,0)=x at *;obtain ⟨ya,yb⟩:=x;rw [show jk (L,U) (ya,yb)=(if (bJ U ya yb 4 3 1).1=0 then L else (ya,yb)::L,(bJ U ya yb 4 3 1).2) from rfl] at hsn;simp only at d5 d6;have yt:=ae hsn;have e1:=fun x:Ext wr=>x.cell d5
       have e2:=fun x:Ext wr=>x.cell d6
       clear hsn c5 c6 UY hy hm0;go_upto_region 13 with fail
       refine dH 11 (by kernel_rfl) (by kernel_rfl) ?_;simp only [List.take_succ_cons,List.take_zero,List.drop_succ_cons,List.drop_zero]
       repeat (go_big_quiet_step (fail))
       refine wpQuiet_nil ?_;intro z2;have Tx:=ae (hU.out.call z2.le);have Z7:=aB hrow z2.le;have FZ:af (fun k=>k=b) w1 z2.w:=rq.trans (.of_below z2.le);have HD:=ae (Aj B b ya yb U z2.w Tx.out);have f5:=z2.cell d5;have f6:=z2.cell d6;clear hU hrow rq d5 d6 e1 e2;go_wp2_with fail;refine HD.out.mono ?_;rintro e w8 ⟨rfl,V8,F8⟩;have V8':=ae V8;have UZ:=aK Z7 F8 (fun g hg h=>by have:=(Z7.lt g hg).1;omega);have hF8:=FZ.trans F8;have d5:=F8.cell f5 (by show ¬rb=b;omega);have d6:=F8.cell f6 (by show ¬rb=b;omega);generalize bJ U ya yb 4 3 1=K2 at *;obtain ⟨ke,kV⟩:=K2;simp only at yt V8';have mI:=yt.out;clear HD Tx Z7 FZ F8 V8 yt f5 f6;by_cases hk2:ke=0
       ·subst hk2
        rw [if_pos rfl] at mI;have Ce:=ae mI;clear mI d5 d6;go_wp2_with fail;go_roundw
        case rel=>exact ⟨q,(q:Int) - 1,L,kV,by omega,by go_num,rfl,by omega,Ce,UZ,V8',hF8⟩
        case measure=>simp [intOf]
       ·have hk':(ke != 0)=true:=by simpa using hk2
        rw [if_neg hk2] at mI;have Ce:=ae mI;have hs8:=hF8.size;have hlc:=ae (dB L);have kN:=ag.new w8 140 #[.int .i64 ya,.int .i64 yb];have hbN:Below w8.heap.size w8 (w8.alloc (.cells #[.int .i64 ya,.int .i64 yb] 140)):=(Below.refl _ _).alloc (Nat.le_refl _) _;obtain ⟨A5,cap5,rfl,Oc,_,_,Uq,_⟩:=mU UZ rfl;have ho:(w8.alloc (.cells #[.int .i64 ya,.int .i64 yb] 140)).ownsRow w1.heap.size 140 2 (.slice (some ⟨w8.heap.size,0,none⟩) 1 1) 1 [.int .i64 ya,.int .i64 yb]:=Z5 (by omega);have hA5:A5=none→L.length=0∧cap5=0:=fun e=>by
         subst e;rcases UZ.2 with h|⟨g,c,cur,h,_⟩
         ·simp_all
         ·cases h
        have hnw:∀ad,A5=some ad→∀j u,(ax L)[j]? = some u→(w8.alloc (.cells #[.int .i64 ya,.int .i64 yb] 140)).cell? (ad.add j)=some u:=fun ad he j u hu=>by
         rcases Fq (Oc.on hbN) with ⟨e,_⟩|⟨ad2,e,h⟩
         ·rw [e] at he;cases he
         ·rw [e] at he;cases he;exact h j u hu
        have h1o:=rC L;clear mI hk2 UZ
        go_wp2_with (refine tK rfl (.tmp 62) (.tmp 63) 41 rfl w1.heap.size 140 j0 (.agg #[.int .i64 0,.int .i64 0]) 2 16 underlying41 hj hy0 hy1 hy2 rfl (by decide) _ 1 [.int .i64 ya,.int .i64 yb] rfl ho A5 L.length cap5 (ax L) rfl hA5 hlc.out hnw h1o (by unfold maxLen;omega) (by omega) (by simp;omega) ?_;intro v' w9 hown' hgrow)
        go_roundw
        case rel =>
         have F7:af (fun k=>w1.heap.size≤k) w8 w9:=(af.of_below hbN).grown hgrow (fun g hg hlt=>(ho.lt g hg).1);have F37:af (fun k=>k=b) w1 w9:=hF8.trans' F7 (fun i hi h=>by omega);exact ⟨q,(q:Int) - 1,(ya,yb)::L,kV,by omega,by go_num,rfl,by rw [List.length_cons];omega,Ce,by rw [List.length_cons,Nat.add_comm];exact hown',ae (V8'.out.far F7 (fun k h=>by omega)),F37⟩
        case measure=>simp [intOf]
   ·obtain rfl:k=gn:=by omega
    have hlt':decide ((k:Int)<(k:Int))=false:=by simp
    have jH:Hid (R=(G,0,T)):=ae (by rw [←hfl.out,List.drop_of_length_le (by have:=sF.out;omega)];rfl);have gG:=ae ((hF.ru g1'.out (fun g o e=>El.out g o e)).more hF.size);have FF:=(af.of_below hB1.out).trans hF;clear hR2 hfl;go_wp2_with fail;go_ret2;rw [jH.out];exact ⟨A1,c1,by rw [sF.out];rfl,gG.out,Z6.out,by have:=adI.out;have:=sF.out;show G.length≤maxLen;omega,hT.out,FF⟩
theorem zF {L:List Nd} (h:bg L):jE L:=⟨h.pos,h.few,h.chain⟩
theorem K3 (N b n:Nat) (L:List Nd) (w:World) (hB:eP w N b L) (hO:oq L) (hn:n<L.length) :
  Calls prog 216 #[.pointer (some ⟨b,0,none⟩),.int .i64 n] w fun e w'=>e= .returned (.int .i64 (L.getD n nd0).all)∧Below w.heap.size w w':=by
 have hall:=hO.all n hn;have hbd:=ae (fun i=>PO hO.own n i);have hal:0≤ig (L.drop n)∧ig (L.drop n)≤1000000:=by rw [←hall];exact hO.U0 hn
 rw [hall];have hfin:=ae (WM L n);have pM:=ae hB;have hCH:=ae hO.ch;have hmm:=hO.ch.few;obtain ⟨m,hm⟩:=aj (L.length);have pO:=ae hm;rw [hm] at hn hmm;obtain ⟨T,hT⟩:=aj (ig (L.drop n));rw [hT] at hal hbd ⊢;have MQ:=ae hT;clear hB hO hm hall hT;go_enter func216,ntmps216;go_upto_region 3 with fail
 go_loopw [5,6] (fun u5 u6 wr=>∃(i:Nat) (x:Int),u5= .int .i64 x∧x=xP L n i∧u6= .int .i64 i∧i≤m∧Below w.heap.size w wr) (fun _ u6 _=>m - (intOf u6).toNat)
 case atStart=>exact ⟨0,0,rfl,by simp [xP,ig],rfl,by omega,Below.refl _ _⟩
 case round =>
  obtain ⟨i,x,rfl,hx,rfl,hi,hB⟩:=hrel;have CS:=ae hx;have hxb:=hbd.out i;rw [←hx] at hxb;clear hx;have JU:=pM.out.call hB;obtain ⟨g,c',hc1,hc2,kb,_,hgl,hcell,_⟩:=JU.node (i:=0) (by rw [pO.out];omega);rw [pO.out] at kb hc1;have cb:=kb.cell;have hc1':m≤9223372036854775807:=by omega
  by_cases hlt:i<m
  ·have d1:decide ((i:Int)<(m:Int))=true:=by simpa using hlt
   have HO:=ae (lM N b i L wr JU hCH.out);rw [pO.out,show decide (0≤(i:Int)∧(i:Int)<(m:Int))=true by simp;omega] at HO;have HP:=ae (IB N b i L wr JU hCH.out (by rw [pO.out];exact hlt));have HN:=ae (fun A cap W h=>ZV A (i+1) cap (mE i (i+1)) n W (tH _ _) (by omega) h);have hst:=Te L n (i:=i) (by rw [pO.out];exact hlt);have adJ:=hbd.out (i+1);rw [hst,←CS.out] at adJ;have df:=ae hst;clear hst;go_wp2_with fail;refine HO.out.mono ?_;rintro e w2 ⟨rfl,hw2⟩;replace hw2:=hw2.symm;subst hw2;go_wp2_with fail;refine HP.out.mono ?_;rintro e w3 ⟨A3,c3,rfl,xI,hb3⟩;have B3:=hB.trans (hb3.mono hB.size);go_wp2_with fail;refine (HN.out A3 c3 w3 xI).mono ?_;rintro e w4 ⟨rfl,hw4⟩;replace hw4:=hw4.symm;subst hw4;obtain ⟨g3,c3',_,_,qI,_,ajG,zD,_⟩:=(pM.out.call B3).node (i:=i) (by rw [pO.out];exact hlt);have q3:=zD i (by rw [pO.out];exact hlt) 2 (.int .i64 (L.getD i nd0).own) rfl;rw [pO.out] at qI;have cb3:=qI.cell;by_cases hni:n≤i
   ·rw [show decide ((n:Int)∈mE i (i+1))=true by rw [decide_eq_true_eq];exact IA.2 (by omega)]
    rw [if_pos hni] at adJ df;have hx2:Hid (x+(L.getD i nd0).own=xP L n (i+1)):=ae (by rw [df.out,←CS.out]);generalize (L.getD i nd0).own=o at *;clear hcell zD kb qI hni df cb;go_wp2_with fail;go_roundw
    case rel=>exact ⟨i+1,x+o,by go_num,hx2.out,by go_num,by omega,B3⟩
    case measure=>simp [intOf];omega
   ·rw [show decide ((n:Int)∈mE i (i+1))=false by rw [decide_eq_false_iff_not];intro h;have:=(IA.1 h).1;omega]
    rw [if_neg hni] at df;have hx2:Hid (x=xP L n (i+1)):=ae (by rw [df.out,←CS.out];omega);clear hcell zD kb qI hni df cb;go_wp2_with fail;go_roundw
    case rel=>exact ⟨i+1,x,rfl,hx2.out,by go_num,by omega,B3⟩
    case measure=>simp [intOf];omega
  ·obtain rfl:i=m:=by omega
   have d1:decide ((i:Int)<(i:Int))=false:=by simp
   have hxT:x=T:=by rw [CS.out,←MQ.out,←hfin.out,pO.out]
   subst hxT;go_wp2_with fail;go_ret;exact ⟨rfl,hB⟩
theorem BH (N b n:Nat) (L:List Nd) (w:World) (hB:eP w N b L) (hO:bg L) (hn:n<L.length) :
  Calls prog 215 #[.pointer (some ⟨b,0,none⟩),.int .i64 n] w fun e w'=>e= .returned (.int .i64 (bQ L n))∧Below w.heap.size w w':=by
 have HA:=ae (fun z:Ext w=>Ext.call (K3 N b n L z.w (hB.call z.le) hO.sum hn));obtain ⟨g,c',hc1,hc2,kb,_,hgl,hcell,_⟩:=hB.node hn;have q0:=fun z:Ext w=>z.cell (kb.cell 0)
 have q1:=fun z:Ext w=>z.cell (hcell n hn 1 (.int .i64 (L.getD n nd0).lim) rfl)
 have hg:=hO.get hn;have hal:0≤(L.getD n nd0).all:=by rw [hO.all n hn];exact rR (fun x hx=>hO.own x (List.mem_of_mem_drop hx))
 have hmm:=hO.few;unfold bQ;generalize L.getD n nd0=x at *;obtain ⟨lim,hl⟩:∃l,x.lim=l:=⟨_,rfl⟩;obtain ⟨al,ha⟩:∃l,x.all=l:=⟨_,rfl⟩;rw [hl,ha] at hg;rw [ha] at hal HA;rw [hl] at q1;rw [hl,ha];obtain ⟨m,hm⟩:=aj (L.length);rw [hm] at hn hmm hc1 q0;clear hcell kb hB hO hl ha hm;go_enter func215,ntmps215;go_upto_region 1 with fail
 refine aF (by kernel_rfl) (by kernel_rfl) ?_
 repeat (go_big_quiet_step ((go_at_call 216;exact HA.out _)))
 refine wpQuiet_nil ?_;rintro w1 ⟨⟨_,hw1⟩,rfl⟩;go_wp2_with fail;go_ret;exact ⟨rfl,hw1⟩
theorem PW (N b n:Nat) (L:List Nd) (w:World) (hB:eP w N b L) (hO:bg L) (hn:n<L.length) :
  Calls prog 214 #[.pointer (some ⟨b,0,none⟩),.int .i64 n] w fun e w'=>e= .returned (.tuple #[.int .i64 (jI L n),.int .i64 0])∧Below w.heap.size w w':=by
 have HO:=ae (lM N b n L w hB (zF hO));have HP:=ae (IB N b n L w hB (zF hO) hn);have pM:=ae hB;have IC:=ae hO;have hmm:=hO.few;rw [←PV L n];obtain ⟨T,hT⟩:=aj (qc L n (n+1));rw [hT];have MQ:=ae hT;obtain ⟨m,hm⟩:=aj (L.length);have pO:=ae hm;rw [hm,show decide (0≤(n:Int)∧(n:Int)<(m:Int))=true by rw [hm] at hn;simp;omega] at HO;rw [hm] at hn hmm;clear hB hO hT hm;go_enter func214,ntmps214;go_wp2_with fail;refine HO.out.mono ?_;rintro e w1 ⟨rfl,hw1⟩;replace hw1:=hw1.symm;subst hw1;go_wp2_with fail;refine HP.out.mono ?_;rintro e w2 ⟨A,cap,rfl,gG,hb2⟩;have ajQ:=ae gG;obtain ⟨b0,o0,e0,hb0,hc0⟩:=gG.el (k:=0) (by rw [tH];omega);rw [KY (n:Int) (show 0<n+1 by omega)] at hc0;simp only [Nat.add_zero] at hc0;rw [show (n:Int) - ((0:Nat):Int)=n by omega] at hc0;subst e0;clear HO HP gG;go_upto_region 6 with fail
 clear hc0
 go_loopw [7,8] (fun u7 u8 wr=>∃(i DN:Nat),u7= .int .i64 DN∧DN=qc L n i∧DN≤n∧u8= .int .i64 i∧i≤n+1∧Below w2.heap.size w2 wr) (fun _ u8 _=>n+1 - (intOf u8).toNat)
 case atStart=>exact ⟨0,n,rfl,rfl,Nat.le_refl _,rfl,by omega,Below.refl _ _⟩
 case round =>
  obtain ⟨i,DN,rfl,adK,hbn,rfl,hi,hB⟩:=hrel;have Z8:=ae adK;clear adK;by_cases hlt:i<n+1
  ·have d1:decide ((i:Int)<((n+1:Nat):Int))=true:=by simp;omega
   have d1':decide ((i:Int)<(n:Int)+1)=true:=by simp;omega
   obtain ⟨b1,o1,e1,hb1,hc1⟩:=ajQ.out.el (k:=i) (by rw [tH];exact hlt);cases e1;rw [KY (n:Int) hlt] at hc1;obtain ⟨j,hj⟩:∃j:Nat,(n:Int) - i=j:=⟨n - i,by omega⟩;have hjn:n - i=j:=by omega
   rw [hj] at hc1;have q1:=(hB.cell (p:=⟨b0,o0+i,none⟩) hb0).trans hc1;have hB1:=pM.out.call (hb2.trans (hB.mono hb2.size));have HR1:=ae (fun W h=>BH N b j L W h IC.out (by rw [pO.out];omega));have HR2:=ae (fun W h=>BH N b DN L W h IC.out (by rw [pO.out];omega));have hst:=MP L n hlt;rw [hjn,←Z8.out] at hst;have jR:=ae hst;clear hst;go_wp2_with fail;refine (HR1.out wr hB1).mono ?_;rintro e w3 ⟨rfl,hb3⟩;have B3:=hB.trans (hb3.mono hB.size);have hB3:=hB1.call hb3;have q3:=(hb3.cell (p:=⟨b0,o0+i,none⟩) (Nat.lt_of_lt_of_le hb0 hB.size)).trans q1;clear q1 hB1;go_wp2_with fail;refine (HR2.out w3 hB3).mono ?_;rintro e w4 ⟨rfl,hb4⟩;have B4:=B3.trans (hb4.mono B3.size);have q4:=(hb4.cell (p:=⟨b0,o0+i,none⟩) (Nat.lt_of_lt_of_le hb0 B3.size)).trans q3;clear q3 hB3;by_cases hr:bQ L j<bQ L DN
   ·have d2:decide (bQ L j<bQ L DN)=true:=by simpa using hr
    have hs2:Hid (j=qc L n (i+1)):=ae (by rw [jR.out,if_pos hr]);generalize bQ L j=r1 at *;generalize bQ L DN=r2 at *;clear hr jR;go_wp2_with fail;go_roundw
    case rel=>exact ⟨i+1,j,rfl,hs2.out,by omega,by go_num,by omega,B4⟩
    case measure=>simp [intOf];omega
   ·have d2:decide (bQ L j<bQ L DN)=false:=by simpa using hr
    have hs2:Hid (DN=qc L n (i+1)):=ae (by rw [jR.out,if_neg hr]);generalize bQ L j=r1 at *;generalize bQ L DN=r2 at *;clear hr jR;go_wp2_with fail;go_roundw
    case rel=>exact ⟨i+1,DN,rfl,hs2.out,hbn,by go_num,by omega,B4⟩
    case measure=>simp [intOf];omega
  ·obtain rfl:i=n+1:=by omega
   have d1:decide (((n+1:Nat):Int)<((n+1:Nat):Int))=false:=by simp
   have d1':decide ((n:Int)+1<(n:Int)+1)=false:=by simp
   have hbT:DN=T:=by rw [Z8.out,MQ.out]
   subst hbT;go_wp2_with fail;go_ret2;exact ⟨rfl,hb2.trans (hB.mono hb2.size)⟩
theorem Tm (N b n:Nat) (L:List Nd) (w:World) (hB:eP w N b L) (hO:bg L) (hn:n<L.length) :
  Calls prog 198 #[.pointer (some ⟨b,0,none⟩),.int .i64 n] w fun e w'=>e= .returned (.tuple #[.int .i64 (qD L n),.int .i64 0])∧Below w.heap.size w w':=by
 have HO:=ae (lM N b n L w hB (zF hO));have HT:=ae (PW N b n L w hB hO hn);have hti:=Gv L n;have HR:=ae (fun W h=>BH N b (jI L n) L W h hO (by omega));rw [show decide (0≤(n:Int)∧(n:Int)<(L.length:Int))=true by simp;omega] at HO;have pM:=ae hB;unfold qD;generalize bQ L (jI L n)=rm at *;generalize jI L n=ti at *;clear hB hO hn hti;go_enter func198,ntmps198;go_wp2_with fail;refine HO.out.mono ?_;rintro e w1 ⟨rfl,hw1⟩;replace hw1:=hw1.symm;subst hw1;go_wp2_with fail;refine HT.out.mono ?_;rintro e w2 ⟨rfl,hb2⟩;go_wp2_with fail;refine (HR.out w2 (pM.out.call hb2)).mono ?_;rintro e w3 ⟨rfl,hb3⟩;go_wp2_with fail;go_ret2;exact ⟨rfl,hb2.trans (hb3.mono hb2.size)⟩
theorem PX (N b:Nat) (L:List Nd) (w:World) (hB:eP w N b L) (hO:oq L) :
  Calls prog 199 #[.pointer (some ⟨b,0,none⟩)] w fun e w'=>e= .returned (.tuple #[])∧mR N b (L.map xB) w w':=by
 have IC:=ae hO;have hmm:=hO.ch.few;have hpos:=hO.ch.pos;rw [←Z9];obtain ⟨m,hm⟩:=aj (L.length);have pO:=ae hm;rw [hm] at hmm hpos ⊢;clear hO hm;go_enter func199,ntmps199;go_upto_region 1 with fail
 go_loopw [2] (fun u2 wr=>∃i:Nat,u2= .int .i64 i∧i≤m∧mR N b (qK L i) w wr) (fun u2 _=>m - (intOf u2).toNat)
 case atStart=>exact ⟨0,rfl,by omega,by rw [WS];exact mR.below hB (Below.refl _ _)⟩
 case round =>
  obtain ⟨i,rfl,hi,hT⟩:=hrel;have MQ:=ae hT;obtain ⟨A,c',kb,_⟩:=hT.1.ex;rw [mQ,pO.out] at kb;have cb:=kb.cell;clear hT hB;by_cases hlt:i<m
  ·have d1:decide ((i:Int)<(m:Int))=true:=by simpa using hlt
   have hl:(qK L i).length=m:=by rw [mQ,pO.out]
   have HO:=ae (lM N b i (qK L i) wr MQ.out.1 (IC.out.pk i).ch);rw [hl,show decide (0≤(i:Int)∧(i:Int)<(m:Int))=true by simp;omega] at HO;obtain ⟨g,c2,hc1,hc2,pJ,WV,hgl,hcell,hput⟩:=MQ.out.1.put (i:=i) (by rw [hl];exact hlt);have hx:=(IC.out.pk i).U0 (n:=i) (by rw [hl];exact hlt);have HA:=ae (fun W h=>K3 N b i (qK L i) W h (IC.out.pk i) (by rw [hl];exact hlt));have hgi:=WT L (i:=i) (by rw [pO.out];exact hlt);rw [hl] at hc1 pJ;generalize (qK L i).getD i nd0=x at *;obtain ⟨pkx,hpk⟩:∃l,x.iZ=l:=⟨_,rfl⟩;obtain ⟨al,ha⟩:∃l,x.all=l:=⟨_,rfl⟩;have q3:=hcell 3 (.int .i64 pkx) (by rw [←hpk];rfl);rw [ha] at HA hx;clear hcell;go_wp2_with fail;refine HO.out.mono ?_;rintro e w2 ⟨rfl,hw2⟩;replace hw2:=hw2.symm;subst hw2;go_upto_region 4 with fail
   have hbd:=(Below.refl wr.heap.size wr).drew;have hB1:=MQ.out.1.call hbd;have vT:=pJ.call hbd;have q3':wr.drew.cell? ⟨g,i*5+3,none⟩=some (.int .i64 pkx):=q3;refine bO ?_;refine bD (MR b g m c2 i 3 pkx) [19] (by kernel_rfl) ?_;generalize wr.drew=wd at *;have hS:MR b g m c2 i 3 pkx wd:=⟨vT.cell 0,q3'⟩;dsimp only [MR] at hS ⊢;clear cb kb;refine aX 0 hS ?_;refine aX 1 hS ?_;refine aX 2 hS ?_;refine aX 3 hS ?_;refine aX 4 hS ?_;refine aX 5 hS ?_;refine aX 6 hS ?_;refine aX 7 hS ?_;refine aX 8 hS ?_;refine aX 9 hS ?_;refine aX 10 hS ?_;refine aX 11 hS ?_;refine aX 12 hS ?_;refine aX 13 hS ?_;refine aX 14 hS ?_;refine fu 15 fun K hK=>?_
   go_simp;refine ((HA.out wd hB1)).mono ?_;rintro (e wS ⟨rfl,hb5⟩);refine hK.out _ _ (fun _=>⟨(vT.call hb5).cell 0,(hb5.cell (p:=⟨g,i*5+3,none⟩) (Nat.lt_of_lt_of_le hgl hbd.size)).trans q3'⟩) (fun hS=>?_);clear hK K;replace hS:=hS rfl;refine aX 16 hS ?_;refine aX 17 hS ?_;refine aX 18 hS ?_;have QJ:=hbd.trans (hb5.mono hbd.size);have BI:=hput wS QJ;have fz:=BI.1;have hP:=ae (BI.2 3 (.int .i64 (max pkx al)) xB (by omega) (by unfold iL xB;simp only;rw [hpk,ha];rfl));clear hput BI HA;refine fu 19 fun K hK=>?_
   have hS2:=hS.2;go_simp;refine hK.out _ _ (fun h=>absurd h (by decide)) (fun _=>?_);clear hK K hS;refine bz (by kernel_rfl) ?_ _;refine aT ?_;go_wp2_with fail;go_roundw
   case rel=>exact ⟨i+1,by go_num,by omega,by rw [hgi];exact MQ.out.trans hP.out⟩
   case measure=>simp [intOf];omega
  ·obtain rfl:i=m:=by omega
   have d1:decide ((i:Int)<(i:Int))=false:=by simp
   have hl:=pO.out;go_wp2_with fail
   (try simp only [Exit.inBlock,Exit.then])
   refine bodyPost_end (results_none rfl _ _ _) rfl ?_;exact ⟨rfl,MQ.out⟩
theorem MS (N b n:Nat) (p:Int) (L:List Nd) (w:World) (hB:eP w N b L) (hO:bg L) (hn:n<L.length) :
  Calls prog 150 #[.pointer (some ⟨b,0,none⟩),.int .i64 n,.int .i64 p] w fun e w'=>e= .returned (.int .i64 (iO L n p).1)∧mR N b (iO L n p).2 w w':=by
 have HH:=ae (Tm N b n L w hB hO hn);have pM:=ae hB;have IC:=ae hO;have hfr:=tJ p 0 4096;have hok:=uG hO hn p;have hadd:=U1 hO n p;have hbo:=IM L n p;have hcb:iO L n p=if p<0∨4096<p then (7,L) else if qD L n<p then (5,L) else (0,qQ (L.modify n fun x=>{ x with own:=x.own+p }) n p):=rfl
 obtain ⟨h,hh0⟩:=aj (qD L n);obtain ⟨C,hC⟩:=aj (iO L n p);rw [hC,hh0] at hcb;rw [hC] at hok;rw [hh0] at HH;rw [hC];clear hC hh0;clear hB;go_enter func150,ntmps150;go_wp2_with fail;refine HH.out.mono ?_;rintro e w1 ⟨rfl,hb1⟩;have hB1:=pM.out.call hb1;go_wp2_with fail;refine (hfr w1).mono ?_;rintro e w2 ⟨rfl,hw2⟩;replace hw2:=hw2.symm;subst hw2;clear hfr;by_cases hp:p<0∨4096<p
 ·have d1:decide (0≤p∧p≤4096)=false:=by rw [decide_eq_false_iff_not];omega
  rw [if_pos hp] at hcb;subst hcb;rw [d1];clear d1;go_wp2_with fail;go_ret;exact ⟨rfl,mR.below pM.out hb1⟩
 ·have d1:decide (0≤p∧p≤4096)=true:=by rw [decide_eq_true_eq];omega
  rw [if_neg hp] at hcb;rw [d1];clear d1;by_cases hh:h<p
  ·have d2:decide (h<p)=true:=by simpa using hh
   rw [if_pos hh] at hcb;subst hcb;go_wp2_with fail;go_ret;exact ⟨rfl,mR.below pM.out hb1⟩
  ·have d2:decide (h<p)=false:=by simpa using hh
   rw [if_neg hh,←hadd] at hcb;subst hcb;replace hok:=hok.sum.agi;have hp2:0≤p∧p≤4096:=by omega
   obtain ⟨g,c2,hc1,hc2,pJ,WV,hgl,hcell,hput⟩:=hB1.put hn;have hg:=hO.get hn;have ajR:=ae (fun W h=>PX N b (xC L n p) W h hok);generalize hx:L.getD n nd0=x at *;obtain ⟨ow,ho⟩:∃l,x.own=l:=⟨_,rfl⟩;have q2:=hcell 2 (.int .i64 ow) (by rw [←ho];rfl);clear hcell hO hB1;go_upto_region 8 with fail
   have hbd:=(Below.refl w1.heap.size w1).drew;have vT:=pJ.call hbd;have q2':w1.drew.cell? ⟨g,n*5+2,none⟩=some (.int .i64 ow):=q2;have BI:=hput w1.drew hbd;have fz:=BI.1;have hP:=ae (BI.2 2 (.int .i64 (ow+p)) (fun x=>{ x with own:=x.own+p }) (by omega) (by unfold iL;simp only;rw [ho];rfl));have hwr:IntKind.i64.wrap (ow+p)=ow+p:=by rw [IntKind.wrap_i64];omega
   refine bO ?_;refine bD (MR b g L.length c2 n 2 ow) [17] (by kernel_rfl) ?_;generalize w1.drew=wd at *;have hS:MR b g L.length c2 n 2 ow wd:=⟨vT.cell 0,q2'⟩;have hS2:=hS.2;dsimp only [MR] at hS ⊢;clear hput BI q2 q2';refine aX 0 hS ?_;refine aX 1 hS ?_;refine aX 2 hS ?_;refine aX 3 hS ?_;refine aX 4 hS ?_;refine aX 5 hS ?_;refine aX 6 hS ?_;refine aX 7 hS ?_;refine aX 8 hS ?_;refine aX 9 hS ?_;refine aX 10 hS ?_;refine aX 11 hS ?_;refine aX 12 hS ?_;refine aX 13 hS ?_;refine aX 14 hS ?_;refine aX 15 hS ?_;refine aX 16 hS ?_;refine fu 17 fun K hK=>?_
   go_simp;refine hK.out _ _ (fun h=>absurd h (by decide)) (fun _=>?_);clear hK K hS hS2;refine bz (by kernel_rfl) ?_ _;refine aT ?_;have hT2:=(mR.below pM.out hb1).trans hP.out;generalize wd.setCell ⟨g,n*5+2,none⟩ (.int .i64 (ow+p))=w2 at *;have hB2:=hT2.1.same hbo.symm;go_wp2_with fail;refine (ajR.out w2 hB2).mono ?_;rintro e w3 ⟨rfl,hT3⟩;go_wp2_with fail;go_ret;rw [hadd] at hT3;exact ⟨rfl,mR.trans ⟨hB2,hT2.2⟩ hT3⟩
theorem BJ (N b n:Nat) (p:Int) (L:List Nd) (w:World) (hB:eP w N b L) (hO:bg L) (hn:n<L.length) :
  Calls prog 155 #[.pointer (some ⟨b,0,none⟩),.int .i64 n,.int .i64 p] w fun e w'=>e= .returned (.int .i64 (iT L n p).1)∧mR N b (iT L n p).2 w w':=by
 have HO:=ae (lM N b n L w hB (zF hO));rw [show decide (0≤(n:Int)∧(n:Int)<(L.length:Int))=true by simp;omega] at HO;have pM:=ae hB;have hfr:=tJ p 0 4096;have hbo:0≤p→(L.modify n fun x=>{ x with own:=x.own - p }).map iL=(qQ (L.modify n fun x=>{ x with own:=x.own - p }) n (-p)).map iL:=fun h=>by
  rw [←WU hO n h,IM L n (-p)];congr 1
 obtain ⟨g,c2,hc1,hc2,pJ,WV,hgl,hcell,hput⟩:=hB.put hn;have hg:=hO.get hn;have hcb:iT L n p=if p<0∨4096<p then (7,L) else if (L.getD n nd0).own<p then (9,L) else (0,qQ (L.modify n fun x=>{ x with own:=x.own - p }) n (-p)):=rfl
 obtain ⟨C,hC⟩:=aj (iT L n p);rw [hC] at hcb;rw [hC];clear hC;generalize hx:L.getD n nd0=x at *;obtain ⟨ow,ho⟩:∃l,x.own=l:=⟨_,rfl⟩;have q2:=hcell 2 (.int .i64 ow) (by rw [←ho];rfl);rw [ho] at hcb hg;have cb:=pJ.cell 0;clear hcell hB hO;go_enter func155,ntmps155;go_wp2_with fail;refine HO.out.mono ?_;rintro e w1 ⟨rfl,hw1⟩;replace hw1:=hw1.symm;subst hw1;go_wp2_with fail;refine (hfr w).mono ?_;rintro e w2 ⟨rfl,hw2⟩;replace hw2:=hw2.symm;subst hw2;clear hfr;by_cases hp:p<0∨4096<p
 ·have d1:decide (0≤p∧p≤4096)=false:=by rw [decide_eq_false_iff_not];omega
  rw [if_pos hp] at hcb;subst hcb;rw [d1];clear d1;go_wp2_with fail;go_ret;exact ⟨rfl,mR.below pM.out (Below.refl _ _)⟩
 ·have d1:decide (0≤p∧p≤4096)=true:=by rw [decide_eq_true_eq];omega
  rw [if_neg hp] at hcb;rw [d1];clear d1;by_cases hh:ow<p
  ·have d2:decide (ow<p)=true:=by simpa using hh
   rw [if_pos hh] at hcb;subst hcb;go_wp2_with fail;go_ret;exact ⟨rfl,mR.below pM.out (Below.refl _ _)⟩
  ·have d2:decide (ow<p)=false:=by simpa using hh
   rw [if_neg hh] at hcb;subst hcb;have hp2:0≤p∧p≤4096:=by omega
   go_wp2_with fail;have hbd:=(Below.refl w.heap.size w).drew;have vT:=pJ.call hbd;have q2':w.drew.cell? ⟨g,n*5+2,none⟩=some (.int .i64 ow):=q2;have BI:=hput w.drew hbd;have fz:=BI.1;have hP:=ae (BI.2 2 (.int .i64 (ow - p)) (fun x=>{ x with own:=x.own - p }) (by omega) (by unfold iL;simp only;rw [ho];rfl));have hwr:IntKind.i64.wrap (ow - p)=ow - p:=by rw [IntKind.wrap_i64];omega
   refine bO ?_;refine bD (MR b g L.length c2 n 2 ow) [17] (by kernel_rfl) ?_;generalize w.drew=wd at *;have hS:MR b g L.length c2 n 2 ow wd:=⟨vT.cell 0,q2'⟩;have hS2:=hS.2;dsimp only [MR] at hS ⊢;clear hput BI q2 q2' cb;refine aX 0 hS ?_;refine aX 1 hS ?_;refine aX 2 hS ?_;refine aX 3 hS ?_;refine aX 4 hS ?_;refine aX 5 hS ?_;refine aX 6 hS ?_;refine aX 7 hS ?_;refine aX 8 hS ?_;refine aX 9 hS ?_;refine aX 10 hS ?_;refine aX 11 hS ?_;refine aX 12 hS ?_;refine aX 13 hS ?_;refine aX 14 hS ?_;refine aX 15 hS ?_;refine aX 16 hS ?_;refine fu 17 fun K hK=>?_
   go_simp;refine hK.out _ _ (fun h=>absurd h (by decide)) (fun _=>?_);clear hK K hS hS2;refine bz (by kernel_rfl) ?_ _;refine aT ?_;have hT2:=hP.out;generalize wd.setCell ⟨g,n*5+2,none⟩ (.int .i64 (ow - p))=w2 at *;go_wp2_with fail;go_ret;exact ⟨rfl,hT2.1.same (hbo hp2.1),hT2.2⟩
theorem PY (N b n:Nat) (p:Int) (L:List Nd) (w:World) (hB:eP w N b L) (hO:bg L) (hn:n<L.length) :
  Calls prog 96 #[.pointer (some ⟨b,0,none⟩),.int .i64 n,.int .i64 p] w fun e w'=>e= .returned (.int .i64 (jT L n p).1)∧mR N b (jT L n p).2 w w':=by
 have HO:=ae (lM N b n L w hB (zF hO));rw [show decide (0≤(n:Int)∧(n:Int)<(L.length:Int))=true by simp;omega] at HO;have pM:=ae hB;have hfr:=tJ p 0 4096;obtain ⟨g,c2,hc1,hc2,pJ,WV,hgl,hcell,hput⟩:=hB.put hn;have hcb:jT L n p=if p<0∨4096<p then (7,L) else (0,L.modify n fun x=>{ x with lim:=p }):=rfl
 obtain ⟨C,hC⟩:=aj (jT L n p);rw [hC] at hcb;rw [hC];clear hC;generalize hx:L.getD n nd0=x at *;obtain ⟨li,ho⟩:∃l,x.lim=l:=⟨_,rfl⟩;have q2:=hcell 1 (.int .i64 li) (by rw [←ho];rfl);have cb:=pJ.cell 0;clear hcell hB hO;go_enter func96,ntmps96;go_wp2_with fail;refine HO.out.mono ?_;rintro e w1 ⟨rfl,hw1⟩;replace hw1:=hw1.symm;subst hw1;go_wp2_with fail;refine (hfr w).mono ?_;rintro e w2 ⟨rfl,hw2⟩;replace hw2:=hw2.symm;subst hw2;clear hfr;by_cases hp:p<0∨4096<p
 ·have d1:decide (0≤p∧p≤4096)=false:=by rw [decide_eq_false_iff_not];omega
  rw [if_pos hp] at hcb;subst hcb;rw [d1];clear d1;go_wp2_with fail;go_ret;exact ⟨rfl,mR.below pM.out (Below.refl _ _)⟩
 ·have d1:decide (0≤p∧p≤4096)=true:=by rw [decide_eq_true_eq];omega
  rw [if_neg hp] at hcb;rw [d1];clear d1;subst hcb;have BI:=hput w (Below.refl _ _);have fz:=BI.1;have hP:=ae (BI.2 1 (.int .i64 p) (fun x=>{ x with lim:=p }) (by omega) rfl);clear hput BI;go_wp2_with fail;go_ret;exact ⟨rfl,hP.out⟩
theorem WW (N:Nat) (w:World) (hN:N≤w.heap.size) :
  Calls prog 83 #[.int .i64 4096] w fun e w'=>∃b,e= .returned (.tuple #[.pointer (some ⟨b,0,none⟩),.int .i64 0])∧eP w' N b (fo 4096)∧w.heap.size≤b∧Below w.heap.size w w':=by
 have hfr:=tJ 4096 0 4096;obtain ⟨i0,hi0,hi1,hi2,hi3⟩:=qa;go_enter func83,ntmps83;go_wp2_with fail;refine (hfr w).mono ?_;rintro e w2 ⟨rfl,hw2⟩;replace hw2:=hw2.symm;subst hw2;go_wp2_with fail;obtain ⟨s,hs⟩:=aj (w.heap.size);have hb0:=(aV w (.cells (iL ⟨-1,4096,0,0,false,0⟩).toArray 120)).alloc (by simp) (.cells #[.slice (some ⟨s,0,none⟩) 1 1] 227);have k0:=(ag.new w 120 (iL ⟨-1,4096,0,0,false,0⟩).toArray).alloc (.cells #[.slice (some ⟨s,0,none⟩) 1 1] 227);have k1:=ag.new (w.alloc (.cells (iL ⟨-1,4096,0,0,false,0⟩).toArray 120)) 227 #[.slice (some ⟨s,0,none⟩) 1 1];rw [World.size_alloc] at k1;rw [hs] at hb0 k0 k1 hN;simp only [hs];change bodyPost _ _ _ _ _ ((w.alloc (.cells (iL ⟨-1,4096,0,0,false,0⟩).toArray 120)).alloc (.cells #[.slice (some ⟨s,0,none⟩) 1 1] 227));generalize (w.alloc (.cells (iL ⟨-1,4096,0,0,false,0⟩).toArray 120)).alloc (.cells #[.slice (some ⟨s,0,none⟩) 1 1] 227)=w2 at *;go_ret2;exact ⟨s+1,rfl,⟨_,1,k1,rfl,.inr ⟨s,1,_,rfl,hN,k0,Nat.le_refl _,by unfold maxLen;omega,rfl,rfl⟩⟩,by omega,hb0⟩
theorem PZ (N b:Nat) (L:List Nd) (l:Int) (w:World) (hB:eP w N b L) (hO:bg L) (hL:L.length=1) :
  Calls prog 84 #[.pointer (some ⟨b,0,none⟩),.int .i64 0,.int .i64 l] w fun e w'=>e= .returned (.tuple #[.int .i64 (if (fF L l).1=0 then 1 else 0),.int .i64 (fF L l).1])∧eP w' N b (fF L l).2∧af (fun k=>yZ N w k∨k=b) w w':=by
 have hfr:=tJ l 0 4096;have HO:=ae (fun (k:Int)=>lM N b k L w hB (zF hO));rw [hL] at HO;have pM:=ae hB;obtain ⟨A,cap,k,r⟩:=hB.ex;rw [hL] at k r;have cb:=k.cell;obtain ⟨kk,hkk⟩:=aj ((if (fF L l).1=0 then (1:Int) else 0));rw [hkk];obtain ⟨C,hC⟩:=aj (fF L l);rw [hC] at hkk ⊢;have hNs:N≤w.heap.size:=by
  obtain ⟨g,_,_,_,_,hg,hgl,_⟩:=hB.node (i:=0) (by omega);have:=hg.1;omega
 obtain ⟨i0,hi0,hi1,hi2,hi3⟩:=qa;have hob:some b≠(Value.slice A 1 cap).ownBlock:=by
  rcases r.2 with ⟨hv,h0⟩|⟨g,cap',cur,hv,hbs,hk,_⟩
  ·omega
  ·cases hv
   intro e;have e':b=g:=by injection e
   exact ag.uR k (show ag w g 120 cur from hk) (by decide) e'
 go_enter func84,ntmps84;go_wp2_with fail;refine (HO.out 0).mono ?_;rintro e w1 ⟨rfl,hw1⟩;replace hw1:=hw1.symm;subst hw1;go_wp2_with fail;refine (hfr w).mono ?_;rintro e w1 ⟨rfl,hw1⟩;replace hw1:=hw1.symm;subst hw1;by_cases hp:l<0∨4096<l
 ·have hcb:C=(7,L):=by rw [←hC];unfold fF;rw [if_pos hp]
  clear hC;subst hcb;rw [if_neg (show ¬(7:Int)=0 by decide)] at hkk;subst hkk;have d1:decide (0≤l∧l≤4096)=false:=by rw [decide_eq_false_iff_not];omega
  rw [d1];clear hp d1;go_wp2_with fail;go_ret2;exact ⟨rfl,pM.out,af.refl _ _⟩
 ·have hcb:C=(0,L++[⟨(L.length:Int) - 1,l,0,0,false,0⟩]):=by rw [←hC];unfold fF;rw [if_neg hp]
  clear hC;subst hcb;rw [if_pos rfl] at hkk;subst hkk;have d1:decide (0≤l∧l≤4096)=true:=by rw [decide_eq_true_eq];omega
  rw [d1];clear hp d1;go_upto_region 6 with fail
  go_loopw [8] (fun u8 wr=>∃i:Nat,u8= .int .i64 i∧i≤1∧wr=w) (fun u8 _=>1 - (intOf u8).toNat)
  case atStart=>exact ⟨0,rfl,by omega,rfl⟩
  case round =>
   obtain ⟨i,rfl,hi,rfl⟩:=hrel;rcases (by omega:i=0∨i=1) with rfl|rfl
   ·go_wp2_with fail
    refine (HO.out 0).mono ?_;rintro e w1 ⟨rfl,hw1⟩;replace hw1:=hw1.symm;subst hw1;go_wp2_with fail;go_roundw
    case rel=>exact ⟨1,by go_num,by simp⟩
    case measure=>simp [intOf]
   ·have kN:=ag.new wr 120 (iL ⟨0,0,0,0,false,0⟩).toArray
    go_upto_region 12 with (at_builtin;refine wpList_append_own _ rfl (.tmp 43) (.tmp 45) 92 rfl N 120 i0 (.agg #[.int .i64 0,.int .i64 0,.int .i64 0,.int .i64 0,.bool false]) 5 40 underlying92 hi0 hi1 hi2 hi3 rfl (by decide) (.slice A 1 cap) 1 (fl iL L) rfl (r.alloc _) ⟨wr.heap.size,0,none⟩ 1 1 (iL ⟨0,0,0,0,false,0⟩) rfl rfl (xz kN) (fun u hu=>by simp only [iL,List.mem_cons,List.not_mem_nil,or_false] at hu;rcases hu with rfl|rfl|rfl|rfl|rfl <;> rfl) (by unfold maxLen;omega) (by omega) (by simp;omega) ?_;intro v' w3 hown' hgrow _;rw [←Po] at hown';obtain ⟨A',cap',rfl,ZR,hn',hm',_,_⟩:=dC hown';have qI:=(k.alloc (.cells (iL ⟨0,0,0,0,false,0⟩).toArray 120)).grown hgrow hob;have cb3:=qI.cell;have fb3:=qI.frozen)
    obtain ⟨w4,hw4⟩:=aj (w3.setCell ⟨b,0,none⟩ (.slice A' 2 cap'));have F4:af (fun k=>k=b) w3 w4:=by rw [←hw4];exact af.setCell (T:=fun k=>k=b) (p:=⟨b,0,none⟩) (af.refl _ w3) (fun _=>rfl) _
    have Wu:ag w4 b 227 #[.slice A' 2 cap']:=by rw [←hw4];exact qI.aO 0 (.slice A' 2 cap')
    have ajT:(Value.slice A' 2 cap').ownBlock≠some b:=by
     rcases hown'.2 with ⟨hv,h0⟩|⟨g,cap',cur,hv,hbs,hk,_⟩
     ·omega
     ·cases hv
      intro e;have e':g=b:=by injection e
      exact ag.uR qI (show ag w3 g 120 cur from hk) (by decide) e'.symm
    have Cb:=aK hown' F4 (fun g hg e=>ajT (by rw [hg,e]));have hl2:(L++[(⟨0,0,0,0,false,0⟩:Nd)]).length=2:=by simp [hL]
    have hB4:eP w4 N b (L++[⟨0,0,0,0,false,0⟩]):=⟨A',cap',by rw [hl2];exact Wu,by rw [hl2];exact Cb⟩;rw [hw4];obtain ⟨g,cap2,hc1,hc2,pJ,WV,hgl,hcell,hput⟩:=hB4.put (i:=1) (by omega);rw [hl2] at hc1 pJ;have hg1:(L++[(⟨0,0,0,0,false,0⟩:Nd)]).getD 1 nd0=⟨0,0,0,0,false,0⟩:=by rw [←hL];simp
    rw [hg1] at hcell;have p0:=hcell 0 _ rfl;have p1:=hcell 1 _ rfl;have p2:=hcell 2 _ rfl;have p3:=hcell 3 _ rfl;have p4:=hcell 4 _ rfl;have ck2:=pJ.cell;have fz:=(hput w4 (Below.refl _ _)).1;clear hcell hput;go_wp2_with fail;go_ret2;have e2:=(pJ.cell 0).symm.trans (Wu.cell 0);simp at e2;obtain ⟨hA2,rfl⟩:=e2;subst hA2;have F0:af (fun k=>yZ N wr k∨k=b) wr w4:=(((af.refl _ wr).alloc _).grown hgrow (fun g0 hg0 _=>.inl (by
     rcases r.2 with ⟨hv,h0⟩|⟨g1,cap',cur,hv,hbs,hk,_⟩
     ·omega
     ·cases hv
      have e':g1=g0:=by injection hg0
      subst e';exact ⟨hbs,cur,hk⟩))).trans (F4.mono (fun k _ e=>.inr e))
    have hbg:b≠g:=fun e=>WV.2.elim fun cs hcs=>ag.uR pJ hcs (by decide) e
    have r5:=gX (i:=9) (v:=.bool false) (gX (i:=8) (v:=.int .i64 0) (gX (i:=7) (v:=.int .i64 0) (gX (i:=6) (v:=.int .i64 l) (gX (i:=5) (v:=.int .i64 0) Cb))));have F5:af (fun k=>k=g) w4 (((((w4.setCell ⟨g,5,none⟩ (.int .i64 0)).setCell ⟨g,6,none⟩ (.int .i64 l)).setCell ⟨g,7,none⟩ (.int .i64 0)).setCell ⟨g,8,none⟩ (.int .i64 0)).setCell ⟨g,9,none⟩ (.bool false)):=af.setCell (T:=fun k=>k=g) (p:=⟨g,9,none⟩) (af.setCell (T:=fun k=>k=g) (p:=⟨g,8,none⟩) (af.setCell (T:=fun k=>k=g) (p:=⟨g,7,none⟩) (af.setCell (T:=fun k=>k=g) (p:=⟨g,6,none⟩) (af.setCell (T:=fun k=>k=g) (p:=⟨g,5,none⟩) (af.refl _ w4) (fun _=>rfl) _) (fun _=>rfl) _) (fun _=>rfl) _) (fun _=>rfl) _) (fun _=>rfl) _;obtain ⟨x,rfl⟩:∃x,L=[x]:=List.length_eq_one_iff.1 hL;refine ⟨rfl,⟨_,_,F5.blk pJ hbg,r5⟩,F0.trans' F5 (fun k hk e=>?_)⟩;subst e;by_cases h:yZ N wr k∨k=b
    ·exact h
    ·have hs:=F0.block k hk h
     obtain ⟨h1,cs,h2⟩:=WV;exact .inl ⟨h1,cs,by unfold ag at h2 ⊢;rw [←hs];exact h2⟩
theorem Tn (N b:Nat) (L:List Nd) (w:World) (hB:eP w N b L) (hO:L.length≤64) (h1:1≤L.length) :
  Calls prog 148 #[.pointer (some ⟨b,0,none⟩)] w fun e w'=>(∃(A:Option Addr) (cap:Nat),e= .returned (.agg #[.slice A L.length cap])∧Rd w' w'.heap.size A (fl iL L)∧L.length≤cap∧cap≤maxLen)∧Below w.heap.size w w':=by
 obtain ⟨A,cap,k,r⟩:=hB.ex;have cb:=k.cell;obtain ⟨i0,hi0,hi1,hi2,hi3⟩:=qa;have hb0:=(aV w (.cells #[.slice none 0 0] 94)).alloc (by simp) (.cells #[] 120);have k0:=(ag.new w 94 #[.slice none 0 0]).alloc (.cells #[] 120);have k1:=ag.new (w.alloc (.cells #[.slice none 0 0] 94)) 120 #[];rw [World.size_alloc] at k1;have hkb:=k.call hb0;have kb:=hkb.cell;have hr2:=aB r hb0;obtain ⟨s,hs⟩:=aj (w.heap.size);have hz2:((w.alloc (.cells #[.slice none 0 0] 94)).alloc (.cells #[] 120)).heap.size=s+2:=by simp [hs]
 obtain ⟨g,hg,hA,hcell⟩:∃g,A=some ⟨g,0,none⟩∧g<w.heap.size∧(∀(j:Nat) (u:Value),(fl iL L)[j]? = some u→((w.alloc (.cells #[.slice none 0 0] 94)).alloc (.cells #[] 120)).cell? ((⟨g,0,none⟩:Addr).add j)=some u):=by
  rcases hr2.2 with ⟨hv,h0⟩|⟨g,cap',cur,hv,hbs,hk,hn,hm,_,ht⟩
  ·omega
  ·cases hv
   refine ⟨g,rfl,?_,fun j u hu=>?_⟩
   ·rcases r.2 with ⟨hv,_⟩|⟨g2,_,_,hv,_,hk2,_⟩
    ·cases hv
    ·cases hv;exact ag.lt hk2
   ·exact hr2.cells (g:=g) rfl j u hu
 subst hg;have hlen:(fl iL L).length=L.length*5:=hr2.1;have AQ:((w.alloc (.cells #[.slice none 0 0] 94)).alloc (.cells #[] 120)).ownsRow (s+1) 120 5 (.slice (some ⟨s+1,0,none⟩) 0 0) 0 (fl iL []):=⟨rfl,.inr ⟨s+1,0,_,rfl,Nat.le_refl _,by rw [←hs];exact k1,Nat.le_refl _,by unfold maxLen;omega,rfl,rfl⟩⟩;have hone:∀u∈fl iL L,u.oneCell'=true:=fun u hu=>by
  unfold fl at hu;obtain ⟨x,_,hx⟩:=List.mem_flatMap.1 hu;simp only [iL,List.mem_cons,List.not_mem_nil,or_false] at hx;rcases hx with rfl|rfl|rfl|rfl|rfl <;> rfl
 clear r hB hr2 k;rw [hs] at k0 k1 hb0;go_enter func148,ntmps148;simp only [hs]
 go_wp2_with (at_builtin;refine wpList_append_own _ rfl (.tmp 3) (.tmp 7) 92 rfl (s+1) 120 i0 (.agg #[.int .i64 0,.int .i64 0,.int .i64 0,.int .i64 0,.bool false]) 5 40 underlying92 hi0 hi1 hi2 hi3 rfl (by decide) _ 0 (fl iL []) rfl AQ ⟨g,0,none⟩ L.length cap (fl iL L) rfl hlen hcell hone (by unfold maxLen;omega) (by omega) (by simp;omega) ?_;intro v' w3 hown' hgrow _;have ZT:=k0.grown hgrow (fun e=>by have:=(AQ.lt s e.symm).1;omega);obtain ⟨A',cap',rfl,ZR,hn',hm',_,_⟩:=dC hown';have ck3:=ZT.cell;have fk3:=ZT.frozen)
 have k05:=ZT.aO 0 (.slice A' L.length cap');have B3:=hb0.grown hgrow (by rw [hz2];omega) (fun k hk=>by have:=(AQ.lt k hk).1;omega);have F5:af (fun k=>k=s) w3 (w3.setCell ⟨s,0,none⟩ (.slice A' L.length cap')):=af.setCell (T:=fun k=>k=s) (p:=⟨s,0,none⟩) (af.refl _ w3) (fun _=>rfl) _;have hz3:=hgrow.size;rw [hz2] at hz3;have B5:=B3.trans (F5.below (by omega) (fun k hk e=>by omega));rw [Nat.zero_add] at hown';have ZU:=aK hown' F5 (fun g hg=>by have:=(hown'.lt g hg).1;omega);generalize w3.setCell _ _=w5 at *;have c5:=k05.cell;refine bodyPost_ret (v:=.agg #[.slice A' L.length cap']) (by simp [results,results148,go_sem,c5]) rfl ?_;obtain ⟨A2,cap2,he,UW,hn2,hm2,_,_⟩:=dC ZU;cases he;exact ⟨⟨A',cap',rfl,UW,hn2,hm2⟩,B5⟩
theorem ajU (a b c d:Int) (e:Bool) (w:World):(Op.equalIn 10000 120 (.agg #[.int .i64 a,.int .i64 b,.int .i64 c,.int .i64 d,.bool e]) (.agg #[.int .i64 a,.int .i64 b,.int .i64 c,.int .i64 d,.bool e])).run prog w= .ok true w:=by
 have u3:=underlying3;have a3:=Tryz.isAgg3;have z3:=Tryz.sizeOf3;have u4:=underlying4;have a4:=Tryz.isAgg4;have z4:=Tryz.sizeOf4;rw [show (10000:Nat)=9999+1 from rfl];go_simp;try simp
theorem Qa (A B:Option Addr) (n cap cap':Nat) (L:List Nd) (w:World) (hn:L.length=n) (hm:n≤64) (hr:Rd w w.heap.size A (fl iL L)) (hs:Rd w w.heap.size B (fl iL L)) :
  Calls prog 147 #[.agg #[.slice A n cap],.agg #[.slice B n cap']] w fun e w'=>e= .returned (.bool true)∧Below w.heap.size w w':=by
 have hb0:=(aV w (.cells #[.slice A n cap] 94)).alloc (by simp) (.cells #[.slice B n cap'] 94);have k0:=(ag.new w 94 #[.slice A n cap]).alloc (.cells #[.slice B n cap'] 94);have k1:=ag.new (w.alloc (.cells #[.slice A n cap] 94)) 94 #[.slice B n cap'];obtain ⟨s,hs0⟩:=aj (w.heap.size);rw [World.size_alloc,hs0] at k1;rw [hs0] at k0;have R1:=ae (And.intro (hr.fw hb0) (hs.fw hb0));have PQ:=ae hn;have e1:((n:Int) != (n:Int))=false:=by simp
 clear hr hs hn;go_enter func147,ntmps147;go_upto_region 1 with fail
 generalize (w.alloc _).alloc _=w0 at *;try simp only [hs0]
 have c0:=k0.cell;have c1:=k1.cell;go_wp2_with fail
 go_loopw [5] (fun u wr=>∃i:Nat,i≤n∧u= .int .i64 i∧Below w0.heap.size w0 wr) (fun u _=>n - (intOf u).toNat)
 case atStart=>exact ⟨0,by omega,rfl,Below.refl _ _⟩
 case round =>
  obtain ⟨i,hi,rfl,hB⟩:=hrel;have kr:=k0.call hB;have kq:=k1.call hB;have cr:=kr.cell;by_cases hlt:i<n
  ·have hlt':decide ((i:Int)<(n:Int))=true:=by simpa using hlt
   have hin:(i:Int)<(n:Int):=by omega
   obtain ⟨b,o,rfl,hb,hc⟩:=(R1.out.1.fw hB).elem tF (by omega) nd0 (k:=i) (by have:=PQ.out;omega);obtain ⟨b',o',rfl,hb',hc'⟩:=(R1.out.2.fw hB).elem tF (by omega) nd0 (k:=i) (by have:=PQ.out;omega);generalize L.getD i nd0=x at *;have hq:=fun W=>ajU x.par x.lim x.own x.iZ x.cl W
   obtain ⟨xp,xl,xo,xk,xc,xa⟩:=x;have x0:=hc 0 _ rfl;have x1:=hc 1 _ rfl;have x2:=hc 2 _ rfl;have x3:=hc 3 _ rfl;have x4:=hc 4 _ rfl;have y0:=hc' 0 _ rfl;have y1:=hc' 1 _ rfl;have y2:=hc' 2 _ rfl;have y3:=hc' 3 _ rfl;have y4:=hc' 4 _ rfl;simp only [Nat.add_zero] at x0 y0;have e0:=fun z:Ext wr=>(z.blk kr).cell
   have e1:=fun z:Ext wr=>(z.blk kq).cell
   have a0:=fun z:Ext wr=>z.cell x0
   have a1:=fun z:Ext wr=>z.cell x1
   have a2:=fun z:Ext wr=>z.cell x2
   have a3:=fun z:Ext wr=>z.cell x3
   have a4:=fun z:Ext wr=>z.cell x4
   have b0:=fun z:Ext wr=>z.cell y0
   have b1:=fun z:Ext wr=>z.cell y1
   have b2:=fun z:Ext wr=>z.cell y2
   have b3:=fun z:Ext wr=>z.cell y3
   have b4:=fun z:Ext wr=>z.cell y4
   clear hc hc' x0 x1 x2 x3 x4 y0 y1 y2 y3 y4;go_upto_region 6 with fail
   clear cr;refine aF (by kernel_rfl) (by kernel_rfl) ?_
   repeat (go_big_quiet_step (fail))
   refine wpQuiet_nil ?_;rintro w2 ⟨⟨_,hw2⟩,rfl⟩;go_wp2_with fail;go_roundw
   case rel=>exact ⟨i+1,by omega,by go_num,hB.trans (hw2.mono hB.size)⟩
   case measure=>simp [intOf];omega
  ·obtain rfl:i=n:=by omega
   have hlt':decide ((i:Int)<(i:Int))=false:=by simp
   go_wp2_with fail;go_ret;exact ⟨rfl,hb0.trans (hB.mono hb0.size)⟩
theorem jF (r:Cr) (A:Option Addr) (cap:Nat) (w:World) (hcap:r.kept.length≤cap) (hcm:cap≤maxLen) (hr:RU w w.heap.size A r.kept) :
  Calls prog 35 #[.agg (ai r (.slice A r.kept.length cap))] w fun e w'=>e= .returned (.int .i64 (bE r))∧Below w.heap.size w w':=by
 have HC:=ae (fun W=>vB r.pg r.n r.f r.bk r.ev W);rw [wU] at HC;obtain ⟨R,hR⟩:=aj (bE r);rw [hR];unfold bE at hR;obtain ⟨pg,n,f,bk,ev,node,live,K,cl⟩:=r;simp only at hcap hcm hr HC hR ⊢;obtain ⟨U,hU⟩:=aj (oG ⟨pg,n,f,bk,ev,node,live,K,cl⟩);rw [hU] at HC hR;generalize bN pg n f bk ev=ck at *;generalize (lC pg n f bk ev).2=V2 at *;obtain ⟨m,hm0⟩:=aj (K.length);rw [hm0] at hcap hR ⊢;have hm:=ae hm0;have LD:m≤9223372036854775807:=by unfold maxLen at hcm;omega
 have hb0:=aV w (.cells (ai ⟨pg,n,f,bk,ev,node,live,K,cl⟩ (.slice A m cap)) 43);have k0:=ag.new w 43 (ai ⟨pg,n,f,bk,ev,node,live,K,cl⟩ (.slice A m cap));have hr0:=hr.on hb0;dsimp only [ai] at k0 hb0 hr0 ⊢;have c0:=k0.cell;have hU:=ae hU;clear hm0 hr;by_cases h0:ck=0
 case neg =>
  have h0':(ck != 0)=true:=by simpa using h0
  have hR2:Hid (R=ck):=ae (by rw [←hR,if_pos h0]);clear hR h0;go_enter func35,ntmps35
  go_wp2_with (first
   | (go_at_call 99;refine (HC.out _).mono ?_;rintro e w1 ⟨rfl,hb1⟩;have k1:=k0.call hb1;have c1:=k1.cell;have B1:=hb0.trans (hb1.mono hb0.size);have r1:=hr0.on hb1)
   | (go_at_call 100;refine (dR A _ cap K w1 hm.out (by omega) r1).mono ?_;rintro e w2 ⟨rfl,hb2⟩;have k2:=k1.call hb2;have c2:=k2.cell;have B2:=B1.trans (hb2.mono B1.size);have r2:=r1.on hb2))
  go_ret;rw [hR2.out];exact ⟨rfl,B1⟩
 subst h0;rw [if_neg (by simp)] at hR;by_cases a1:live<0
 ·have d1:decide (live<0)=true:=by simpa using a1
  have hR2:Hid (R=7):=ae (by rw [←hR,if_pos (.inl a1)]);clear hR a1;go_enter func35,ntmps35
  go_wp2_with (first
   | (go_at_call 99;refine (HC.out _).mono ?_;rintro e w1 ⟨rfl,hb1⟩;have k1:=k0.call hb1;have c1:=k1.cell;have B1:=hb0.trans (hb1.mono hb0.size);have r1:=hr0.on hb1)
   | (go_at_call 100;refine (dR A _ cap K w1 hm.out (by omega) r1).mono ?_;rintro e w2 ⟨rfl,hb2⟩;have k2:=k1.call hb2;have c2:=k2.cell;have B2:=B1.trans (hb2.mono B1.size);have r2:=r1.on hb2))
  go_ret;rw [hR2.out];exact ⟨rfl,B1⟩
 have d1:decide (live<0)=false:=by simpa using a1
 by_cases a2:U<live
 ·have d2:decide (U<live)=true:=by simpa using a2
  have hR2:Hid (R=7):=ae (by rw [←hR,if_pos (.inr (.inl a2))]);clear hR a1 a2;go_enter func35,ntmps35
  go_wp2_with (first
   | (go_at_call 99;refine (HC.out _).mono ?_;rintro e w1 ⟨rfl,hb1⟩;have k1:=k0.call hb1;have c1:=k1.cell;have B1:=hb0.trans (hb1.mono hb0.size);have r1:=hr0.on hb1)
   | (go_at_call 100;refine (dR A _ cap K w1 hm.out (by omega) r1).mono ?_;rintro e w2 ⟨rfl,hb2⟩;have k2:=k1.call hb2;have c2:=k2.cell;have B2:=B1.trans (hb2.mono B1.size);have r2:=r1.on hb2))
  go_ret;rw [hR2.out];exact ⟨rfl,B1⟩
 have d2:decide (U<live)=false:=by simpa using a2
 by_cases a3:node<0
 ·have d3:decide (node<0)=true:=by simpa using a3
  have hR2:Hid (R=7):=ae (by rw [←hR,if_pos (.inr (.inr (.inl a3)))]);clear hR a1 a2 a3;go_enter func35,ntmps35
  go_wp2_with (first
   | (go_at_call 99;refine (HC.out _).mono ?_;rintro e w1 ⟨rfl,hb1⟩;have k1:=k0.call hb1;have c1:=k1.cell;have B1:=hb0.trans (hb1.mono hb0.size);have r1:=hr0.on hb1)
   | (go_at_call 100;refine (dR A _ cap K w1 hm.out (by omega) r1).mono ?_;rintro e w2 ⟨rfl,hb2⟩;have k2:=k1.call hb2;have c2:=k2.cell;have B2:=B1.trans (hb2.mono B1.size);have r2:=r1.on hb2))
  go_ret;rw [hR2.out];exact ⟨rfl,B1⟩
 have d3:decide (node<0)=false:=by simpa using a3
 by_cases a4:64≤node
 ·have d4:decide (64≤node)=true:=by simpa using a4
  have hR2:Hid (R=7):=ae (by rw [←hR,if_pos (.inr (.inr (.inr a4)))]);clear hR a1 a2 a3 a4;go_enter func35,ntmps35
  go_wp2_with (first
   | (go_at_call 99;refine (HC.out _).mono ?_;rintro e w1 ⟨rfl,hb1⟩;have k1:=k0.call hb1;have c1:=k1.cell;have B1:=hb0.trans (hb1.mono hb0.size);have r1:=hr0.on hb1)
   | (go_at_call 100;refine (dR A _ cap K w1 hm.out (by omega) r1).mono ?_;rintro e w2 ⟨rfl,hb2⟩;have k2:=k1.call hb2;have c2:=k2.cell;have B2:=B1.trans (hb2.mono B1.size);have r2:=r1.on hb2))
  go_ret;rw [hR2.out];exact ⟨rfl,B1⟩
 have d4:decide (64≤node)=false:=by simpa using a4
 rw [if_neg (by omega)] at hR;clear a1 a2 a3 a4;have hK:Hid (dX K=dX K):=ae rfl;by_cases a5:dX K=0
 case neg =>
  have d5:(dX K != 0)=true:=by simpa using a5
  have hR2:Hid (R=6):=ae (by rw [←hR,if_pos (.inl a5)]);clear hR a5;go_enter func35,ntmps35
  go_wp2_with (first
   | (go_at_call 99;refine (HC.out _).mono ?_;rintro e w1 ⟨rfl,hb1⟩;have k1:=k0.call hb1;have c1:=k1.cell;have B1:=hb0.trans (hb1.mono hb0.size);have r1:=hr0.on hb1)
   | (go_at_call 100;refine (dR A _ cap K w1 hm.out (by omega) r1).mono ?_;rintro e w2 ⟨rfl,hb2⟩;have k2:=k1.call hb2;have c2:=k2.cell;have B2:=B1.trans (hb2.mono B1.size);have r2:=r1.on hb2))
  go_ret;rw [hR2.out];exact ⟨rfl,B2⟩
 have d5:(dX K != 0)=false:=by simpa using a5
 by_cases a6:cl=true∧(live≠0∨m≠0)
 ·obtain ⟨rfl,a7⟩:=a6
  have hR2:Hid (R=6):=ae (by rw [←hR,if_pos (.inr ⟨rfl,a7⟩)]);by_cases a8:live=0
  ·have a9:¬m=0:=by rcases a7 with h|h;exact absurd a8 h;exact h
   have d8:(live != 0)=false:=by simpa using a8
   have d9:decide ((0:Int)<(m:Int))=true:=by rw [decide_eq_true_eq];omega
   have d9':0<m:=by omega
   clear hR a5 a7 a8 a9;go_enter func35,ntmps35
   go_wp2_with (first
    | (go_at_call 99;refine (HC.out _).mono ?_;rintro e w1 ⟨rfl,hb1⟩;have k1:=k0.call hb1;have c1:=k1.cell;have B1:=hb0.trans (hb1.mono hb0.size);have r1:=hr0.on hb1)
    | (go_at_call 100;refine (dR A _ cap K w1 hm.out (by omega) r1).mono ?_;rintro e w2 ⟨rfl,hb2⟩;have k2:=k1.call hb2;have c2:=k2.cell;have B2:=B1.trans (hb2.mono B1.size);have r2:=r1.on hb2))
   go_ret;rw [hR2.out];exact ⟨rfl,B2⟩
  ·have d8:(live != 0)=true:=by simpa using a8
   clear hR a5 a7 a8;go_enter func35,ntmps35
   go_wp2_with (first
    | (go_at_call 99;refine (HC.out _).mono ?_;rintro e w1 ⟨rfl,hb1⟩;have k1:=k0.call hb1;have c1:=k1.cell;have B1:=hb0.trans (hb1.mono hb0.size);have r1:=hr0.on hb1)
    | (go_at_call 100;refine (dR A _ cap K w1 hm.out (by omega) r1).mono ?_;rintro e w2 ⟨rfl,hb2⟩;have k2:=k1.call hb2;have c2:=k2.cell;have B2:=B1.trans (hb2.mono B1.size);have r2:=r1.on hb2))
   go_ret;rw [hR2.out];exact ⟨rfl,B2⟩
 have hcl:cl=false∨(cl=true∧live=0∧m=0):=by
  cases cl with
  | false=>exact .inl rfl
  | true =>
   refine .inr ⟨rfl,?_,?_⟩
   ·by_cases h:live=0
    ·exact h
    ·exact absurd ⟨rfl,.inl h⟩ a6
   ·by_cases h:m=0
    ·exact h
    ·exact absurd ⟨rfl,.inr h⟩ a6
 rw [if_neg (by rintro (h|h);exact h a5;exact a6 h)] at hR;clear a6;have qP:Go.Pol.Can K:=bP.1 a5;have adL:=fun x (hx:x∈K)=>av.1 (qP.1 x hx)
 have xV:=hU.out;have jH:Hid (R=if ∃x∈K,CU ⟨pg,n,f,bk,ev,node,live,K,cl⟩ x=true then 6 else 0):=ae (by
  have h:=aac (r:=⟨pg,n,f,bk,ev,node,live,K,cl⟩) qP;simp only [hm.out,xV] at h;rw [←hR];by_cases hh:∃x∈K,CU ⟨pg,n,f,bk,ev,node,live,K,cl⟩ x=true
  ·rw [if_pos hh,if_pos (h.2 hh)]
  ·rw [if_neg hh,if_neg (fun e=>hh (h.1 e))])
 have hout:Hid (∀x,CU ⟨pg,n,f,bk,ev,node,live,K,cl⟩ x=(decide (x.1<live)||decide (U<x.1+x.2))):=ae (fun x=>by unfold CU;simp only;rw [xV]);have hvH:=ae adL;have ajV:=ae (fun W (h:RU W W.heap.size A K) (k:Nat) (hk:k<m)=>h.at_' (k:=k) (by have:=hm.out;omega));clear hR a5 qP adL xV;have hl0:(cl=false)∨(cl=true∧(live != 0)=false∧decide ((0:Int)<(m:Int))=false):=by
  rcases hcl with h|⟨h1,h2,h3⟩
  ·exact .inl h
  ·exact .inr ⟨h1,by simpa using h2,by rw [h3];simp⟩
 clear hcl;rcases hl0 with rfl|⟨rfl,f1,f2⟩
 ·go_enter func35,ntmps35
  go_wp2_with (first
   | (go_at_call 99;refine (HC.out _).mono ?_;rintro e w1 ⟨rfl,hb1⟩;have k1:=k0.call hb1;have c1:=k1.cell;have B1:=hb0.trans (hb1.mono hb0.size);have r1:=hr0.on hb1)
   | (go_at_call 100;refine (dR A _ cap K w1 hm.out (by omega) r1).mono ?_;rintro e w2 ⟨rfl,hb2⟩;have k2:=k1.call hb2;have c2:=k2.cell;have B2:=B1.trans (hb2.mono B1.size);have r2:=r1.on hb2))
  go_loopw [6] (fun u wr=>∃i:Nat,i≤m∧u= .int .i64 i∧(∀k,k<i→CU ⟨pg,n,f,bk,ev,node,live,K,false⟩ (K.getD k (0,0))=false)∧Below w2.heap.size w2 wr) (fun u _=>m - (intOf u).toNat)
  case atStart=>exact ⟨0,by omega,rfl,fun k hk=>by omega,Below.refl _ _⟩
  case round =>
   obtain ⟨i,hi,rfl,hno,hB⟩:=hrel;have KZ:=ae hno;clear hno;have k3:=k2.call hB;have c3:=k3.cell;have B3:=B2.trans (hB.mono B2.size);by_cases hlt:i<m
   ·have d1:decide ((i:Int)<(m:Int))=true:=by simpa using hlt
    have MU:K.getD i (0,0)∈K:=by rw [List.getD_eq_getElem?_getD,List.getElem?_eq_getElem (by have:=hm.out;omega)];exact List.getElem_mem _
    have hv:=hvH.out _ MU;have hoi:=hout.out (K.getD i (0,0));obtain ⟨b,o,hA,hb,x0,x1⟩:=ajV.out wr (r2.on hB) i hlt;have hKH:=ae MU;generalize hx:K.getD i (0,0)=x at *;have CS:=ae hx;obtain ⟨xa,xb⟩:=x;simp only at hv hoi x0 x1;subst hA;have hwx:IntKind.i64.wrap (xa+xb)=xa+xb:=by rw [IntKind.wrap_i64];omega
    have e0:=fun z:Ext wr=>z.cell x0
    have e1:=fun z:Ext wr=>z.cell x1
    have e2:=fun z:Ext wr=>(z.blk k3).cell
    clear hx MU x0 x1;by_cases ho:xa<live
    ·have o1:decide (xa<live)=true:=by simpa using ho
     have zP:Hid (R=6):=ae (by rw [jH.out,if_pos ⟨_,hKH.out,by rw [hoi,o1];rfl⟩]);clear hoi ho;go_upto_region 11 with fail
     clear c3;refine aF (by kernel_rfl) (by kernel_rfl) ?_
     repeat (go_big_quiet_step (fail))
     refine wpQuiet_nil ?_;rintro w4 ⟨⟨_,hw4⟩,rfl⟩;go_wp2_with fail;go_ret;rw [zP.out];exact ⟨rfl,B3.trans (hw4.mono B3.size)⟩
    ·have o1:decide (xa<live)=false:=by simpa using ho
     by_cases ho2:U<xa+xb
     ·have o2:decide (U<xa+xb)=true:=by simpa using ho2
      have zP:Hid (R=6):=ae (by rw [jH.out,if_pos ⟨_,hKH.out,by rw [hoi,o1,o2];rfl⟩]);clear hoi ho ho2;go_upto_region 11 with fail
      clear c3;refine aF (by kernel_rfl) (by kernel_rfl) ?_
      repeat (go_big_quiet_step (fail))
      refine wpQuiet_nil ?_;rintro w4 ⟨⟨_,hw4⟩,rfl⟩;go_wp2_with fail;go_ret;rw [zP.out];exact ⟨rfl,B3.trans (hw4.mono B3.size)⟩
     ·have o2:decide (U<xa+xb)=false:=by simpa using ho2
      rw [o1,o2] at hoi;have hoH:=ae hoi;clear hoi ho ho2;go_upto_region 11 with fail
      clear c3;refine aF (by kernel_rfl) (by kernel_rfl) ?_
      repeat (go_big_quiet_step (fail))
      refine wpQuiet_nil ?_;rintro w4 ⟨⟨_,hw4⟩,rfl⟩;go_wp2_with fail;go_roundw
      case rel=>exact ⟨i+1,by omega,by go_num,fun k hk=>by
       rcases Nat.lt_or_eq_of_le (Nat.le_of_lt_succ hk) with h|h
       ·exact KZ.out k h
       ·subst h;rw [CS.out,hoH.out];rfl,hB.trans (hw4.mono hB.size)⟩
      case measure=>simp [intOf];omega
   ·obtain rfl:i=m:=by omega
    have d1:decide ((i:Int)<(i:Int))=false:=by simp
    have zP:Hid (R=0):=ae (by
     rw [jH.out,if_neg];rintro ⟨x,hx,ho⟩;obtain ⟨k,hk,rfl⟩:=List.getElem_of_mem hx;have:=KZ.out k (by have:=hm.out;omega);rw [List.getD_eq_getElem?_getD,List.getElem?_eq_getElem hk] at this;rw [Option.getD_some,ho] at this;cases this)
    clear jH KZ;go_wp2_with fail;go_ret;rw [zP.out];exact ⟨rfl,B3⟩
 ·have f3:m=0:=by
   have:¬(0:Int)<(m:Int):=by simpa using f2
   omega
  subst f3;have zP:Hid (R=0):=ae (by
   rw [jH.out,if_neg];rintro ⟨x,hx,_⟩;rw [List.eq_nil_of_length_eq_zero hm.out] at hx;cases hx)
  clear jH f2;go_enter func35,ntmps35
  go_wp2_with (first
   | (go_at_call 99;refine (HC.out _).mono ?_;rintro e w1 ⟨rfl,hb1⟩;have k1:=k0.call hb1;have c1:=k1.cell;have B1:=hb0.trans (hb1.mono hb0.size);have r1:=hr0.on hb1)
   | (go_at_call 100;refine (dR A _ cap K w1 hm.out (by omega) r1).mono ?_;rintro e w2 ⟨rfl,hb2⟩;have k2:=k1.call hb2;have c2:=k2.cell;have B2:=B1.trans (hb2.mono B1.size);have r2:=r1.on hb2))
  go_loopw [6] (fun u wr=>u= .int .i64 0∧Below w2.heap.size w2 wr) (fun u _=>0)
  case atStart=>exact ⟨rfl,Below.refl _ _⟩
  case round =>
   obtain ⟨rfl,hB⟩:=hrel;have c3:=(k2.call hB).cell;have B3:=B2.trans (hB.mono B2.size);go_wp2_with fail;go_ret;rw [zP.out];exact ⟨rfl,B3⟩
end Go.Proofs.YtjmmgoijnhnnaaaGreat
