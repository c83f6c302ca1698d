/- Texts QWalkU, CWalkY, RWalkA, CSpecA, ZWalkS, ZWalkT, ZWalkYA, HWalkR, ZWalkYB, ZWalkYC, ZWalkYD, QWalkO, ZWalkYE, ZLibV, ZWalkYF, ZLibW, ZWalkYG, ZWalkYH, . -/
import Derived.Deep.CutRange
import Derived.OwnWalk
import Derived.Laws.CopyRow
import Derived.Lib.AppendZerosOnto
import Derived.Deep.DeepAppendWide
import Derived.Lib.Overlaps
import Derived.Shelf.RegionOpenPlain
import Derived.Laws.Externs
import Derived.Test.YtlgcpjhimomiaaaGreatO7
set_option maxRecDepth 100000
set_option maxHeartbeats 12800000
namespace Go.Pol
open Go Go.RowKit Go.Proofs.Tryz
def iW (x:Nd):List Value:=[zI x.par,zI x.lim,zI x.own,zI x.jk,.bool x.cl]
theorem uo (x:Nd):(iW x).length=5:=rfl
theorem D6 (L:List Nd) (i:Nat) (hi:i<L.length):L.take (i+1)=L.take i++[L.getD i nd0]:=by
 rw [List.take_add_one,List.getElem?_eq_getElem hi,Option.toList_some,List.getD_eq_getElem?_getD,List.getElem?_eq_getElem hi];rfl
structure ed (w:World) (N b:Nat) (L:List Nd):Prop where
 ex:∃(A:Option Addr) (cap:Nat),af w b 180 #[.slice A L.length cap]/\w.ownsRow N 140 5 (.slice A L.length cap) L.length (fl iW L)
def zV (N:Nat) (w:World) (k:Nat):Prop:=N<=k/\∃cs,af w k 140 cs
theorem ed.lt {w:World} {N b:Nat} {L:List Nd} (h:ed w N b L):b<w.heap.size:=by
 obtain ⟨A,cap,k,_⟩:=h.ex;exact k.lt
theorem ed.far {w w':World} {N b:Nat} {L:List Nd} {T:Nat->Prop} (h:ed w N b L) (hF:ag T w w') (hb:¬T b) (hN:∀k,zV N w k->¬T k):ed w' N b L:=by
 obtain ⟨A,cap,k,r⟩:=h.ex;refine ⟨A,cap,hF.blk k hb,aN r hF (λg hg ht=>?_)⟩;rcases r.2 with ⟨hv,_⟩|⟨g',cap',cur,hv,hbs,hk,_⟩
 ·rw [hv] at hg;cases hg
 ·rw [hv] at hg
  have e:g'=g:=by injection hg
  subst e;exact hN g' ⟨hbs,cur,hk⟩ ht
theorem ed.call {w w':World} {N b:Nat} {L:List Nd} (h:ed w N b L) (hb:Below w.heap.size w w'):ed w' N b L :=
 h.far (T:=λ_=>False) (ag.of_below hb) id (λ_ _ h=>h)
instance {w w':World} {N b:Nat} {L:List Nd}:ZC w w' (ed w N b L) (ed w' N b L):=⟨λh k=>k.call h⟩
theorem ed.node {w:World} {N b:Nat} {L:List Nd} (h:ed w N b L) {i:Nat} (hi:i<L.length) :
  ∃(g cap:Nat),L.length<=cap/\cap<=maxLen/\af w b 180 #[.slice (some ⟨g,0,none⟩) L.length cap]/\zV N w g/\g<w.heap.size/\(∀j,j<L.length->∀(q:Nat) (v:Value),(iW (L.getD j nd0))[q]? = some v->w.cell? ⟨g,j*5+q,none⟩=some v)/\(∀o,w.frozen? ⟨g,o,none⟩=false):=by
 obtain ⟨A,cap,k,r⟩:=h.ex;rcases r.2 with ⟨hv,h0⟩|⟨g,cap',cur,hv,hbs,hk,hn,hm,_,ht⟩
 ·omega
 ·cases hv
  refine ⟨g,cap,hn,hm,k,⟨hbs,cur,hk⟩,af.lt hk,λj hj q v hq=>?_,λo=>af.frozen hk o⟩;have yH:q<5:=by rw [<-uo (L.getD j nd0)];exact (List.getElem?_eq_some_iff.1 hq).1
  have h1:=yV uo nd0 L j hj q yH;rw [hq] at h1;have:=r.cells (g:=g) rfl (j*5+q) v h1;exact OC
def mR (i:Int) (k:Nat):List Int:=(List.range k).map λ(j:Nat)=>i - j
theorem Sn (i:Int) (k:Nat):mR i (k+1)=mR i k++[i - k]:=by simp [mR,List.range_succ]
theorem uq (i:Int) (k:Nat):(mR i k).length=k:=by simp [mR]
theorem NT (i:Int) {k j:Nat} (h:j<k):(mR i k).getD j 0=i - j:=by
 rw [List.getD_eq_getElem?_getD,List.getElem?_eq_getElem (by rw [uq];exact h)];simp [mR]
theorem JN {i k:Nat} {n:Int}:n∈mR i k↔n<=i/\(i:Int) - n<k:=by
 unfold mR;rw [List.mem_map];constructor
 ·rintro ⟨j,hj,rfl⟩
  have:=List.mem_range.1 hj;omega
 ·rintro ⟨h1,h2⟩
  exact ⟨((i:Int) - n).toNat,List.mem_range.2 zo,zo⟩
theorem sI:∀(a b:List Nd),iw (a++b)=iw a+iw b
 | [],b=>by simp [iw]
 | x::a,b=>by rw [List.cons_append,iw,iw,sI a b];omega
def yz (L:List Nd) (n i:Nat):Int:=iw ((L.take i).drop n)
theorem WR (L:List Nd) (n:Nat) {i:Nat} (hi:i<L.length):yz L n (i+1)=yz L n i+if n<=i then (L.getD i nd0).own else 0:=by
 unfold yz;rw [D6 L i hi,List.drop_append];have hl:(L.take i).length=i:=by rw [List.length_take];omega
 rw [hl,sI];by_cases h:n<=i
 ·rw [if_pos h,show n - i=0 by omega];simp [iw]
 ·rw [if_neg h,List.drop_of_length_le (l:=[L.getD i nd0]) (by simp;omega)];rfl
theorem aau (L:List Nd) (n:Nat):yz L n L.length=iw (L.drop n):=by unfold yz;rw [List.take_length]
theorem sZ:∀{L:List Nd},(∀x∈L,0<=x.own)->0<=iw L
 | [],_=>by simp [iw]
 | x::r,h=>by
  have h1:=h x zs;have h2:=sZ (L:=r) (λy hy=>h y (by simp [hy]));rw [iw];omega
theorem Sq {L:List Nd} (hL:∀x∈L,0<=x.own) (n i:Nat):0<=yz L n i/\yz L n i<=iw (L.drop n):=by
 have h1:∀x∈(L.take i).drop n,0<=x.own:=λx hx=>hL x (List.mem_of_mem_take (List.mem_of_mem_drop hx))
 have h2:∀x∈(L.drop i).drop (n - (L.take i).length),0<=x.own:=λx hx=>hL x (List.mem_of_mem_drop (List.mem_of_mem_drop hx))
 refine ⟨sZ h1,?_⟩;have e:L.drop n=(L.take i).drop n++(L.drop i).drop (n - (L.take i).length):=by
  conv=>lhs;rw [<-List.take_append_drop i L]
  rw [List.drop_append]
 rw [e,sI];have:=sZ h2;unfold yz;omega
theorem RI.el {w:World} {B:Nat} {A:Option Addr} {xs:List Int} (h:RI w B A xs) {k:Nat} (hk:k<xs.length):∃b o,A=some ⟨b,o,none⟩/\b<B/\w.cell? ⟨b,o+k,none⟩=some (zI (xs.getD k 0)):=by
 obtain ⟨b,o,e,hb,hc⟩:=h k (by rw [List.length_map];exact hk);refine ⟨b,o,e,hb,?_⟩;rw [hc,List.getElem_map,List.getD_eq_getElem?_getD,List.getElem?_eq_getElem hk];rfl
structure Cr where
 pg:Int
 n:Int
 f:Int
 bk:Int
 ev:Int
 node:Int
 live:Int
 kept:List Sp
 cl:Bool
abbrev aj (r:Cr) (v:Value):Array Value:=#[zI r.pg,zI r.n,zI r.f,zI r.bk,zI r.ev,zI r.node,zI r.live,v,.bool r.cl]
def pJ (r:Cr):Int:=if bQ r.pg r.n r.f r.bk r.ev=0 then aG (ay r.pg r.n r.f r.bk r.ev) else 0
def jd (l:List Sp):Sp:=l.getD (l.length - 1) (0,0)
def bq (r:Cr):Int :=
 if bQ r.pg r.n r.f r.bk r.ev≠0 then bQ r.pg r.n r.f r.bk r.ev
 else if r.live<0\/pJ r<r.live\/r.node<0\/64<=r.node then 7
 else if eG r.kept≠0\/(r.cl=true/\(r.live≠0\/r.kept.length≠0)) then 6
 else if 0<r.kept.length/\((r.kept.getD 0 (0,0)).1<r.live\/pJ r<(jd r.kept).1+(jd r.kept).2) then 6
 else 0
structure NV (r:Cr):Prop where
 plan:dO r.pg r.n r.f r.bk r.ev
 C9:0<=r.live
 Ff:r.live<=pJ r
 node:0<=r.node/\r.node<64
 can:Can r.kept
 cl:r.cl=true->r.live=0/\r.kept=[]
 low:∀x∈r.kept,r.live<=x.1/\x.1+x.2<=pJ r
theorem Gu:∀(s:List Sp) (e:Int),(∀x∈s,1<=x.2)->aV e s=true->∀x∈s,e<x.1
 | [],_,_,_,_,h=>by cases h
 | y::s,e,hw,hf,x,hx=>by
  have h1:=aJ.1 hf;rcases List.mem_cons.1 hx with rfl|hx
  ·exact h1.1
  ·have:=Gu s _ (λz hz=>hw z (by simp [hz])) h1.2 x hx
   have:=hw y zs;omega
theorem JQ {x:Sp} {s:List Sp} (h:Can (x::s)):∀y∈x::s,x.1<=y.1:=λy hy=>by
 have hw:∀z∈x::s,1<=z.2:=λz hz=>(av.1 (h.1 z hz)).2.2.1
 rcases List.mem_cons.1 hy with rfl|hy
 ·exact Int.le_refl _
 ·have:=Gu s _ (λz hz=>hw z (by simp [hz])) (aJ.1 h.2).2 y hy
  have:=hw x zs;omega
theorem sJ:∀(s:List Sp) (e:Int),(∀x∈s,1<=x.2)->aV e s=true->∀x∈s,x.1+x.2<=(jd s).1+(jd s).2
 | [],_,_,_,_,h=>by cases h
 | [y],_,_,_,x,hx=>by
  simp only [List.mem_singleton] at hx;subst hx;exact Int.le_refl _
 | y::z::s,e,hw,hf,x,hx=>by
  have h1:=aJ.1 hf;have hl:jd (y::z::s)=jd (z::s):=by
   unfold jd;simp only [List.length_cons,Nat.add_sub_cancel];rw [List.getD_cons_succ]
  rw [hl];rcases List.mem_cons.1 hx with rfl|hx
  ·have h2:=sJ (z::s) _ (λq hq=>hw q (by simp only [List.mem_cons] at hq ⊢;exact .inr hq)) h1.2 z zs
   have h3:=(aJ.1 h1.2).1;have:=hw z zs;omega
  ·exact sJ (z::s) _ (λq hq=>hw q (by simp only [List.mem_cons] at hq ⊢;exact .inr hq)) h1.2 x hx
theorem fw {r:Cr}:bq r=0↔NV r:=by
 unfold bq;by_cases h1:bQ r.pg r.n r.f r.bk r.ev=0
 ·rw [if_neg (by simpa using h1)]
  have hp:=bR.1 h1;by_cases h2:r.live<0\/pJ r<r.live\/r.node<0\/64<=r.node
  ·rw [if_pos h2]
   exact ⟨λh=>by omega,λh=>by have:=h.C9;have:=h.Ff;have:=h.node;omega⟩
  ·rw [if_neg h2]
   by_cases h3:eG r.kept≠0\/(r.cl=true/\(r.live≠0\/r.kept.length≠0))
   ·rw [if_pos h3]
    refine ⟨λh=>by omega,λh=>?_⟩;exfalso;rcases h3 with h3|⟨h3,h4⟩
    ·exact h3 (bI.2 h.can)
    ·obtain ⟨h5,h6⟩:=h.cl h3
     rcases h4 with h4|h4
     ·exact h4 h5
     ·rw [h6] at h4;exact h4 rfl
   ·rw [if_neg h3]
    have hc:Can r.kept:=bI.1 (by
     by_cases hx:eG r.kept=0
     ·exact hx
     ·exact absurd (.inl hx) h3)
    have hcl:r.cl=true->r.live=0/\r.kept=[]:=λh=>by
     constructor
     ·by_cases hx:r.live=0
      ·exact hx
      ·exact absurd (.inr ⟨h,.inl hx⟩) h3
     ·by_cases hx:r.kept.length=0
      ·exact List.eq_nil_of_length_eq_zero hx
      ·exact absurd (.inr ⟨h,.inr hx⟩) h3
    have hw:∀z∈r.kept,1<=z.2:=λz hz=>(av.1 (hc.1 z hz)).2.2.1
    have Y1:0<r.kept.length->∀x∈r.kept,(r.kept.getD 0 (0,0)).1<=x.1:=λhl x hx=>by
     match hk:r.kept,hl with
     | y::s,_ =>
      rw [hk] at hx hc;exact JQ hc x hx
    have apE:∀x∈r.kept,x.1+x.2<=(jd r.kept).1+(jd r.kept).2:=sJ r.kept _ hw hc.2;have hm0:0<r.kept.length->r.kept.getD 0 (0,0)∈r.kept:=λhl=>by rw [List.getD_eq_getElem?_getD,List.getElem?_eq_getElem hl];exact List.getElem_mem hl
    have O4:0<r.kept.length->jd r.kept∈r.kept:=λhl=>by unfold jd;rw [List.getD_eq_getElem?_getD,List.getElem?_eq_getElem zo];exact List.getElem_mem _
    by_cases h4:0<r.kept.length/\((r.kept.getD 0 (0,0)).1<r.live\/pJ r<(jd r.kept).1+(jd r.kept).2)
    ·rw [if_pos h4]
     refine ⟨λh=>by omega,λh=>?_⟩;exfalso;have q1:=(h.low _ (hm0 h4.1)).1;have q2:=(h.low _ (O4 h4.1)).2;rcases h4.2 with h5|h5 <;> omega
    ·rw [if_neg h4]
     refine ⟨λ_=>⟨hp,zo,zo,zo,hc,hcl,λx hx=>?_⟩,λ_=>rfl⟩;have hl:0<r.kept.length:=List.length_pos_of_mem hx;have q1:=Y1 hl x hx;have q2:=apE x hx;have q3:¬((r.kept.getD 0 (0,0)).1<r.live\/pJ r<(jd r.kept).1+(jd r.kept).2):=λh=>h4 ⟨hl,h⟩
     omega
 ·rw [if_pos h1]
  exact ⟨λh=>absurd h h1,λh=>absurd (bR.2 h.plan) h1⟩
def bJ (a b:Int):List Sp:=if b<=a then [] else [(a,b - a)]
def bW (S:List Sp):Int->List Sp->List (Int×Int×Int)
 | _,[]=>[]
 | m,u::r=>(az S [(m,u.2)]).map (λx=>(u.1+x.1 - m,x.2,x.1))++bW S (m+u.2) r
theorem nK {α:Type} (d:α) (l:List α) {k:Nat} (hk:k<l.length):l.take (k+1)=l.take k++[l.getD k d]:=by
 rw [List.take_succ_eq_append_getElem hk,List.getD_eq_getElem?_getD,List.getElem?_eq_getElem hk];rfl
open Go.Proofs Tryz
theorem Vm.JR (V:Vm) (call:Nat):(V.ref call).rf.rules=V.rf.rules:=by
 show (acV V.rf call).rules=V.rf.rules;unfold acV fD
 repeat (first|rfl|split)
theorem xU (V:Vm) (a n:Int) (call:Nat) (pr:Pg->Bool) (f:Pg->Pg):(gX V a n call pr f).2.rf.rules=V.rf.rules:=by
 unfold gX;split
 ·rfl
 ·split
  ·rfl
  ·split
   ·exact V.JR call
   ·exact V.JR call
def Su (b:Nat) (r:List Sp×Int×Vm) (w:World) (e:Ending) (w':World):Prop :=
 ∃(A:Option Addr) (cap:Nat),e= .returned (.tuple #[.slice A r.1.length cap,zI r.2.1])/\RU w' w'.heap.size A r.1/\(∀g o,A=some ⟨g,o,none⟩->w.heap.size<=g)/\r.1.length<=maxLen/\aA w' b r.2.2/\ag (λk=>k=b) w w'
def ErS (g:Nat) (x:Int) (W:World):Prop:=W.cell? ⟨g,0,none⟩=some (zI x)/\True
theorem zW {P:Program} {fn:Func} {tmps:Array Value} {R:Ending->World->Prop} (I:List Deferred->World->Prop)
  (hfin:∀w,I [] w->∃v,(results fn tmps).run P w= .ok v w/\R (.returned v) w)
  (hstep:∀d ds w,I (d::ds) w->∃fv cap f args,d.target= .fn fv cap/\(invoke d.target d.args).run P w= .ok (.enter f args) w/\CallsD P f args .returning w (λe u' w'=>u'= .returning/\((∃v,e= .returned v)/\I ds w'))) :
  ∀ds w,I ds w->Leaves P fn tmps R ds .returning w
 | [],w,h=>hfin w h
 | d::ds,w,h=>by
  obtain ⟨fv,cap,f,args,ht,hi,hc⟩:=hstep d ds w h;refine ⟨zs,fv,cap,f,args,ht,hi,hc.mono ?_⟩;rintro e u' w' ⟨rfl,⟨v,rfl⟩,hI⟩;exact zW I hfin hstep ds w' hI
theorem oZ {P:Program} (w:World) (dT sT ty elem:TypeId) (sz g o dLen dCap:Nat) (a:Addr) (sLen sCap m:Nat) (cur:Array Value) (t:TypeId) (cs:List Value)
  (hu:P.underlying dT=some (.slice elem)) (hs:(P.info? elem).map (·.size)=some sz)
  (hg:w.heap[g]? = some (.cells cur t (0,0))) (hm:Nat.min sLen dLen=m) (hn:cs.length=m*sz)
  (hsrc:∀j v,cs[j]? = some v->w.cell? (a.add j)=some v) (hfit:o+cs.length<=cur.size) (h1:∀v∈cs,v.oneCell'=true) :
  (Builtin.copy_ #[dT,sT] ty #[.slice (some ⟨g,o,none⟩) dLen dCap,.slice (some a) sLen sCap]).run P w =
   .ok (goInt m) (w.setRow g (cur.toList.take o++cs++cur.toList.drop (o+cs.length)).toArray):=by
 have hl:=run_loadCells_list (P:=P) w a cs hsrc;have hst:=run_storeCells_at P g o t cs 0 cur w hg (by simpa using hfit) h1;cases hq:P.info? elem with
 | none=>simp [hq] at hs
 | some i =>
  have hi:i.size=sz:=by simpa [hq] using hs
  simp [Builtin.copy_,run_underlying hu,Builtin.lenOf,Builtin.firstCells,sizeOf,typeInfo,hq,hi,hm,<-hn,hl,hst]
theorem yA {P:Program} {ops:Array Oper} {o:Oper} {a:Act} {w:World} {K:Act->World->Prop} {Q:Exit->Act->World->Prop} {E:Prop}
  (hg:o.guard=none) (d x:Operand) (dT sT:TypeId) (hop:o.op=Op.call { callee:=Callee.builtin Builtin.copy,args:=#[d,x],argTypes:=#[dT,sT] })
  (v u:Value) (hd:a.eval d=v) (hx:a.eval x=u) {v':Value} {w':World} (hr:(Builtin.copy_ #[dT,sT] o.type #[v,u]).run P w= .ok v' w') (hK:K (a.put o.dst v') w') :
  if Region.wanted o (yielded ops a.tmps)=true then Oper.wp P o a w K Q else E:=by
 have hw:Region.wanted o (yielded ops a.tmps)=true:=by simp [Region.wanted,hg]
 rw [if_pos hw];unfold Oper.wp;simp [execOp,hop,resolve,invoke,builtin,hd,hx,hr,Result.andThen];exact hK
def qF (cur:List Value) (xa xb:Value):List Value:=cur.take 0++[xa,xb]++cur.drop (0+2)
def vH (cur xs:List Value) (xa xb:Value):List Value:=xa::xb::xs++cur.drop (2+xs.length)
theorem PE (cur xs:List Value) (xa xb:Value):(qF cur xa xb).take 2++xs++(qF cur xa xb).drop (2+xs.length)=vH cur xs xa xb:=by
 unfold qF vH;simp [Nat.add_comm 2 xs.length]
theorem PG (cur xs:List Value) (xa xb:Value) (h:2<=cur.length):qF (cur.take 2++xs++cur.drop (2+xs.length)) xa xb=vH cur xs xa xb:=by
 unfold qF vH;obtain ⟨a,b,r,rfl⟩:∃a b r,cur=a::b::r:=by
  match cur,h with
  | a::b::r,_=>exact ⟨a,b,r,rfl⟩
 simp
theorem Gv (cur xs:List Value) (xa xb:Value) (h:2+xs.length<=cur.length):(vH cur xs xa xb).length=cur.length:=by
 unfold vH;simp;omega
theorem BP (us:List Sp):∀u∈ax us,u.oneCell'=true:=by
 intro u hu;unfold ax at hu;rw [List.mem_flatMap] at hu;obtain ⟨x,_,h⟩:=hu;rcases List.mem_cons.1 h with rfl|h
 ·rfl
 ·rcases List.mem_cons.1 h with rfl|h
  ·rfl
  ·cases h
theorem Gw {w:World} {g base n c:Nat} {t:TypeId} {cur cs:Array Value} {xs:List Value} (hg:w.heap[g]? = some (.cells cur t (0,0))) (hb:base<=g) (hc:n<=c) (hcm:c<=maxLen) (hs:cs.size=c*2) (hl:xs.length=n*2) (hx:cs.toList.take (n*2)=xs) :
  (w.setRow g cs).ownsRow base t 2 (.slice (some ⟨g,0,none⟩) n c) n xs :=
 ⟨hl,.inr ⟨g,c,cs,rfl,hb,setRow_heap _ _ _ _ _ _ hg,hc,hcm,hs,hx⟩⟩
end Go.Pol
namespace Go.Proofs.YtlgcpjhimomiaaaGreat
open Go Go.Proofs Go.RowKit Go.Pol Go.Shelf Tryz
attribute [local go_sem] Oper.semAt_some aC au aB ai
theorem aas {w:World} {base n sz g i cap:Nat} {e:TypeId} {xs:List Value} {v:Value} (h:w.ownsRow base e sz (.slice (some ⟨g,0,none⟩) n cap) n xs) (_:i<n*sz) :
  (w.setCell ⟨g,i,none⟩ v).ownsRow base e sz (.slice (some ⟨g,0,none⟩) n cap) n (xs.set i v):=by
 refine ⟨by rw [List.length_set];exact h.1,?_⟩;rcases h.2 with ⟨hn,_⟩|⟨g',cap',cur,hv,hb,hk,hc,hm,hs,ht⟩
 ·cases hn
 ·cases hv
  have hk':af w g e cur:=hk;refine .inr ⟨g,cap,cur.setIfInBounds i v,rfl,hb,hk'.aM i v,hc,hm,by rw [Array.size_setIfInBounds];exact hs,?_⟩;rw [Array.toList_setIfInBounds,List.take_set,ht]
theorem adP (l:List Rn) (x:Rn):fl rG (l++[(x.1,x.2.1+1,x.2.2)])=(fl rG (l++[x])).set (l.length*3+1) (zI (x.2.1+1)):=by
 rw [kC,kC,List.set_append_right _ _ (by rw [mg uh];omega),mg uh,show l.length*3+1 - l.length*3=1 by omega];rfl
theorem aat (x:Rn):∀u∈rG x,u.oneCell'=true:=λu hu=>ada [x] u (by simpa [fl] using hu)
theorem xS {w:World} {g:Nat} {t:TypeId} {l:List Value} (h:af w g t l.toArray):∀(j:Nat) (u:Value),l[j]? = some u->w.cell? ((⟨g,0,none⟩:Addr).add j)=some u:=λj u hu=>by
 rw [dM,Nat.zero_add,h.cell];simpa using hu
theorem Hw {P:Program} {ops:Array Oper} {S:World->Prop} {op:Oper} {a:Act} (hw:Region.wanted op (yielded ops a.tmps)=true) (t:TypeId) (parts:List (Nat×Operand)) (ho:op.op= .build t parts.toArray)
  (vals:List (Nat×Value)) (hv:parts.map (λx=>(x.1,a.eval x.2))=vals) (cells:Array Value) (hb:P.built t vals=some cells):YieldsIf P ops S op (.agg cells) a :=
 .inl ⟨hw,λw _=>by
  have hb':P.built t (parts.toArray.map λ(i,x)=>(i,a.eval x)).toList=some cells:=by
   rw [<-hb,<-hv];simp
  unfold execOp;simp only [ho,Sem.run_bind,run_build w t _ cells hb',Result.andThen_ok];rfl⟩
theorem Hy {P:Program} {o:Oper} {a:Act} {w:World} {K:Act->World->Prop} {Q:Exit->Act->World->Prop} (t e:TypeId) (len:Nat) (parts:List (Nat×Operand)) (ho:o.op= .buildSlice t len parts.toArray)
  (vals:List (Nat×Value)) (hv:parts.map (λx=>(x.1,a.eval x.2))=vals) (cells:Array Value) (ie:TypeInfo) (z:Value)
  (hu:P.underlying t=some (.slice e)) (hie:P.info? e=some ie) (hz:ie.zero=some z) (hsmall:¬len*ie.size > 2 ^ 24) (hpos:¬len*ie.size=0)
  (hf:Instr.fill (λi=>some (i*ie.size,ie.size)) ((Array.range (len*ie.size)).map (z.cells[· % z.cells.size]!)) vals=some cells)
  (h:K (a.put o.dst (.slice (some ⟨w.heap.size,0,none⟩) len len)) (w.alloc (.cells cells e))):o.wp P a w K Q :=
 wp_buildSlice t e len parts.toArray ho cells ie z hu hie hz hsmall hpos (by rw [<-hf,<-hv];simp) h
theorem vG {P:Program} {ops:Array Oper} {rest:List Oper} {op:Oper} {a:Act} {w:World} {Q:Exit->Act->World->Prop} (ty:TypeId) (x:Operand) (ho:op.op= .load ty x) (hw:Region.wanted op (yielded ops a.tmps)=true)
  (b o:Nat) (hx:a.eval x= .pointer (some ⟨b,o,none⟩)) (cs:List Value) (d:TypeDesc) (hc:w.rangeAt b o cs)
  (hu:P.underlying ty=some d) (hd:d.isRow=true) (hi:(P.info? ty).map (·.size)=some cs.length)
  (h:wpList P ops Q rest (a.put op.dst (.agg cs.toArray)) w):wpList P ops Q (op::rest) a w :=
 wpList_step λK hK=>by
  simp only [hw,if_true];exact wp_load_mid ty x ho b o hx cs d hc hu hd hi (hK _ _ h)
theorem Sl {w:World} {amj amk n1 n2 sz1 sz2 g:Nat} {e1 e2:TypeId} {v1 v2:Value} {xs1 xs2:List Value} (h1:w.ownsRow amj e1 sz1 v1 n1 xs1) (h2:w.ownsRow amk e2 sz2 v2 n2 xs2) (hne:e1≠e2)
  (hg1:v1.ownBlock=some g) (hg2:v2.ownBlock=some g):False:=by
 rcases h2.2 with ⟨hx,_⟩|⟨g',cap',cur,hx,_,hkx,_⟩
 ·rw [hx] at hg2;cases hg2
 ·rw [hx] at hg2
  have e':g'=g:=by injection hg2
  subst e';exact dJ h1 hg1 (show af w g' e2 cur from hkx) hne
theorem oF {w w':World} {NB n1 n2 sz1 sz2 s:Nat} {e1 e2:TypeId} {v1 v2:Value} {xs1 xs2:List Value} (h1:w.ownsRow NB e1 sz1 v1 n1 xs1) (h2:w.ownsRow NB e2 sz2 v2 n2 xs2) (hne:e1≠e2) (hs:s<NB)
  (F:ag (λg=>g=s\/v2.ownBlock=some g) w w'):w'.ownsRow NB e1 sz1 v1 n1 xs1 :=
 aN h1 F (λg hg h=>h.elim (λh=>by have:=(h1.lt g hg).1;omega) (λh=>Sl h1 h2 hne hg h))
theorem Gt {V:Vm}:∀k,k<=1024->∀x∈aF V k,0<=x.2.1/\x.2.1<=(k:Int)
 | 0,_,x,hx=>by cases hx
 | k+1,hk,x,hx=>by
  have ih:=Gt (V:=V) k zo;rw [jc] at hx;split at hx
  ·have:=ih x hx;omega
  ·split at hx
   ·rcases List.eq_nil_or_concat (aF V k) with h|⟨l,y,h⟩
    ·rw [h] at hx;cases hx
    ·rw [h,List.concat_eq_append,oz] at hx
     rw [List.mem_append,List.mem_singleton] at hx;rcases hx with hx|rfl
     ·have:=ih x (by rw [h,List.concat_eq_append];exact List.mem_append_left _ hx);omega
     ·have:=ih y (by rw [h,List.concat_eq_append];simp)
      show 0<=y.2.1+1/\y.2.1+1<=_;omega
   ·rw [List.mem_append,List.mem_singleton] at hx
    rcases hx with hx|rfl
    ·have:=ih x hx;omega
    ·show (0:Int)<=1/\(1:Int)<=_
     omega
noncomputable def ag3:Array Oper:=(Tryz.f11.body.bind (ng 10)).getD #[]
noncomputable def ag4:Array Oper:=(Tryz.f11.body.bind (ng 14)).getD #[]
def NR (b s k:Nat) (v:Value) (K:Int) (w:World):Prop:=w.cell? ⟨s,0,none⟩=some v/\w.cell? ⟨b,k,none⟩=some (zI K)
theorem NR.later {b s k:Nat} {v:Value} {K:Int} {w w':World} (h:NR b s k v K w) (hF:Below w.heap.size w w') (hb:b<w.heap.size) (hs:s<w.heap.size):NR b s k v K w' :=
 ⟨(hF.cell (p:=⟨s,0,none⟩) hs).trans h.1,(hF.cell (p:=⟨b,k,none⟩) hb).trans h.2⟩
theorem WK {Q:Exit->Act->World->Prop} {u1 u2 u5 u6 u7 u8 u9 u10 u11 u12 u13 u14 u15 u16 u17 u18 u19 u20 u21 u22 u23 u24 u25 u26 u27 u28 u29 u30 u31 u32 u33 u34 u35 u36 u37 u38 u39 u40 u41 u42 u43 u44 u45 u46 u47 u48 u49 u50 u51 u52 u53 u54 u55 u56 u57 u58 u59 u60 u61 u62 u63 u64 u65 u66 u67 u68 u69 u70 u71 u72 u73 u74 u75 u76 u77 u78 u79 u80 u81 u82 u83 u84 u85 u86 u87 u88 u89 u90 u91 u92 u93 u94 u95 u96 u97 u98 u99 u100 u101 u102 u103 u104 u105 u106 u107 u108 u109 u110 u111 u112 u113 u114 u115 u116 u117 u118 u119 u120 u121 u122 u123 u124 u125:Value} {D:List Deferred} (b s k NB N1 lG:Nat) (A1:Option Addr) (kd:Int) (cs:Array Value) (xs:List Value) (w:World)
  (hk:(k:Int)<1024) (hN:N1<=1024) (hb:b<w.heap.size) (hs:s<w.heap.size) (hNB:NB<=w.heap.size) (hbN:b<NB) (hbs:¬b=s) (hcK:w.cell? ⟨b,k,none⟩=some (zI kd))
  (k3:af w s 60 cs) (h3:w.cell? ⟨s,0,none⟩=some (.slice A1 N1 lG)) (ro:w.ownsRow NB 110 3 (.slice A1 N1 lG) N1 xs)
  (hQ:∀(x64 x65 x66 x67 x68 x69 x70 x71 x72 x73 x74 x75 x76:Value) (w':World) (WL:Option Addr) (CY:Nat),w.heap.size<=w'.heap.size->af w' s 60 (cs.setIfInBounds 0 (.slice WL (N1+1) CY))->w'.ownsRow NB 110 3 (.slice WL (N1+1) CY) (N1+1) (xs++rG ((k:Int),1,kd)) ->
   ag (λg=>g=s\/(Value.slice A1 N1 lG).ownBlock=some g) w w'->Q .normal ⟨#[(.pointer (some ⟨b,0,none⟩)),u1,u2,(.pointer (some ⟨s,0,none⟩)),(zI (k:Int)),u5,u6,u7,u8,u9,u10,u11,u12,u13,u14,u15,u16,u17,u18,u19,u20,u21,u22,u23,u24,u25,u26,u27,u28,u29,u30,u31,u32,u33,u34,u35,u36,u37,u38,u39,u40,u41,u42,u43,u44,u45,u46,u47,u48,u49,u50,u51,u52,u53,u54,u55,u56,u57,u58,u59,u60,u61,u62,u63,x64,x65,x66,x67,x68,x69,x70,x71,x72,x73,x74,x75,x76,u77,u78,u79,u80,u81,u82,u83,u84,u85,u86,u87,u88,u89,u90,u91,u92,u93,u94,u95,u96,u97,u98,u99,u100,u101,u102,u103,u104,u105,u106,u107,u108,u109,u110,u111,u112,u113,u114,u115,u116,u117,u118,u119,u120,u121,u122,u123,u124,u125],D⟩ w') :
  (Code.region 10 ag3 true).wp prog Q ⟨#[(.pointer (some ⟨b,0,none⟩)),u1,u2,(.pointer (some ⟨s,0,none⟩)),(zI (k:Int)),u5,u6,u7,u8,u9,u10,u11,u12,u13,u14,u15,u16,u17,u18,u19,u20,u21,u22,u23,u24,u25,u26,u27,u28,u29,u30,u31,u32,u33,u34,u35,u36,u37,u38,u39,u40,u41,u42,u43,u44,u45,u46,u47,u48,u49,u50,u51,u52,u53,u54,u55,u56,u57,u58,u59,u60,u61,u62,u63,u64,u65,u66,u67,u68,u69,u70,u71,u72,u73,u74,u75,u76,u77,u78,u79,u80,u81,u82,u83,u84,u85,u86,u87,u88,u89,u90,u91,u92,u93,u94,u95,u96,u97,u98,u99,u100,u101,u102,u103,u104,u105,u106,u107,u108,u109,u110,u111,u112,u113,u114,u115,u116,u117,u118,u119,u120,u121,u122,u123,u124,u125],D⟩ w:=by
 conv=>arg 2;arg 2;whnf
 obtain ⟨i0,hi,hz0,hz1,hz2⟩:=BM;refine bT ?_;refine bM (NR b s k (.slice A1 N1 lG) kd) [13] zk ?_;have hS0:NR b s k (.slice A1 N1 lG) kd w:=⟨h3,hcK⟩;have hB0:Below w.heap.size w w.drew:=(Below.refl _ w).drew;have hS:NR b s k (.slice A1 N1 lG) kd w.drew:=hS0;clear h3 hcK;refine aW 0 hS ?_;refine aW 1 hS ?_;refine aW 2 hS ?_;refine aW 3 hS ?_;refine aW 4 hS ?_;refine aW 5 hS ?_;refine aW 6 hS ?_;refine aW 7 hS ?_;refine aW 8 hS ?_;refine aW 9 hS ?_;refine gD 10 λK hK=>?_
 go_simp;have hB1:=hB0.alloc hB0.size (.cells #[zI (k:Int),zI 1,zI kd] 110);refine hK.out _ _ (λ_=>hS0.later hB1 hb hs) (λhS=>?_);clear hK K;replace hS:=hS rfl;try simp only [Act.put,iE,iF,iG]
 have kN:=af.new w.drew 110 #[zI (k:Int),zI 1,zI kd];have mQ:af (w.drew.alloc (.cells #[zI (k:Int),zI 1,zI kd] 110)) s 60 cs:=k3.call hB1;have yJ:(w.drew.alloc (.cells #[zI (k:Int),zI 1,zI kd] 110)).ownsRow NB 110 3 (.slice A1 N1 lG) N1 xs:=aI ro hB1;refine gD 11 λK hK=>?_
 rw [if_pos (by simp [Region.wanted])];refine wp_append_own _ (.tmp 65) (.tmp 74) 53 rfl NB 110 i0 (.agg #[zI 0,zI 0,zI 0]) 3 24 underlying53 hi hz0 hz1 hz2 rfl zd _ N1 xs rfl yJ ⟨w.heap.size,0,none⟩ 1 1 [zI (k:Int),zI 1,zI kd] rfl rfl (xS kN) (aat ((k:Int),1,kd)) (by unfold maxLen;omega) zo (Nat.le_trans hNB hB1.size) ?_;intro v' w4 hown' hgrow _;obtain ⟨WL,CY,rfl,_⟩:=dH hown';have F4:ag (λg=>g=s\/(Value.slice A1 N1 lG).ownBlock=some g) w w4:=(ag.of_below hB1).grown hgrow (λg hg _=>.inr hg);have oJ:=mQ.grown hgrow (λh=>dJ yJ h.symm mQ zd);have f34:=oJ.frozen;have c34:w4.cell? ⟨s,0,none⟩=some (.slice A1 N1 lG):=(oJ.cell 0).trans ((k3.cell 0).symm.trans hS0.1);have hbr:(Value.slice A1 N1 lG).ownBlock≠some b:=λh=>by have:=(ro.lt b h).1;omega
 refine hK.out _ _ (λ_=>?later) (λhS=>?_)
 case later=>exact ⟨c34,F4.cell hS0.2 (λh=>h.elim (λh=>hbs h) hbr)⟩
 clear hK K;replace hS:=hS rfl;try simp only [Act.put,iE,iF,iG]
 refine gD 12 λK hK=>?_
 go_simp;refine hK.out _ _ (λ_=>hS) (λhS=>?_);clear hK K;replace hS:=hS rfl;try simp only [Act.put,iE,iF,iG]
 refine gD 13 λK hK=>?_
 go_simp;refine hK.out _ _ (λh=>absurd h zd) (λ_=>?_);clear hK K;refine bE zk ?_ _;refine aS ?_;have F5:ag (λg=>g=s\/(Value.slice A1 N1 lG).ownBlock=some g) w (w4.setCell ⟨s,0,none⟩ (.slice WL (N1+1) CY)):=F4.setCell (p:=⟨s,0,none⟩) (λ_=>.inl rfl) _;have F6:ag (λg=>g=s) w4 (w4.setCell ⟨s,0,none⟩ (.slice WL (N1+1) CY)):=ag.setCell (T:=λg=>g=s) (p:=⟨s,0,none⟩) (ag.refl _ _) (λ_=>rfl) _;exact hQ _ _ _ _ _ _ _ _ _ _ _ _ _ _ WL CY F5.size (oJ.aM 0 _) (aN hown' F6 (λg hg h=>dJ hown' (hg.trans (congrArg some h)) oJ zd)) F5
def NS (b s k:Nat) (v:Value) (cs:List Value) (w:World):Prop:=w.cell? ⟨s,2,none⟩=some v/\w.rangeAt b (1088+k*64) cs
theorem NS.later {b s k:Nat} {v:Value} {cs:List Value} {w w':World} (h:NS b s k v cs w) (hF:Below w.heap.size w w') (hb:b<w.heap.size) (hs:s<w.heap.size):NS b s k v cs w' :=
 ⟨(hF.cell (p:=⟨s,2,none⟩) hs).trans h.1,λj u hj=>(hF.cell (p:=⟨b,_,none⟩) hb).trans (h.2 j u hj)⟩
theorem WM {Q:Exit->Act->World->Prop} {u1 u2 u5 u6 u7 u8 u9 u10 u11 u12 u13 u14 u15 u16 u17 u18 u19 u20 u21 u22 u23 u24 u25 u26 u27 u28 u29 u30 u31 u32 u33 u34 u35 u36 u37 u38 u39 u40 u41 u42 u43 u44 u45 u46 u47 u48 u49 u50 u51 u52 u53 u54 u55 u56 u57 u58 u59 u60 u61 u62 u63 u64 u65 u66 u67 u68 u69 u70 u71 u72 u73 u74 u75 u76 u77 u78 u79 u80 u81 u82 u83 u84 u85 u86 u87 u88 u89 u90 u91 u92 u93 u94 u95 u96 u97 u98 u99 u100 u101 u102 u103 u104 u105 u106 u107 u108 u109 u110 u111 u112 u113 u114 u115 u116 u117 u118 u119 u120 u121 u122 u123 u124 u125:Value} {D:List Deferred} (b s k NB N3 mI:Nat) (A3:Option Addr) (f:Nat->Int) (cs:Array Value) (xs:List Value) (w:World)
  (hk:(k:Int)<1024) (hN:N3<=1024) (hb:b<w.heap.size) (hs:s<w.heap.size) (hNB:NB<=w.heap.size) (hbN:b<NB) (hbs:¬b=s) (hcX:w.rangeAt b (1088+k*64) (fP .u8 64 f).toList)
  (k3:af w s 60 cs) (h3:w.cell? ⟨s,2,none⟩=some (.slice A3 N3 mI)) (ro:w.ownsRow NB 118 65 (.slice A3 N3 mI) N3 xs)
  (hQ:∀(x112 x113 x114 x115 aja ajb ajc ajd aje ajf ajg ajh aji:Value) (w':World) (WO:Option Addr) (CZ:Nat),w.heap.size<=w'.heap.size->af w' s 60 (cs.setIfInBounds 2 (.slice WO (N3+1) CZ))->w'.ownsRow NB 118 65 (.slice WO (N3+1) CZ) (N3+1) (xs++(lW (k:Int) f).toList) ->
   ag (λg=>g=s\/(Value.slice A3 N3 mI).ownBlock=some g) w w'->Q .normal ⟨#[(.pointer (some ⟨b,0,none⟩)),u1,u2,(.pointer (some ⟨s,0,none⟩)),(zI (k:Int)),u5,u6,u7,u8,u9,u10,u11,u12,u13,u14,u15,u16,u17,u18,u19,u20,u21,u22,u23,u24,u25,u26,u27,u28,u29,u30,u31,u32,u33,u34,u35,u36,u37,u38,u39,u40,u41,u42,u43,u44,u45,u46,u47,u48,u49,u50,u51,u52,u53,u54,u55,u56,u57,u58,u59,u60,u61,u62,u63,u64,u65,u66,u67,u68,u69,u70,u71,u72,u73,u74,u75,u76,u77,u78,u79,u80,u81,u82,u83,u84,u85,u86,u87,u88,u89,u90,u91,u92,u93,u94,u95,u96,u97,u98,u99,u100,u101,u102,u103,u104,u105,u106,u107,u108,u109,u110,u111,x112,x113,x114,x115,aja,ajb,ajc,ajd,aje,ajf,ajg,ajh,aji,u125],D⟩ w') :
  (Code.region 14 ag4 true).wp prog Q ⟨#[(.pointer (some ⟨b,0,none⟩)),u1,u2,(.pointer (some ⟨s,0,none⟩)),(zI (k:Int)),u5,u6,u7,u8,u9,u10,u11,u12,u13,u14,u15,u16,u17,u18,u19,u20,u21,u22,u23,u24,u25,u26,u27,u28,u29,u30,u31,u32,u33,u34,u35,u36,u37,u38,u39,u40,u41,u42,u43,u44,u45,u46,u47,u48,u49,u50,u51,u52,u53,u54,u55,u56,u57,u58,u59,u60,u61,u62,u63,u64,u65,u66,u67,u68,u69,u70,u71,u72,u73,u74,u75,u76,u77,u78,u79,u80,u81,u82,u83,u84,u85,u86,u87,u88,u89,u90,u91,u92,u93,u94,u95,u96,u97,u98,u99,u100,u101,u102,u103,u104,u105,u106,u107,u108,u109,u110,u111,u112,u113,u114,u115,u116,u117,u118,u119,u120,u121,u122,u123,u124,u125],D⟩ w:=by
 conv=>arg 2;arg 2;whnf
 obtain ⟨iD,hi,hz0,hz1,hz2⟩:=info_parts YY;have hbt:=E8 (k:Int) f;have hfl:=JI (k:Int) f;obtain ⟨E,hE⟩:=ah (lW (k:Int) f);have hEs:E.toList.length=65:=by rw [<-hE];simp [lW]
 have hEo:∀u∈E.toList,u.oneCell'=true:=by
  intro u hu;rw [<-hE] at hu;unfold lW at hu;rw [List.mem_cons] at hu;rcases hu with rfl|hu
  ·rfl
  ·rw [List.mem_map] at hu
   obtain ⟨i,_,rfl⟩:=hu;rfl
 obtain ⟨X,hX⟩:=ah (fP .u8 64 f);have oW:(prog.info? 100).map (·.size)=some X.toList.length:=by rw [<-hX];exact ug
 rw [hX] at hbt hcX;rw [hE] at hfl hbt hQ;clear hX hE;have apw:Instr.fill (λi=>some (i*iD.size,iD.size)) ((Array.range (1*iD.size)).map ((Value.agg (lW 0 (λ_=>0))).cells[· % (Value.agg (lW 0 (λ_=>0))).cells.size]!)) [(0,.agg E)]=some E:=by rw [hz1];exact hfl
 have hs1:¬1*iD.size > 2 ^ 24:=by rw [hz1];decide
 have hs2:¬1*iD.size=0:=by rw [hz1];decide
 refine bT ?_;refine bM (NS b s k (.slice A3 N3 mI) X.toList) [13] zk ?_;have hS0:NS b s k (.slice A3 N3 mI) X.toList w:=⟨h3,hcX⟩;have hB0:Below w.heap.size w w.drew:=(Below.refl _ w).drew;have hS:NS b s k (.slice A3 N3 mI) X.toList w.drew:=hS0;clear h3 hcX hfl;refine aW 0 hS ?_;refine aW 1 hS ?_;refine aW 2 hS ?_;refine aW 3 hS ?_;refine aW 4 hS ?_;refine aW 5 hS ?_;refine aW 6 hS ?_;refine aW 7 hS ?_;refine' xB (i:=8) (v:=.agg X.toList.toArray) ?apx zk ?apy ?apz hS ?aw7
 case apx=>(simp only [List.getElem?_toArray,List.getElem?_cons_succ,List.getElem?_cons_zero];rfl)
 case apy=>exact λ_ _ _ h=>h
 case apz=>exact yieldsIf_load_mid rfl 100 (.tmp 119) rfl b (1088+k*64) rfl X.toList _ (λ_ h=>h.2) underlying100 rfl oW
 try simp only [Act.put,iE,iF,iG]
 rw [Array.toArray_toList];refine' xB (i:=9) (v:=.agg E) ?apA zk ?apB ?apC hS ?aw8
 case apA=>(simp only [List.getElem?_toArray,List.getElem?_cons_succ,List.getElem?_cons_zero];rfl)
 case apB=>exact λ_ _ _ h=>h
 case apC=>exact Hw rfl 118 [(0,.tmp 114),(1,.tmp 120)] rfl _ rfl E hbt
 try simp only [Act.put,iE,iF,iG]
 have hB1:=hB0.alloc hB0.size (.cells E 118);have kN:=af.new w.drew 118 E;have mQ:af (w.drew.alloc (.cells E 118)) s 60 cs:=k3.call hB1;have yJ:(w.drew.alloc (.cells E 118)).ownsRow NB 118 65 (.slice A3 N3 mI) N3 xs:=aI ro hB1;refine gD 10 λK hK=>?_
 rw [if_pos (by simp [Region.wanted])];refine Hy 55 118 1 [(0,.tmp 121)] rfl _ rfl E iD _ underlying55 hi hz0 hs1 hs2 apw ?_;refine hK.out _ _ (λ_=>hS0.later hB1 hb hs) (λhS=>?_);clear hK K;replace hS:=hS rfl;try simp only [Act.put,iE,iF,iG]
 refine gD 11 λK hK=>?_
 rw [if_pos (by simp [Region.wanted])];refine wp_append_own _ (.tmp 113) (.tmp 122) 55 rfl NB 118 iD (.agg (lW 0 (λ_=>0))) 65 72 underlying55 hi hz0 hz1 hz2 rfl zd _ N3 xs rfl yJ ⟨w.heap.size,0,none⟩ 1 1 E.toList rfl hEs (xS (l:=E.toList) kN) hEo (by unfold maxLen;omega) zo (Nat.le_trans hNB hB1.size) ?_;intro v' w4 hown' hgrow _;obtain ⟨WO,CZ,rfl,_⟩:=dH hown';have F4:ag (λg=>g=s\/(Value.slice A3 N3 mI).ownBlock=some g) w w4:=(ag.of_below hB1).grown hgrow (λg hg _=>.inr hg);have oJ:=mQ.grown hgrow (λh=>dJ yJ h.symm mQ zd);have f34:=oJ.frozen;have c34:w4.cell? ⟨s,2,none⟩=some (.slice A3 N3 mI):=(oJ.cell 2).trans ((k3.cell 2).symm.trans hS0.1);have hbr:(Value.slice A3 N3 mI).ownBlock≠some b:=λh=>by have:=(ro.lt b h).1;omega
 refine hK.out _ _ (λ_=>?later) (λhS=>?_)
 case later=>exact ⟨c34,λj u hj=>F4.cell (hS0.2 j u hj) (λh=>h.elim (λh=>hbs h) hbr)⟩
 clear hK K;replace hS:=hS rfl;try simp only [Act.put,iE,iF,iG]
 refine gD 12 λK hK=>?_
 go_simp;refine hK.out _ _ (λ_=>hS) (λhS=>?_);clear hK K;replace hS:=hS rfl;try simp only [Act.put,iE,iF,iG]
 refine gD 13 λK hK=>?_
 go_simp;refine hK.out _ _ (λh=>absurd h zd) (λ_=>?_);clear hK K;refine bE zk ?_ _;refine aS ?_;have F5:ag (λg=>g=s\/(Value.slice A3 N3 mI).ownBlock=some g) w (w4.setCell ⟨s,2,none⟩ (.slice WO (N3+1) CZ)):=F4.setCell (p:=⟨s,2,none⟩) (λ_=>.inl rfl) _;have F6:ag (λg=>g=s) w4 (w4.setCell ⟨s,2,none⟩ (.slice WO (N3+1) CZ)):=ag.setCell (T:=λg=>g=s) (p:=⟨s,2,none⟩) (ag.refl _ _) (λ_=>rfl) _;exact hQ _ _ _ _ _ _ _ _ _ _ _ _ _ _ WO CZ F5.size (oJ.aM 2 _) (aN hown' F6 (λg hg h=>dJ hown' (hg.trans (congrArg some h)) oJ zd)) F5
theorem ag5:(prog.info? 140).map (λi=>(i.zero,i.size,i.bytes))=some (some (.agg #[zI 0,zI 0,zI 0,zI 0,.bool false]),5,40):=zk
theorem qE:∃i0,prog.info? 140=some i0/\i0.zero=some (.agg #[zI 0,zI 0,zI 0,zI 0,.bool false])/\i0.size=5/\i0.bytes=40:=by
 have h:=ag5;cases hi:prog.info? 140 with
 | none=>rw [hi] at h;cases h
 | some i0 =>
  rw [hi] at h;simp only [Option.map_some,Option.some.injEq,Prod.mk.injEq] at h;exact ⟨i0,rfl,h.1,h.2.1,h.2.2⟩
theorem WQ (b:Nat) (L:List Nd) (w:World) (hB:bz w b L) (hO:L.length<=64) :
  Calls prog 105 #[zP b] w λe w'=>(∃(A:Option Addr) (cap:Nat),e= .returned (.agg #[.slice A L.length cap])/\Rd w' w'.heap.size A (fl iW L)/\L.length<=cap/\cap<=maxLen)/\Below w.heap.size w w':=by
 obtain ⟨s,hs⟩:=ah (w.heap.size);have hb0:=aQ w (.cells #[zN] 187);have k0:=af.new w 187 #[zN];have hz1:(w.alloc (.cells #[zN] 187)).heap.size=s+1:=by simp [hs]
 rw [hs] at k0;go_enter func105,ntmps105;go_upto_region 1 with fail
 generalize w.alloc _=w0 at *;try simp only [hs]
 have hb1:=aQ w0 (.cells #[zN] 187);have k1:=af.new w0 187 #[zN];rw [hz1] at k1;have B1:=hb0.zt hb1;have EY:=k0.call hb1;have hz2:(w0.alloc (.cells #[zN] 187)).heap.size=s+2:=by simp [hz1]
 go_upto_region 2 with fail
 generalize w0.alloc _=w1 at *;try simp only [hz1]
 have qV:=ae hB;have hB1:=hB.call B1;clear k0 hb0 hb1 hB;obtain ⟨A0,cap0,Hm,row⟩:=qV.out.ex;have kbH:=ae Hm;have kb:=Hm.call B1;have cb:=kb.cell;have C8:∀{i:Nat},i<L.length->∃g,A0=some ⟨g,0,none⟩:=λ{i} hi=>by
  obtain ⟨g,c',_,_,kg,_⟩:=hB1.node hi;have:=(kg.cell 1).symm.trans (kb.cell 1);simp at this;exact ⟨g,this.1.symm⟩
 obtain ⟨n,hn0⟩:=ah (L.length);have hn:=ae hn0;rw [hn0] at cb hO C8;clear hn0 row Hm;obtain ⟨i0,hi0,hi1,hi2,hi3⟩:=qE;have aw9:n<=64:=hO;go_upto_region 4 with fail
 go_loopw [13] (λu wr=>∃(i:Nat) (v:Value),u = zI i/\i<=n/\af wr s 187 #[zN]/\af wr (s+1) 187 #[v]/\wr.ownsRow (s+2) 140 5 v i (fl iW (L.take i))/\Below w.heap.size w wr/\s+2<=wr.heap.size) (λu _=>n - (intOf u).toNat)
 case atStart=>exact ⟨0,_,rfl,zo,EY,k1,World.ownsRow_nil _ _ _ _,B1,zo⟩
 case round =>
  clear EY k1 hB1 kb B1 cb;obtain ⟨i,v,rfl,hi,k0,k1,hrow,hB,hsz⟩:=hrel;by_cases hlt:i<n
  ·have d1:decide ((i:Int)<(n:Int))=true:=by simpa using hlt
   obtain ⟨g,rfl⟩:=C8 hlt;have Mr:=qV.out.call hB;obtain ⟨g',c',_,_,kg,_,hgl,hcell,_⟩:=Mr.node (i:=i) (by rw [hn.out];exact hlt);have hgg:g'=g:=by
    have:=(kg.cell 1).symm.trans ((kbH.out.call hB).cell 1);simp at this;exact this.1
   subst hgg;have hst:=D6 L i (by rw [hn.out];exact hlt);have hq:∀(q:Nat) (v:Value),(UJ (L.getD i nd0))[q]? = some v->wr.cell? ⟨g',i*6+q,none⟩=some v:=hcell i (by rw [hn.out];exact hlt);generalize L.getD i nd0=x at *;have q0:=hq 0 _ rfl;have q1:=hq 1 _ rfl;have q2:=hq 2 _ rfl;have q3:=hq 3 _ rfl;have q4:=hq 4 _ rfl;have q5:=hq 5 _ rfl;simp only [Nat.add_zero] at q0;have ck1:=k1.cell;clear hq hcell kg Mr;go_upto_region 6 with fail
   have gN:=aQ wr (.cells #[zI x.par,zI x.lim,zI x.own,zI x.jk,.bool x.cl,zI x.all] 142);have kx:=af.new wr 142 #[zI x.par,zI x.lim,zI x.own,zI x.jk,.bool x.cl,zI x.all];obtain ⟨k02,k12⟩:=bY gN k0 k1;have hrow2:=aI hrow gN;have B2:=hB.zt gN;have hz2:=gN.size;obtain ⟨gx,hgx⟩:=ah (wr.heap.size);rw [hgx] at kx;generalize wr.alloc _=w2 at *;try simp only [hgx]
   obtain ⟨cx,ck2⟩:=bB kx k12;have kN:=af.new w2 140 (iW x).toArray;clear q0 q1 q2 q3 q4 q5 ck1 k0 k1 hrow hB gN;go_upto_region 7 with (at_builtin;refine wpList_append_own _ rfl (.tmp 18) (.tmp 21) 178 rfl (s+2) 140 i0 (.agg #[zI 0,zI 0,zI 0,zI 0,.bool false]) 5 40 underlying178 hi0 hi1 hi2 hi3 rfl zd v i (fl iW (L.take i)) rfl (hrow2.alloc _) ⟨w2.heap.size,0,none⟩ 1 1 (iW x) rfl rfl (xS kN) (λu hu=>by simp only [iW,List.mem_cons,List.not_mem_nil,or_false] at hu;rcases hu with rfl|rfl|rfl|rfl|rfl <;> rfl) (by unfold maxLen;omega) zo (by simp;omega) ?_;intro v' w3 hown' hgrow _;rw [<-QJ,<-hst] at hown';obtain ⟨A',cap',rfl,adQ,hn',hm',_,_⟩:=dH hown';have k03:=(k02.alloc (.cells (iW x).toArray 140)).grown hgrow (λe=>by have:=(hrow2.lt s e.symm).1;omega);have k13:=(k12.alloc (.cells (iW x).toArray 140)).grown hgrow (λe=>by have:=(hrow2.lt (s+1) e.symm).1;omega);have ck3:=k13.cell;have fk3:=k13.frozen)
   have F3:ag (λk=>k=s+1) w3 (w3.setCell ⟨s+1,0,none⟩ (.slice A' (i+1) cap')):=ag.setCell (T:=λk=>k=s+1) (p:=⟨s+1,0,none⟩) (ag.refl _ w3) (λ_=>rfl) _;have B3:=(B2.alloc B2.size (.cells (iW x).toArray 140)).grown hgrow (by rw [World.size_alloc];omega) (λk hk=>by have:=(hrow2.lt k hk).1;omega);have k14:=k13.aM 0 (.slice A' (i+1) cap');have k04:=F3.blk k03 zo;have D7:=aN hown' F3 (λg hg=>by have:=(hown'.lt g hg).1;omega);have B4:=B3.trans (F3.below B3.size (λk hk e=>by omega));have hz3:=hgrow.size;rw [World.size_alloc] at hz3;have RQ:=F3.size;generalize w3.setCell _ _=w4 at *;go_wp2_with fail;go_roundw
   case rel=>exact ⟨i+1,_,by go_num,zo,k04,k14,D7,B4,zo⟩
   case measure=>exact zm
  ·obtain rfl:i=n:=zo
   have d1:decide ((i:Int)<(i:Int))=false:=by simp
   obtain ⟨A',cap',rfl,adQ,hn',hm',_,_⟩:=dH hrow;obtain ⟨c1,c0⟩:=bB k1 k0;have f0:=k0.frozen;have k05:=k0.aM 0 (.slice A' i cap');have F5:ag (λk=>k=s) wr (wr.setCell ⟨s,0,none⟩ (.slice A' i cap')):=ag.setCell (T:=λk=>k=s) (p:=⟨s,0,none⟩) (ag.refl _ wr) (λ_=>rfl) _;have B5:=hB.trans (F5.below hB.size (λk hk e=>by omega));have adS:=aN hrow F5 (λg hg=>by have:=(hrow.lt g hg).1;omega);go_wp2_with fail;generalize wr.setCell _ _=w5 at *;have c5:=k05.cell;refine bodyPost_ret (v:=.agg #[.slice A' i cap']) (by simp [results,results105,go_sem,c5]) rfl ?_;obtain ⟨A2,cap2,he,Y0,hn2,hm2,_,_⟩:=dH adS;cases he;rw [List.take_of_length_le (by rw [hn.out];exact Nat.le_refl _)] at Y0;refine ⟨⟨A',cap',by rw [hn.out],Y0,by rw [hn.out];exact hn2,hm2⟩,B5⟩
theorem adT {P:Prop} (h:P:=by
 rw [h'];go_enter func95,ntmps95;go_wp2_with fail;go_ret;exact ⟨rfl,rfl⟩):P:=h
theorem uu (n lo hi:Int) (w:World):Calls prog 95 #[zI n,zI lo,zI hi] w λe w'=>e= .returned (.bool (decide (lo<=n/\n<=hi)))/\w'=w:=by
 by_cases h:lo<=n
 ·have d1:=bU h
  have h':decide (lo<=n/\n<=hi)=decide (n<=hi):=by simp [h]
  exact adT
 ·have d1:=bV h
  have h':decide (lo<=n/\n<=hi)=false:=by simp [h]
  exact adT
theorem adU {P:Prop} (h:P:=by
 rw [h'];go_enter func98,ntmps98;go_wp2_with fail;go_ret;exact ⟨rfl,rfl⟩):P:=h
theorem l6 (N b:Nat) (n:Int) (L:List Nd) (w:World) (hB:ed w N b L) (hO:jP L) :
  Calls prog 98 #[zP b,zI n] w λe w'=>e= .returned (.bool (decide (0<=n/\n<(L.length:Int))))/\w'=w:=by
 obtain ⟨g,cap,hc1,hc2,kb,hg,hgl,hcell,hfz⟩:=hB.node hO.pos;have cb:=kb.cell;obtain ⟨m,hm⟩:=ah (L.length);have hmm:=hO.few;rw [hm] at cb hmm ⊢;by_cases h1:0<=n
 ·have d1:=bU h1
  by_cases h2:n<(m:Int)
  ·have d2:=bU h2
   have h':decide (0<=n/\n<(m:Int))=true:=by simp [h1,h2]
   obtain ⟨i,rfl⟩:∃i:Nat,n=(i:Int):=⟨n.toNat,zo⟩;have hi:i<L.length:=zo;have c4:=hcell i hi 4 (.bool (L.getD i nd0).cl) rfl;rw [(hO.chain i hi).1] at c4;rw [h'];clear h1 h2 h';have h2:i<m:=zo;go_enter func98,ntmps98;go_wp2_with fail;go_ret;exact ⟨rfl,rfl⟩
  ·have d2:=bV h2
   have h':decide (0<=n/\n<(m:Int))=false:=by simp [h2]
   exact adU
 ·have d1:=bV h1
  have h':decide (0<=n/\n<(m:Int))=false:=by simp [h1]
  exact adU
theorem JO (N b i:Nat) (L:List Nd) (w:World) (hB:ed w N b L) (hO:jP L) (hi:i<L.length) :
  Calls prog 208 #[zP b,zI i] w λe w'=>∃(A:Option Addr) (cap:Nat),e= .returned (.slice A (i+1) cap)/\RI w' w'.heap.size A (mR i (i+1))/\Below w.heap.size w w':=by
 obtain ⟨i0,hi0,hz0,hz1,hz2⟩:=zy;have qV:=ae hB;have JP:=ae hO;have hmm:=hO.few;obtain ⟨m,hm⟩:=ah (L.length);have qi:=ae hm;rw [hm] at hi hmm;clear hB hO hm;go_enter func208,ntmps208;go_upto_region 2 with fail
 go_loopw [1,5] (λu1 u5 wr=>∃k:Nat,u1 = zI ((i:Int) - k)/\k<=i+1/\wr.ownsRow w.heap.size 3 1 u5 k ((mR i k).map (Value.int .i64))/\Below w.heap.size w wr) (λu1 _ _=>(intOf u1+1).toNat)
 case atStart=>exact ⟨0,zs,zo,World.ownsRow_nil _ _ _ _,Below.refl _ _⟩
 case round =>
  obtain ⟨k,rfl,hk,hrow,hB⟩:=hrel;have Mr:=qV.out.call hB;have HO:=ae (l6 N b ((i:Int) - k) L wr Mr JP.out);rw [qi.out] at HO;have sF:=hB.size;obtain ⟨A,cap,hv,hnk,hcm⟩:∃(A:Option Addr) (cap:Nat),u5= .slice A k cap/\k<=cap/\cap<=maxLen:=by
   obtain ⟨A,cap,hv,_,h1,h2,_⟩:=dH hrow;exact ⟨A,cap,hv,h1,h2⟩
  by_cases hlt:k<i+1
  ·rw [show decide (0<=(i:Int) - k/\(i:Int) - k<(m:Int))=true by simp;omega] at HO
   have d2:decide ((k:Int)<=(m:Int))=true:=by simp;omega
   obtain ⟨g,c',hc1,hc2,kb,_,hgl,hcell,_⟩:=Mr.node (i:=i - k) (by rw [qi.out];omega);have q0:=hcell (i - k) (by rw [qi.out];omega) 0 (zI ((L.getD (i - k) nd0).par)) rfl;rw [(JP.out.chain (i - k) (by rw [qi.out];omega)).2] at q0;rw [show ((i - k:Nat):Int) - 1=(i:Int) - k - 1 by omega] at q0;obtain ⟨j,hj⟩:∃j:Nat,(i:Int) - k=j:=⟨i - k,zo⟩;have hjk:i - k=j:=zo;rw [hjk] at q0;rw [hj] at q0 HO ⊢;have hjm:j<m:=zo;rw [qi.out] at kb hc1;have cb:=kb.cell;have hps:=Sn i k;rw [hj] at hps;subst hv;clear hcell kb;go_wp2_with fail;refine HO.out.zr λw2 hw2=>?_
   replace hw2:=hw2.symm;subst hw2;have kN:=af.new wr 3 #[zI j];go_upto_region 4 with (at_builtin;refine wpList_append_own _ rfl (.tmp 19) (.tmp 21) 54 rfl w.heap.size 3 i0 (zI 0) 1 8 underlying54 hi0 hz0 hz1 hz2 rfl zd (.slice A k cap) k ((mR i k).map (Value.int .i64)) rfl (hrow.alloc _) ⟨wr.heap.size,0,none⟩ 1 1 [zI j] rfl rfl (Io kN) AQ (by unfold maxLen;omega) zo (by simp;omega) ?_;intro v' w3 hown' hgrow _)
   have B3:=(hB.alloc sF (.cells #[zI j] 3)).grown hgrow (by rw [World.size_alloc];omega) (λk hk=>(hrow.lt k hk).1);have hown3:w3.ownsRow w.heap.size 3 1 v' (k+1) ((mR i (k+1)).map (Value.int .i64)):=by
    rw [hps,List.map_append];exact hown'
   have hbj:b<w.heap.size:=qV.out.lt;have hB3:=qV.out.call B3;obtain ⟨g3,c3,_,_,rP,_,apD,AX,_⟩:=hB3.node (i:=j) (by rw [qi.out];exact hjm);have q3:=AX j (by rw [qi.out];exact hjm) 0 (zI ((L.getD j nd0).par)) rfl;rw [(JP.out.chain j (by rw [qi.out];exact hjm)).2] at q3;rw [qi.out] at rP;have cb3:=rP.cell;clear AX rP q0 cb hown' hgrow hrow kN hps hB Mr hB3;simp only [Nat.add_zero] at q3;go_wp2_with fail;go_roundw
   case rel=>exact ⟨k+1,by go_num,zo,hown3,B3⟩
   case measure=>simp [intOf]
  ·obtain rfl:k=i+1:=zo
   rw [show decide (0<=(i:Int) - ((i+1:Nat):Int)/\(i:Int) - ((i+1:Nat):Int)<(m:Int))=false by simp;omega] at HO;subst hv;obtain ⟨nn,hnn⟩:∃nn:Int,(i:Int) - ((i+1:Nat):Int)=nn:=⟨_,rfl⟩;rw [hnn] at HO ⊢;go_wp2_with fail;refine HO.out.zr λw2 hw2=>?_
   replace hw2:=hw2.symm;subst hw2;go_wp2_with fail;go_ret;obtain ⟨A',cap',he,dR⟩:=Q9 hrow (by rw [uq]);cases he;exact ⟨A,cap,rfl,dR,hB⟩
theorem adV (A:Option Addr) (n cap:Nat) (xs:List Int) (x:Int) (w:World) (hn:xs.length=n) (hm:n<=1000000) (hr:RI w w.heap.size A xs) :
  Calls prog 209 #[.slice A n cap,zI x] w λe w'=>e= .returned (.bool (decide (x∈xs)))/\w'=w:=by
 have kZ:=ae hr;have Sr:=ae hn;obtain ⟨R,hR⟩:=ah (decide (x∈xs));rw [hR];have hRH:=ae hR;clear hr hn hR;go_enter func209,ntmps209;go_upto_region 2 with fail
 go_loopw [5] (λu5 wr=>∃k:Nat,u5 = zI k/\k<=n/\(∀j,j<k->xs.getD j 0≠x)/\wr=w) (λu5 _=>n - (intOf u5).toNat)
 case atStart=>exact ⟨0,rfl,zo,λj h=>absurd h zo,rfl⟩
 case round =>
  obtain ⟨k,rfl,hk,hno,rfl⟩:=hrel;have NU:=ae hno;clear hno;by_cases hlt:k<n
  ·have d1:decide ((k:Int)<(n:Int))=true:=by simpa using hlt
   obtain ⟨b,o,rfl,hb,hc⟩:=kZ.out.el (k:=k) (by rw [Sr.out];exact hlt);by_cases he:xs.getD k 0=x
   ·have hin:decide (x∈xs)=true:=by
     rw [decide_eq_true_eq,<-he,List.getD_eq_getElem?_getD,List.getElem?_eq_getElem (by rw [Sr.out];exact hlt)];exact List.getElem_mem _
    have d2:=Hd he;have hRt:R=true:=by rw [<-hRH.out];exact hin
    generalize xs.getD k 0=y at *;clear he hin;go_wp2_with fail;go_ret;exact ⟨by rw [hRt];rfl,rfl⟩
   ·have d2:=lV he
    have hn2:Hid (∀j,j<k+1->xs.getD j 0≠x):=ae (λj hj=>by
     by_cases e:j=k
     ·rw [e];exact he
     ·exact NU.out j zo)
    generalize xs.getD k 0=y at *;clear he;go_wp2_with fail;go_roundw
    case rel=>exact ⟨k+1,by go_num,zo,hn2.out,trivial⟩
    case measure=>exact zm
  ·obtain rfl:k=n:=zo
   have d1:decide ((k:Int)<(k:Int))=false:=by simp
   have hin:decide (x∈xs)=false:=by
    rw [decide_eq_false_iff_not];intro h;obtain ⟨j,hj,e⟩:=List.getElem_of_mem h;refine NU.out j (by rw [<-Sr.out];exact hj) ?_;rw [List.getD_eq_getElem?_getD,List.getElem?_eq_getElem hj];exact e
   have hRt:R=false:=by rw [<-hRH.out];exact hin
   clear hin;go_wp2_with fail;go_ret;exact ⟨by rw [hRt];rfl,rfl⟩
theorem aav (b:Nat) (pg n f bk ev:Int) (V:Vm) (w:World) (hV:aA w b V) (hK:aO V) :
  Calls prog 136 #[zP b,ek pg n f bk ev] w (sW w (eY pg n f bk ev) (bQ pg n f bk ev)):=by
 have hb0:=aQ w (.cells (bg pg n f bk ev) 25);have k0:=af.new w 25 (bg pg n f bk ev);have HC:=ae (λW h=>Gn b V W h hK);have HG:=ae (λW=>Q5 pg n f bk ev W);have V0:=hV.call hb0;obtain ⟨s,hs⟩:=ah (w.heap.size);rw [hs] at k0;generalize bQ pg n f bk ev=er at *;generalize eY pg n f bk ev=G at *;unfold sW at HG;clear hV hK;go_enter func136,ntmps136;go_upto_region 1 with fail
 generalize w.alloc _=w0 at *;go_wp2_with fail;refine (HC.out _ V0).mono ?_;rintro e w1 ⟨⟨cs,hcs,rfl⟩,hb1⟩;obtain ⟨q,hq⟩:=ah (w1.heap.size);have hsz:=hcs.size;have kz:=af.new w1 77 #[zI 0,zI 0,zI 0,zI 0,zI 0];rw [hq] at kz;have ht:(w1.alloc (.cells #[zI 0,zI 0,zI 0,zI 0,zI 0] 77)).there q 0 cs.size:=by rw [hsz];exact dL kz 0 5 zs
 have hF2:=ag.puts (T:=λk=>k=q) rfl cs.toList 0 w1 _ ((ag.refl _ w1).alloc (.cells #[zI 0,zI 0,zI 0,zI 0,zI 0] 77));have hone:=Go.all_oneCell_toArray (hcs.one);rw [Array.toArray_toList] at hone;have lU:(prog.info? 77).map (·.size)=some cs.size:=by rw [hsz];exact Pf
 clear kz HC V0;go_upto_region 2 with (refine wpList_store_mid rfl 77 (.tmp 6) (.tmp 11) rfl q 0 cs rfl rfl ht lU hone ?_)
 generalize World.setCells _ q 0 _=w2 at *;have hb2:=hF2.below (n:=w1.heap.size) (Nat.le_refl _) (λk hk e=>by omega);have adW:=hb1.zt hb2;have B2:=hb0.zt adW;have k2:=k0.call adW;have c2:=k2.cell;clear hF2 ht hone lU hcs hsz hb1 hb2 adW k0;go_wp2_with fail;refine (HG.out _).mono ?_;rintro e w3 ⟨A,c,rfl,g1,g2,g3,g4,g5,g6⟩;have B3:=B2.zt g5;have hsz2:=B2.size;clear HG c2 k2;go_wp2_with fail;go_ret2;exact ⟨A,c,rfl,g1,g2,g3,λx o e=>by have:=g4 x o e;omega,B3,g6⟩
theorem Iq {w:World} {g:Nat} {t:TypeId} {a b:Int} (h:af w g t #[zI a,zI b]):RU w w.heap.size (some ⟨g,0,none⟩) [(a,b)]:=λk hk=>by
 obtain rfl:k=0:=by simp at hk;omega
 exact ⟨g,0,rfl,h.lt,h.cell 0,h.cell 1⟩
theorem D8 (pg n f bk ev:Int):(eY pg n f bk ev).length<=512:=by
 by_cases h:bQ pg n f bk ev=0
 ·exact (Rh (bR.1 h)).1.len
 ·unfold eY;rw [if_neg h];exact Nat.zero_le _
theorem Pz (p:Value) (C:Array Value) (w:World):∃w0:World,w0=(((w.alloc (.cells #[p] 42)).alloc (.cells C 25)).alloc (.cells #[zN] 26)).alloc (.cells #[zI 0] 37) /\
  w0.heap.size=w.heap.size+4/\Below w.heap.size w w0/\af w0 w.heap.size 42 #[p]/\af w0 (w.heap.size+1) 25 C/\af w0 (w.heap.size+2) 26 #[zN]/\af w0 (w.heap.size+3) 37 #[zI 0]:=by
 have e1:=World.size_alloc w (.cells #[p] 42);have e2:=World.size_alloc (w.alloc (.cells #[p] 42)) (.cells C 25);have e3:=World.size_alloc ((w.alloc (.cells #[p] 42)).alloc (.cells C 25)) (.cells #[zN] 26);have e4:=World.size_alloc (((w.alloc (.cells #[p] 42)).alloc (.cells C 25)).alloc (.cells #[zN] 26)) (.cells #[zI 0] 37);have k1:=((af.new w 42 #[p]).alloc (.cells C 25)).alloc (.cells #[zN] 26) |>.alloc (.cells #[zI 0] 37)
 have k2:=((af.new (w.alloc (.cells #[p] 42)) 25 C).alloc (.cells #[zN] 26)).alloc (.cells #[zI 0] 37);have k3:=(af.new ((w.alloc (.cells #[p] 42)).alloc (.cells C 25)) 26 #[zN]).alloc (.cells #[zI 0] 37);have k4:=af.new (((w.alloc (.cells #[p] 42)).alloc (.cells C 25)).alloc (.cells #[zN] 26)) 37 #[zI 0];have hb:=(((aQ w (.cells #[p] 42)).alloc zo (.cells C 25)).alloc zo (.cells #[zN] 26)).alloc zo (.cells #[zI 0] 37);rw [e1] at k2;rw [e2,e1] at k3;rw [e3,e2,e1] at k4;exact ⟨_,rfl,zo,hb,k1,k2,k3,k4⟩
theorem Ms (p0 p1 p2 p3:Nat) (w:World) (k0:af w p0 37 #[zI 0]) :
  CallsD prog 137 #[zP p0,zP p1,zP p2,zP p3] .returning w λe u' w'=>u'= .returning/\((∃v,e= .returned v)/\w'=w):=by
 have c0:=k0.cell
 go_enter_d func137,ntmps137
 go_wp2_with fail;exact ⟨rfl,_,by simp [results,results137,go_sem];rfl,⟨_,rfl⟩,rfl⟩
theorem Mt (b p0 p1 p2 p3:Nat) (er xa xb:Int) (V:Vm) (w:World) (hV:aA w b V) (he:er≠0) (k0:af w p0 37 #[zI er]) (k1:af w p1 42 #[zP b]) (k2:af w p2 85 #[zI xa,zI xb])
  (h0:(bK V xa xb 4 3 1).1=0) :
  CallsD prog 137 #[zP p0,zP p1,zP p2,zP p3] .returning w λe u' w'=>u'= .returning/\((∃v,e= .returned v)/\dw b (bK V xa xb 4 3 1).2 w w'):=by
 obtain ⟨c0,c1,c2⟩:=mM k0 k1 k2;have he':(er != 0)=true:=by simpa using he
 have HD:=ae (sH b xa xb V w hV);rw [h0] at HD;generalize (bK V xa xb 4 3 1).2=J at *;clear he hV h0
 go_enter_d func137,ntmps137
 go_wp2_with fail;refine HD.out.zr λw1 hS=>?_
 clear HD;go_wp2_with fail;exact ⟨rfl,_,by simp [results,results137,go_sem];rfl,⟨_,rfl⟩,hS⟩
theorem uw {P:Program} {w:World} {ops:Array Oper} {rest:List Oper} {o:Oper} {a:Act} {Q:Exit->Act->World->Prop} (hgd:o.guard=none) (s x:Operand) (t:TypeId)
  (ho:o.op= .call { callee:=.builtin .append,args:=#[s,x],argTypes:=#[t,t] })
  (base:Nat) (e:TypeId) (i:TypeInfo) (z:Value) (size bytes:Nat) (ht:P.underlying t=some (.slice e)) (hi:P.info? e=some i) (hz:i.zero=some z)
  (hsize:i.size=size) (hby:i.bytes=bytes) (hzs:z.cells.size=size) (hsz:0<size)
  (v:Value) (n:Nat) (xs:List Value) (hs:a.eval s=v) (hown:w.ownsRow base e size v n xs)
  (A:Option Addr) (m c:Nat) (news:List Value) (hx:a.eval x= .slice A m c) (hA:A=none->m=0/\c=0) (hl:news.length=m*size) (hnews:∀ad,A=some ad->∀j u,news[j]? = some u->w.cell? (ad.add j)=some u) (h1:∀u∈news,u.oneCell'=true)
  (h63:n+m<=maxLen) (hbytes:(n+m)*bytes<=140737488355328) (hbase:base<=w.heap.size)
  (h:∀v' w',w'.ownsRow base e size v' (n+m) (xs++news)->w.grownBy w' v.ownBlock->wpList P ops Q rest (a.put o.dst v') w'):wpList P ops Q (o::rest) a w:=by
 cases A with
 | none =>
  obtain ⟨rfl,rfl⟩:=hA rfl;have hn:news=[]:=List.eq_nil_of_length_eq_zero (by rw [hl];simp);subst hn;exact wpList_append_own_none hgd s x t ho base e i size ht hi v n xs hs hown hx (h v w (by simpa using hown) (World.grownBy.refl _ _))
 | some ad=>exact wpList_append_own _ hgd s x t ho base e i z size bytes ht hi hz hsize hby hzs hsz v n xs hs hown ad m c news hx hl (hnews ad rfl) h1 h63 hbytes hbase λv' w' h2 h3 _=>h v' w' h2 h3
theorem ajj {P:Prop} (h:P:=by
 have uj:=k3.call hw8;have wW:=aI yJ hw8;have oC:=aI uQ hw8;have si:=aI zR hw8;have Pm:=D5.call hw8;have F8:ag (λk=>k=s+1\/NB<=k) w3 w8:=hF.trans (.of_below hw8);have ajk:=(hw8.cell (p:=⟨b,k,none⟩) D5.lt).trans hcK;have adX:NB<=(w8).heap.size:=by have:=F8.size;omega
 clear c3 f3 k3 yJ uQ zR hF q1 hcK hw8;go_upto_region 10 with fail
 refine WK b (s+1) k NB N1 _ _ kd _ _ w8 hkl zo Pm.lt uj.lt adX zo zo ajk uj ((uj.cell 0).trans rfl) wW ?_;intro x64 x65 x66 x67 x68 x69 x70 x71 x72 x73 x74 x75 x76 iV WL CY auX zQ amr adY;clear ajk;go_wp2_with fail;go_meet
 case rel =>
  refine ⟨rfl,_,zQ,?_,oF oC wW zd zo adY,oF si wW zd zo adY,F8.trans' adY (λi hi h=>h.elim .inl (λh=>.inr (wW.lt i h).1))⟩;rw [hE.out,List.length_append,List.length_singleton,NN.out,kC,show fl rG [((k:Int),(1:Int),kd)]=rG ((k:Int),1,kd) by simp [fl]];exact amr):P:=h
theorem adZ {P:Prop} (h:P:=by
 go_roundw
 case rel=>exact ⟨k+1,_,v2',_,zo,by go_num,yI,ajl,BN,by rw [rM.out];exact pR,F39⟩
 case measure=>exact zm):P:=h
theorem JS (B b:Nat) (V:Vm) (w:World) (hV:bn w B b V) (hG:iq V) :
  Calls prog 11 #[zP b] w (ads V w):=by
 obtain ⟨cs,A,n,cap,kb,hc,hn,hr,hBb,hok⟩:=hV.ex;have hbl:=kb.lt;have hb0:=aQ w (.cells (gG zN zN zN zN (λ_=>0) (λ_=>0)).toArray 60);have k2:=af.new w 60 (gG zN zN zN zN (λ_=>0) (λ_=>0)).toArray;have Hm:=kb.call hb0;obtain ⟨s,hs⟩:=ah (w.heap.size);have hsz0:(w.alloc (.cells (gG zN zN zN zN (λ_=>0) (λ_=>0)).toArray 60)).heap.size=s+1:=by rw [World.size_alloc,hs]
 have hr0:Rd (w.alloc (.cells (gG zN zN zN zN (λ_=>0) (λ_=>0)).toArray 60)) B A (fl iU V.rf.rules):=hr.vV (T:=λ_=>False) (ag.of_below hb0) (λ_ h=>h.elim);rw [hs] at k2;unfold gG aH at hb0 k2 hsz0 Hm hr0;have hc':=ae hc;clear hV kb hr;go_enter func11,ntmps11;go_upto_region 1 with fail
 generalize w.alloc _=w0 at *;try simp only [hs]
 have pQ:w0.rangeAt b 66624 (aH (.slice A n cap) V.rf.calls V.rf.hits):=λj v hj=>by
  have RH:j<15:=(List.getElem?_eq_some_iff.1 hj).1;rw [Hm.cell,hc'.out.rf j RH];exact hj
 have k3:=af.new w0 60 (gG zN zN zN (.slice A n cap) V.rf.calls V.rf.hits).toArray;have hb1:=aQ w0 (.cells (gG zN zN zN (.slice A n cap) V.rf.calls V.rf.hits).toArray 60);obtain ⟨k21,wV⟩:=bY hb1 k2 Hm;have hr1:=hr0.vV (T:=λ_=>False) (ag.of_below hb1) (λ_ h=>h.elim);have hsz1:(w0.alloc (.cells (gG zN zN zN (.slice A n cap) V.rf.calls V.rf.hits).toArray 60)).heap.size=s+2:=by rw [World.size_alloc,hsz0]
 rw [hsz0] at k3;unfold gG aH at k3 hb1 k21 wV hr1 hsz1;clear k2 Hm hr0 hc;go_upto_region 2 with (refine wpList_load_mid rfl 58 (.tmp 8) rfl b 66624 rfl (aH (.slice A n cap) V.rf.calls V.rf.hits) _ pQ underlying58 rfl dP ?_;unfold aH)
 generalize w0.alloc _=w1 at *;try simp only [hsz0]
 obtain ⟨iR,Mv,ajm,ajn,ajo⟩:=BK;have Po:=(lZ.1 hok.plan).1;have hn1:=hn.1;have RB:n<=50:=zo;have c67:w1.cell? ⟨b,66624,none⟩=some (.slice A n cap):=by rw [wV.cell];exact (hc'.out.rf 0 zo).trans rfl
 have apH:(w1.alloc (.cells #[] 108)).cell? ⟨b,66624,none⟩=some (.slice A n cap):=by rw [(wV.alloc _).cell];exact (hc'.out.rf 0 zo).trans rfl
 have hbE:Below w1.heap.size w1 (w1.alloc (.cells #[] 108)):=(Below.refl _ _).alloc (Nat.le_refl _) _;have hrE:=hr1.vV (T:=λ_=>False) (ag.of_below hbE) (λ_ h=>h.elim);have C8:A=none->n=0/\cap=0:=λh=>by
  refine ⟨?_,hn.2 h⟩;rw [<-hn.1];cases dR:V.rf.rules with
  | nil=>rfl
  | cons x r =>
   obtain ⟨b',o,e,_⟩:=hr1 0 (by rw [dR,mg jY];simp);rw [h] at e;cases e
 have Y2:∀ad,A=some ad->∀(j:Nat) (u:Value),(fl iU V.rf.rules)[j]? = some u->(w1.alloc (.cells #[] 108)).cell? (ad.add j)=some u:=λad h j u hj=>by
  obtain ⟨hlt,e⟩:=List.getElem?_eq_some_iff.1 hj;obtain ⟨b',o,e',_,hc⟩:=hrE j hlt;rw [h] at e';cases e';rw [dM,hc,e]
 have Bl:=ae k3;have Pp:w1.cell? ⟨s+1,3,none⟩=some (.slice A n cap):=(k3.cell 3).trans rfl;have ad1:=ae hsz1;clear k3 pQ hr1 hrE hsz1;go_upto_region 3 with (refine uw rfl (.tmp 11) (.tmp 17) 29 rfl w1.heap.size 108 iR (.agg #[zI 0,zI 0,zI 0,zI 0]) 4 32 underlying29 Mv ajm ajn ajo rfl zd _ 0 [] rfl (World.ownsRow_made w1 _ _ (Nat.le_refl _) (by unfold maxLen;omega) rfl) A n cap (fl iU V.rf.rules) rfl C8 (by rw [mg jY,hn1]) Y2 (QN V.rf.rules) (by unfold maxLen;omega) zo zs ?_;intro v' w2 hown' hgrow;have hb2:Below w1.heap.size w1 w2:=hbE.grown hgrow zs (λj hj=>by cases hj;exact Nat.le_refl _);have jv:=Bl.out.call hb2;have f32:=jv.frozen;have c32:w2.cell? ⟨s+1,3,none⟩=some (.slice A n cap):=(jv.cell 3).trans rfl;rw [Nat.zero_add,List.nil_append] at hown';obtain ⟨A4,c4,rfl,q1,_,_,q4,_⟩:=dH hown';clear Pp)
 have ny:=jv.aM 3 (.slice A4 n c4);have F3:ag (λk=>k=s+1) w2 (w2.setCell ⟨s+1,3,none⟩ (.slice A4 n c4)):=ag.setCell (T:=λk=>k=s+1) (p:=⟨s+1,3,none⟩) (ag.refl _ w2) (λ_=>rfl) _;obtain ⟨qg,k22⟩:=bY hb2 wV k21;have hsz1:=ad1.out;have hs0:s+1<=w0.heap.size:=Nat.le_of_eq hsz0.symm;have ajp:Below s w w0:=by rw [<-hs];exact hb0
 have B1:Below s w w1:=ajp.trans (hb1.mono zo);have B2:Below s w w2:=B1.trans (hb2.mono zo);generalize w2.setCell ⟨s+1,3,none⟩ (.slice A4 n c4)=w3 at *;have oJ:af w3 (s+1) 60 (gG zN zN zN (.slice A4 n c4) V.rf.calls V.rf.hits).toArray:=ny;have q13:Rd w3 w2.heap.size A4 (fl iU V.rf.rules):=q1.NI F3 (λg o e=>by have:=q4 g o e;show ¬g=s+1;omega);have hbs:b<s:=by rw [<-hs];exact hbl
 have rP:=F3.blk qg (by show ¬b=s+1;omega);have k23:=F3.blk k22 (by show ¬s=s+1;omega);have hsz2:=hb2.size;have Rz:w2.heap.size<=w3.heap.size:=F3.size;have B3:Below s w w3:=B2.trans (F3.below zo (λk hk e=>by omega));have adz:=ae q13;have q4':Hid (∀(b o:Nat),A4=some ⟨b,o,none⟩->s+2<=b):=ae (λb' o e=>by have:=q4 b' o e;omega);have B3':=ae B3;have hG':=ae hG;have adA:=ae hn1;have auY:=ae RB;have hs':=ae hs;have axa:s+2<=w2.heap.size:=zo;clear F3 jv k22 qg B2 ny q13 q1 f32 hb2 Bl B1 c32 k21 wV hb1 hb0 ajp hsz1 ad1 hsz0 hs0 hn hn1 hok Y2 C8 c67 apH hbE hgrow q4 B3 hG Po iR Mv ajm ajn ajo hown' hs hbl;obtain ⟨NB,hNB⟩:=ah (w3.heap.size);have axb:s+2<=NB:=zo;go_wp2_with fail
 go_loopw [4] (λu wr=>∃(k:Nat) (v1 v2 v3:Value),k<=1024/\u = zI k/\af wr (s+1) 60 (gG v1 v2 v3 (.slice A4 n c4) V.rf.calls V.rf.hits).toArray /\
  wr.ownsRow NB 110 3 v1 (aF V k).length (fl rG (aF V k))/\wr.ownsRow NB 3 1 v2 (dC V k).length ((dC V k).map (Value.int .i64))/\wr.ownsRow NB 118 65 v3 (dS V k).length (fl (rJ V) (dS V k))/\ag (λk=>k=s+1\/NB<=k) w3 wr) (λu _=>1024 - (intOf u).toNat)
 case atStart=>exact ⟨0,_,_,_,zo,rfl,oJ,World.ownsRow_nil _ _ _ _,World.ownsRow_nil _ _ _ _,World.ownsRow_nil _ _ _ _,ag.refl _ _⟩
 case round =>
  clear oJ;obtain ⟨k,v1,v2,v3,hk,rfl,k3,yJ,uQ,zR,hF⟩:=hrel;by_cases hlt:k<1024
  ·have hlt':decide ((k:Int)<1024)=true:=by rw [decide_eq_true_eq];omega
   have hkl:(k:Int)<1024:=zo;have D5:=hF.blk rP (by show ¬(b=s+1\/NB<=b);omega);have hcK:=(D5.cell k).trans (hc'.out.kind k hlt);have c3:=k3.cell;have f3:=k3.frozen;unfold gG aH at c3;obtain ⟨kd,hkd⟩:=ah ((V.pg k).kind);rw [hkd] at hcK;have hlR:=qU V k;obtain ⟨i0,hi,hz0,hz1,hz2⟩:=info_parts R7;have hsF:=hF.size;obtain ⟨A1,lG,rfl,_⟩:=dH yJ;obtain ⟨N1,hN1⟩:=ah ((aF V k).length);rw [hN1] at yJ k3 c3 hlR;try simp only [hN1]
   have NN:=ae hN1;clear hN1;go_upto_if 35 with fail
   go_cut [4,5] from 26 to 124 (λs4 s5 W=>s4 = zI (k:Int)/\∃v1,af W (s+1) 60 (gG v1 v2 v3 (.slice A4 n c4) V.rf.calls V.rf.hits).toArray/\W.ownsRow NB 110 3 v1 (aF V (k+1)).length (fl rG (aF V (k+1)))/\W.ownsRow NB 3 1 v2 (dC V (k)).length ((dC V (k)).map (Value.int .i64))/\W.ownsRow NB 118 65 v3 (dS V k).length (fl (rJ V) (dS V k))/\ag (λk=>k=s+1\/NB<=k) w3 W)
   case first =>
    by_cases h0:kd=0
    ·have h0':=Ha h0
     have e1:aF V (k+1)=aF V k:=by rw [jc,if_pos (hkd.trans h0)]
     have hE:=ae e1;clear h0 e1 hkd;go_wp2_with fail;go_meet
     case rel=>exact ⟨rfl,_,k3,by rw [hE.out,NN.out];exact yJ,uQ,zR,hF⟩
    ·have h0':=gJ h0
     have q1:=λz:Ext wr=>z.cell hcK
     by_cases hs2:0<k/\(V.pg (k - 1)).kind=kd
     ·obtain ⟨m,hm⟩:∃m,m+1=k:=⟨k - 1,zo⟩
      have hkm:(V.pg m).kind=kd:=by have:=hs2.2;rwa [show k - 1=m by omega] at this
      have WS:=(D5.cell m).trans (hc'.out.kind m zo);rw [hkm] at WS;have q2:=λz:Ext wr=>z.cell WS
      have hk1:(k:Int) - 1=(m:Int):=zo;have hk0:decide (0<k)=true:=by rw [decide_eq_true_eq];omega
      have O4:(m:Int)<1024:=zo;obtain ⟨l,x,hlx⟩:∃l x,aF V k=l++[x]:=by
       rcases List.eq_nil_or_concat (aF V k) with h|⟨l,y,h⟩
       ·obtain ⟨t,h1,h2⟩:=CU (V:=V) (q:=0) (.inl rfl) k
        rw [Nat.zero_add] at h1 h2;have ht:t=[]:=by have:=h1.symm.trans h;simpa [aF] using this
        exact absurd ht (h2 hs2.1 (by rw [hs2.2];exact h0))
       ·exact ⟨l,y,by rw [h,List.concat_eq_append]⟩
      have hx:=Gt (V:=V) k zo x (by rw [hlx];simp);have e1:aF V (k+1)=l++[(x.1,x.2.1+1,x.2.2)]:=by
       rw [jc,if_neg (by rw [hkd];exact h0),if_pos ⟨hs2.1,by rw [hs2.2,hkd]⟩,hlx,oz]
      obtain ⟨ll,hll⟩:=ah (l.length);have hNl:ll+1=N1:=by rw [<-NN.out,hlx,List.length_append,hll];rfl
      obtain ⟨g,rfl⟩:∃g,A1=some ⟨g,0,none⟩:=by
       have ajq:=yJ;rw [<-hNl] at ajq;obtain ⟨g,cap',e⟩:=ownsRow_succ ajq;simp only [Value.slice.injEq] at e;exact ⟨g,e.1⟩
      have hgl:=yJ.lt g rfl;have Fg:(N1:Int) - 1=(ll:Int):=zo;have hlN:(ll:Int)<(N1:Int):=zo;have hcx:wr.cell? ⟨g,ll*3+1,none⟩=some (zI x.2.1):=by
       rw [yJ.cellAt _ zo,hlx,kC,List.getElem?_append_right (by rw [mg uh,hll];omega),mg uh,hll,show ll*3+1 - ll*3=1 by omega];rfl
      have hE:=ae e1;have apK:=ae hll;have apL:=ae hlx;have ajr:=ae hNl;obtain ⟨xa,xb,xc⟩:=x;simp only at hx hcx;clear h0 hs2 hkd hkm e1 hll hlx hNl WS hcK hm;go_upto_region 8 with fail
      refine aD zk zk ?_
      repeat (go_big_quiet_step (fail))
      refine wpQuiet_nil ?_;rintro w8 ⟨⟨_,hw8⟩,rfl⟩;have uj:=k3.call hw8;have wW:=aI yJ hw8;have oC:=aI uQ hw8;have si:=aI zR hw8;have F8:ag (λk=>k=s+1\/NB<=k) w3 w8:=hF.trans (.of_below hw8);have cg:w8.cell? ⟨g,ll*3+1,none⟩=some (zI xb):=(hw8.cell (p:=⟨g,ll*3+1,none⟩) hgl.2).trans hcx;have fg:=wW.frozenAt (ll*3+1);have c38:=uj.cell;unfold gG aH at c38;clear c3 f3 k3 yJ uQ zR hF hcx q1 q2 hw8;go_wp2_with fail;go_meet
      case rel =>
       have FS:ag (λi=>i=g) w8 (w8.setCell ⟨g,ll*3+1,none⟩ (zI (xb+1))):=ag.setCell (T:=λi=>i=g) (p:=⟨g,ll*3+1,none⟩) (ag.refl _ w8) (λ_=>rfl) _;have FR:=FS.mono (T':=λi=>i=s+1\/(Value.slice (some ⟨g,0,none⟩) N1 lG).ownBlock=some i) (λi _ h=>.inr (by rw [h];rfl));have hb:=aas (v:=zI (xb+1)) wW (i:=ll*3+1) (by have:=ajr.out;omega);refine ⟨rfl,_,FS.blk uj (by show ¬s+1=g;omega),?_,oF oC wW zd zo FR,oF si wW zd zo FR,F8.trans' FS (λi hi h=>.inr (by rw [h];exact hgl.1))⟩;rw [hE.out,adP l (xa,xb,xc),<-apL.out,List.length_append,List.length_singleton,apK.out,ajr.out];exact hb
     ·have hE:Hid (aF V (k+1)=aF V k++[((k:Int),1,kd)]):=ae (by
       rw [jc,if_neg (by rw [hkd];exact h0),if_neg (by rw [hkd];exact hs2),hkd])
      have HR:∀w8:World,Below wr.heap.size wr w8->True:=λ_ _=>trivial
      by_cases ajs:k=0
      ·have hk0:decide (0<k)=false:=by rw [decide_eq_false_iff_not];omega
       clear h0 hs2 hkd ajs HR;go_upto_region 8 with fail
       refine aD zk zk ?_
       repeat (go_big_quiet_step (fail))
       refine wpQuiet_nil ?_;rintro w8 ⟨⟨_,hw8⟩,rfl⟩;exact ajj
      ·obtain ⟨m,hm⟩:∃m,m+1=k:=⟨k - 1,zo⟩
       obtain ⟨km,hkm⟩:=ah ((V.pg m).kind);have WS:=(D5.cell m).trans (hc'.out.kind m zo);rw [hkm] at WS;have q2:=λz:Ext wr=>z.cell WS
       have hk1:(k:Int) - 1=(m:Int):=zo;have hk0:decide (0<k)=true:=by rw [decide_eq_true_eq];omega
       have O4:(m:Int)<1024:=zo;have tT:(km==kd)=false:=by
        rw [beq_eq_false_iff_ne];intro h;exact hs2 ⟨zo,by rw [show k - 1=m by omega,hkm];exact h⟩
       clear h0 hs2 hkd hkm ajs HR hm WS;go_upto_region 8 with fail
       refine aD zk zk ?_
       repeat (go_big_quiet_step (fail))
       refine wpQuiet_nil ?_;rintro w8 ⟨⟨_,hw8⟩,rfl⟩;clear q2;exact ajj
   case rest =>
    obtain ⟨rfl,v1',uj,wW,oC,si,DZ⟩:=hcut;have Pm:=DZ.blk rP (by show ¬(b=s+1\/NB<=b);omega);have Ps:=(Pm.cell (1024+k / 16)).trans (hc'.out.bP k hlt);obtain ⟨q,hq,hqz⟩:∃q:Nat,Int.tdiv (k:Int) 16=(q:Int)/\k / 16=q:=⟨k / 16,by rw [Int.tdiv_eq_ediv_of_nonneg zo];omega,rfl⟩;rw [hqz] at Ps;have hql:(q:Int)<64:=zo;obtain ⟨hg,hhg⟩:=ah ((V.pg k).bP);rw [hhg] at Ps;have j5:Hid (dC V (k+1)=if k % 16=0/\hg=true then dC V k++[(k:Int)] else dC V k):=ae (by rw [<-hhg];rfl);have vE:Hid (dS V (k+1)=if zJ (V.pg k)=true then dS V k++[k] else dS V k):=ae rfl;have Wu:=wP V k;have hlD:=wQ V k;clear hqz hhg k3 yJ uQ zR hF D5 c3 f3 hcK hlR hsF NN hkd;go_upto_region 11 with fail
    go_cut [4,88] from 26 to 124 (λs4 s88 W=>s4 = zI (k:Int)/\s88= .bool (decide (k % 16=0)&&hg)/\W=wc)
    case first =>
     by_cases hm:k % 16=0
     ·have hrm:Int.tmod (k:Int) 16=0:=by rw [Int.tmod_eq_emod_of_nonneg zo];omega
      have hE:=ae (decide_eq_true hm);clear j5 vE hm;go_wp2_with fail;go_meet
      case rel=>exact ⟨rfl,by rw [hE.out,Bool.true_and],rfl⟩
     ·obtain ⟨rm,hrm,hrz⟩:∃rm,Int.tmod (k:Int) 16=rm/\(rm==0)=false:=⟨_,rfl,by
       rw [Int.tmod_eq_emod_of_nonneg zo];simp;omega⟩
      have hE:=ae (decide_eq_false hm);clear j5 vE hm;go_wp2_with fail;go_meet
      case rel=>exact ⟨rfl,by rw [hE.out,Bool.false_and],rfl⟩
    case rest =>
     obtain ⟨rfl,rfl,hw⟩:=hcut;subst hw;have JU:Hid (dC V (k+1)=if (decide (k % 16=0)&&hg)=true then dC V k++[(k:Int)] else dC V k):=ae (by
      rw [j5.out];simp only [Bool.and_eq_true,decide_eq_true_eq])
     generalize (decide (k % 16=0)&&hg)=gb at *;clear j5 Ps;go_upto_if 88 with fail
     go_cut [4] from 26 to 124 (λs4 W=>s4 = zI (k:Int)/\∃v2,af W (s+1) 60 (gG v1' v2 v3 (.slice A4 n c4) V.rf.calls V.rf.hits).toArray/\W.ownsRow NB 110 3 v1' (aF V (k+1)).length (fl rG (aF V (k+1)))/\W.ownsRow NB 3 1 v2 (dC V (k+1)).length ((dC V (k+1)).map (Value.int .i64))/\W.ownsRow NB 118 65 v3 (dS V k).length (fl (rJ V) (dS V k))/\ag (λk=>k=s+1\/NB<=k) w3 W)
     case first =>
      clear vE hlD;cases gb with
      | true =>
       have dx:Hid (dC V (k+1)=dC V k++[(k:Int)]):=ae (by rw [JU.out,if_pos rfl]);clear JU;obtain ⟨A2,cap2,rfl,_⟩:=dH oC;obtain ⟨ll,hll⟩:=ah ((dC V k).length);rw [hll] at oC Wu uj;try simp only [hll]
       have kN:=af.new wc 3 #[zI (k:Int)];have hbN:Below wc.heap.size wc (wc.alloc (.cells #[zI (k:Int)] 3)):=(Below.refl _ _).alloc (Nat.le_refl _) _;have hsF:=DZ.size;have c38:=uj.cell;unfold gG aH at c38
       go_wp2_with (refine wpList_append_own _ rfl (.tmp 90) (.tmp 92) 54 rfl NB 3 i0 (zI 0) 1 8 underlying54 hi hz0 hz1 hz2 rfl zd _ ll ((dC V k).map (Value.int .i64)) rfl (oC.alloc _) ⟨wc.heap.size,0,none⟩ 1 1 [zI (k:Int)] rfl rfl (Io kN) AQ (by unfold maxLen;omega) zo (by simp;omega) ?_;intro v' w7 hown' hgrow _;rw [show (dC V k).map (Value.int .i64)++[zI (k:Int)]=(dC V k++[(k:Int)]).map (Value.int .i64) by simp] at hown';have F7:ag (λg=>(Value.slice A2 ll cap2).ownBlock=some g) wc w7:=(ag.of_below hbN).grown hgrow (λg hg _=>hg);have uR:=F7.blk uj (λh=>dJ oC h uj zd);have f37:=uR.frozen;have ai1:w7.cell? ⟨s+1,1,none⟩=some (.slice A2 ll cap2):=(uR.cell 1).trans rfl;obtain ⟨JJ,uk,rfl,_⟩:=dH hown';clear c38)
       go_meet
       case rel =>
        have F8:ag (λg=>g=s+1\/(Value.slice A2 ll cap2).ownBlock=some g) wc (w7.setCell ⟨s+1,1,none⟩ (.slice JJ (ll+1) uk)):=(F7.mono (T':=λg=>g=s+1\/(Value.slice A2 ll cap2).ownBlock=some g) (λg _ h=>.inr h)).setCell (p:=⟨s+1,1,none⟩) (λ_=>.inl rfl) _;have F81:ag (λk=>k=s+1) w7 (w7.setCell ⟨s+1,1,none⟩ (.slice JJ (ll+1) uk)):=ag.setCell (T:=λk=>k=s+1) (p:=⟨s+1,1,none⟩) (ag.refl _ w7) (λ_=>rfl) _;refine ⟨rfl,_,uR.aM 1 (.slice JJ (ll+1) uk),oF wW oC zd zo F8,?_,oF si oC zd zo F8,DZ.trans' F8 (λi hi h=>h.elim .inl (λh=>.inr (oC.lt i h).1))⟩;rw [dx.out,List.length_append,List.length_singleton,hll];exact aN hown' F81 (λg hg h=>dJ hown' (hg.trans (congrArg some h)) uR zd)
      | false =>
       have dx:Hid (dC V (k+1)=dC V k):=ae (by rw [JU.out,if_neg zd]);clear JU;go_wp2_with fail;go_meet
       case rel=>exact ⟨rfl,_,uj,wW,by rw [dx.out];exact oC,si,DZ⟩
     case rest =>
      obtain ⟨rfl,v2',yI,ajl,BN,pR,F39⟩:=hcut;clear JU uj wW oC si DZ Pm Wu;have kb9:=F39.blk rP (by show ¬(b=s+1\/NB<=b);omega);obtain ⟨A3,mI,rfl,_⟩:=dH pR;go_upto_region 13 with fail
      have ajt:=(kb9.cell k).trans (hc'.out.kind k hlt);have R9:=yI.cell;unfold gG aH at R9;by_cases hk2:(V.pg k).kind=2
      ·rw [hk2] at ajt
       clear hk2;obtain ⟨X,hX⟩:=ah (fP .u8 64 (V.pg k).fe);have zM:X.size=64:=by rw [<-hX];simp [fP]
       have hra:wc.rangeAt b (1088+k*64) X.toList:=λj v hj=>by
        rw [<-hX] at hj;have Gr:j<64:=by have:=(List.getElem?_eq_some_iff.1 hj).1;simpa [fP] using this
        rw [kb9.cell,hc'.out.fe k hlt j Gr,<-hj,Array.getElem?_toList,ui Gr]
       have oW:(prog.info? 100).map (·.size)=some X.toList.length:=by rw [Array.length_toList,zM];exact ug
       have heq:∀W,(Op.equalIn 10000 100 (.agg X) (.agg #[.int .u8 0,.int .u8 0,.int .u8 0,.int .u8 0,.int .u8 0,.int .u8 0,.int .u8 0,.int .u8 0,.int .u8 0,.int .u8 0,.int .u8 0,.int .u8 0,.int .u8 0,.int .u8 0,.int .u8 0,.int .u8 0,.int .u8 0,.int .u8 0,.int .u8 0,.int .u8 0,.int .u8 0,.int .u8 0,.int .u8 0,.int .u8 0,.int .u8 0,.int .u8 0,.int .u8 0,.int .u8 0,.int .u8 0,.int .u8 0,.int .u8 0,.int .u8 0,.int .u8 0,.int .u8 0,.int .u8 0,.int .u8 0,.int .u8 0,.int .u8 0,.int .u8 0,.int .u8 0,.int .u8 0,.int .u8 0,.int .u8 0,.int .u8 0,.int .u8 0,.int .u8 0,.int .u8 0,.int .u8 0,.int .u8 0,.int .u8 0,.int .u8 0,.int .u8 0,.int .u8 0,.int .u8 0,.int .u8 0,.int .u8 0,.int .u8 0,.int .u8 0,.int .u8 0,.int .u8 0,.int .u8 0,.int .u8 0,.int .u8 0,.int .u8 0])).run prog W= .ok (!zJ (V.pg k)) W:=λW=>by
        exact adx
       have ad3:wc.rangeAt b (1088+k*64) (fP .u8 64 (V.pg k).fe).toList:=by rw [hX];exact hra
       clear hX zM;cases hnz:zJ (V.pg k) with
       | false =>
        rw [hnz] at heq;have rM:Hid (dS V (k+1)=dS V k):=ae (by rw [vE.out,if_neg (by rw [hnz];decide)]);clear vE hnz ad3
        go_wp2_with (refine vG 100 (.tmp 107) rfl rfl b (1088+k*64) rfl X.toList _ hra underlying100 rfl oW ?_;rw [Array.toArray_toList])
        exact adZ
       | true =>
        rw [hnz] at heq;have rM:Hid (dS V (k+1)=dS V k++[k]):=ae (by rw [vE.out,if_pos hnz]);clear vE hnz;go_upto_region 14 with (refine vG 100 (.tmp 107) rfl rfl b (1088+k*64) rfl X.toList _ hra underlying100 rfl oW ?_;rw [Array.toArray_toList])
        have adX:NB<=wc.heap.size:=by have:=F39.size;omega
        refine WM b (s+1) k NB _ _ _ (V.pg k).fe _ _ _ hkl zo kb9.lt yI.lt adX zo zo ad3 yI ((yI.cell 2).trans rfl) pR ?_;intro x112 x113 x114 x115 aja ajb ajc ajd aje ajf ajg ajh aji PD WO CZ au2 apN amv ad4;clear R9 ajt heq hra ad3;go_wp2_with fail;go_roundw
        case rel =>
         refine ⟨k+1,_,v2',_,zo,by go_num,apN,oF ajl pR zd zo ad4,oF BN pR zd zo ad4,?_,F39.trans' ad4 (λi hi h=>h.elim .inl (λh=>.inr (pR.lt i h).1))⟩;rw [rM.out,List.length_append,List.length_singleton,kC,show fl (rJ V) [k]=(lW (k:Int) (V.pg k).fe).toList by rw [<-DY];simp [fl]];exact amv
        case measure=>exact zm
      ·have axc:=lV hk2
       have rM:Hid (dS V (k+1)=dS V k):=ae (by rw [vE.out,if_neg (by
        have h:=Wi.2 (λj _=>hG'.out.fe k hlt hk2 j);rw [h];decide)])
       clear vE hk2;go_wp2_with fail;exact adZ
  ·obtain rfl:k=1024:=zo
   have hlt':decide (((1024:Nat):Int)<1024)=false:=by decide
   obtain ⟨A1,lG,rfl,r1,_,_,g1,_⟩:=dH yJ;obtain ⟨A2,cap2,rfl,r2,_,_,g2,_⟩:=dH uQ;obtain ⟨A3,mI,rfl,r3,_,_,g3,_⟩:=dH zR;have k2r:=hF.blk k23 (by show ¬(s=s+1\/NB<=s);omega);obtain ⟨qh,zS⟩:=ah (gG (.slice A1 (aF V 1024).length lG) (.slice A2 (dC V 1024).length cap2) (.slice A3 (dS V 1024).length mI) (.slice A4 n c4) V.rf.calls V.rf.hits);have xQ:qh.length=18:=by rw [<-zS];rfl
   have Wv:qh.toArray.all (·.oneCell')=true:=by rw [<-zS];exact Go.all_oneCell_toArray (JE rfl rfl rfl rfl _ _)
   rw [zS] at k3;have hra:wr.rangeAt (s+1) 0 qh:=λj v hj=>by rw [Nat.zero_add,k3.cell];simpa using hj
   have lU:(prog.info? 60).map (·.size)=some qh.length:=by rw [xQ];exact Pk
   have Ww:(prog.info? 60).map (·.size)=some qh.toArray.size:=by rw [List.size_toArray];exact lU
   have ht:wr.there s 0 qh.toArray.size:=dL k2r 0 _ (by rw [List.size_toArray,xQ];exact Nat.le_refl _);have kP:=af.puts (g:=s) (t:=60) (w:=wr) (cs:=#[]) qh 0 wr _ k2r;rw [eH (by rw [xQ];rfl)] at kP;have F9:=ag.puts (T:=λk=>k=s) rfl qh 0 wr wr (ag.refl _ _);have hC':=ae zS;clear zS xQ
   go_wp2_with (first
    | (refine wpList_load_mid rfl 60 (.tmp 3) rfl (s+1) 0 rfl qh _ hra underlying60 rfl lU ?_)
    | (refine wpList_store_mid rfl 60 (.tmp 2) (.tmp 125) rfl s 0 qh.toArray rfl rfl ht Ww Wv ?_))
   generalize World.setCells wr s 0 qh=w9 at *;have Ht:=run_loadVar_mid (P:=prog) w9 s 0 60 qh _ (λj v hj=>by rw [Nat.zero_add,kP.cell];simpa using hj) underlying60 rfl lU;refine bodyPost_ret (v:=.agg qh.toArray) ?_ rfl ?_
   ·exact wU results11 rfl Ht
   have q1r:=adz.out.yw hF (λk hk ⟨o,e⟩=>by
    have:=q4'.out k o e;show ¬(k=s+1\/NB<=k);omega)
   have NP:=F9.size;have apb:=hF.size;refine ⟨_,rfl,⟨A1,A2,A3,A4,_,lG,_,cap2,_,mI,n,c4,by rw [hC'.out],rfl,?_,rfl,?_,rfl,?_,adA.out,?_⟩,?_⟩
   ·exact (r1.yw F9 (λk hk ⟨o,e⟩ h=>by have:=g1 k o e;omega)).more NP
   ·exact RI.more (r2.yw F9 (λk hk ⟨o,e⟩ h=>by have:=g2 k o e;omega)) NP
   ·exact (r3.yw F9 (λk hk ⟨o,e⟩ h=>by have:=g3 k o e;omega)).more NP
   ·exact (q1r.yw F9 (λk hk ⟨o,e⟩ h=>by have:=q4'.out k o e;omega)).more zo
   ·rw [hs'.out]
    exact B3'.out.trans ((hF.below zo (λk hk h=>by omega)).trans (F9.below zo (λk hk h=>by omega)))
theorem Sw (base g:Nat) (xa xb:Int) (w:World) (k:af w g 85 #[zI xa,zI xb]) (hb:base<=w.heap.size) :
  Calls prog 138 #[zN,zI 0,.slice (some ⟨g,0,none⟩) 1 1] w λe w'=>∃v,e= .returned v/\w'.ownsRow base 85 2 v 1 [zI xa,zI xb]/\Below w.heap.size w w':=by
 obtain ⟨j0,hj,hy0,hy1,hy2⟩:=dW;have hrow:=World.ownsRow_nil w base 85 2;go_enter func138,ntmps138
 go_wp2_with (refine wpList_append_own _ rfl (.tmp 23) (.tmp 24) 26 rfl base 85 j0 (.agg #[zI 0,zI 0]) 2 16 underlying26 hj hy0 hy1 hy2 rfl zd _ 0 [] rfl hrow ⟨g,0,none⟩ 1 1 [zI xa,zI xb] rfl rfl (jW k) jm (by unfold maxLen;omega) zo hb ?_;intro v' w7 hown' hgrow _)
 go_ret;exact ⟨v',rfl,by simpa using hown',(Below.refl _ _).grown hgrow (Nat.le_refl _) (λj hj=>by cases hj)⟩
theorem apO (ad:Addr) (n c:Nat) (hc:c<n+1) (hn:n<=512) (ty:TypeId) (w:World) :
  (Builtin.append_ #[26,3] ty #[.slice (some ad) 0 c,zI ((n+1:Nat):Int)]).run prog w =
   .ok (.slice (some ⟨w.heap.size,0,none⟩) (n+1) (grownCap w (n+1) c 85)) (w.drew.alloc (.cells (#[]++Builtin.zeroCells #[zI 0,zI 0] (n+1)++Builtin.zeroCells #[zI 0,zI 0] (grownCap w (n+1) c 85 - (n+1))) 85)):=by
 obtain ⟨j0,hj,hy0,hy1,hy2⟩:=dW;have h:=Lib.run_append_grow_zeros (P:=prog) w 26 3 ty 85 j0 _ .i64 .i64 underlying26 underlying3 hj hy0 (some ad) 0 c [] (by
  rw [hy1];exact run_firstCells_some w.drew 2 0 ad 0 c [] rfl (λj v hv=>by cases hv)) (n+1) zo zo zo zo (by rw [hy2];omega) (by rw [hy2];exact growslice_fits_wide zo zo)
 rw [Nat.zero_add] at h;exact h
theorem AY:(prog.info? 85).map (·.size)=some 2:=zk
theorem Gx {w:World} {g:Nat} {t:TypeId} {cs cur:Array Value} (h:af w g t cur):af (w.setRow g cs) g t cs:=setRow_heap _ _ _ _ _ _ h
theorem Hz {w:World} {g k:Nat} {t:TypeId} {cs cur:Array Value} (h:af w k t cur) (hne:k≠g):af (w.setRow g cs) k t cur:=by
 show (w.setRow g cs).heap[k]? = _;rw [setRow_other _ _ _ _ hne];exact h
theorem Mw (g gx n c G q:Nat) (w W1 W2 W3:World) (hn0:0<n) (hn:n<=512) (hnc:n<=c) (hc:c<n+1) (hGn:n+1<=G) (_:G<=maxLen)
  (hap:∀ty,(Builtin.append_ #[26,3] ty #[.slice (some ⟨g,0,none⟩) 0 c,zI ((n:Int)+1)]).run prog w= .ok (.slice (some ⟨q,0,none⟩) (n+1) G) W1)
  (hcA:∀ty,(Builtin.copy_ #[26,26] ty #[.slice (some ⟨q,0,none⟩) (n+1) G,.slice (some ⟨gx,0,none⟩) 1 1]).run prog W1= .ok (goInt 1) W2)
  (hcB:∀ty,(Builtin.copy_ #[26,26] ty #[.slice (some ⟨q,2,none⟩) n (G - 1),.slice (some ⟨g,0,none⟩) n c]).run prog W2.drew= .ok (goInt n) W3) :
  Calls prog 138 #[.slice (some ⟨g,0,none⟩) n c,zI 0,.slice (some ⟨gx,0,none⟩) 1 1] w λe w'=>e= .returned (.slice (some ⟨q,0,none⟩) (n+1) G)/\w'=W3:=by
 have hcd:decide ((c:Int)<(n:Int)+1)=true:=by rw [decide_eq_true_eq];omega
 have apP:((0:Int)==(n:Int))=false:=by rw [beq_eq_false_iff_ne];omega
 have hwr:IntKind.i64.wrap ((n:Int)+1)=(n:Int)+1:=by rw [IntKind.wrap_i64];omega
 have hcB':=ae hcB;have ad5:=ae hcA;have apQ:=ae hap;clear hcA hcB hap;go_enter func138,ntmps138;go_upto_region 9 with fail
 go_upto_region 10 with (at_builtin;refine Lib.wpList_append_run _ rfl _ _ _ _ rfl _ _ rfl rfl _ _ (apQ.out _) ?_)
 go_upto_region 11 with (simp only [ad5.out,Result.andThen_ok])
 have hw1:IntKind.i64.wrap 1=1:=by rw [IntKind.wrap_i64];rfl
 have hb1:(1:Int)<=(n:Int)+1:=zo;have hG1:¬(G=1):=zo;have hc0:¬(c=0):=zo;have mixed:prog.follows Departure.mixedOrders=true:=zk
 go_region_law_o (refine yA rfl _ _ 26 26 rfl (.slice (some ⟨q,2,none⟩) n (G - 1)) (.slice (some ⟨g,0,none⟩) n c) (by simp [Act.eval,Act.put]) (by simp [Act.eval,Act.put]) (hcB'.out _) ?_)
 go_wp2_with fail;go_ret;exact ⟨rfl,rfl⟩
theorem aju {P:Prop} (h:P:=by
 rw [List.toList_toArray];unfold vH;rw [List.take_append_of_le_length (by simp only [List.length_cons,hlc];omega),List.take_of_length_le (by simp only [List.length_cons,hlc];omega)]):P:=h
theorem PH (base g gx n c:Nat) (xa xb:Int) (L:List Sp) (w:World) (hL:L.length=n) (hn0:0<n) (hn:n<=512) (hc:c<n+1) (hrow:w.ownsRow base 85 2 (.slice (some ⟨g,0,none⟩) n c) n (ax L)) (k:af w gx 85 #[zI xa,zI xb]) (hb:base<=w.heap.size) :
  Calls prog 138 #[.slice (some ⟨g,0,none⟩) n c,zI 0,.slice (some ⟨gx,0,none⟩) 1 1] w λe w'=>∃v,e= .returned v/\w'.ownsRow base 85 2 v (n+1) (zI xa :: zI xb::ax L)/\ag (λk=>k=g) w w':=by
 obtain ⟨G,hG⟩:=ah (grownCap w (n+1) c 85);have hGn:=grownCap_ge w (n+1) c 85;have hGm:=grownCap_le_maxLen w (n+1) c 85 (by unfold maxLen;omega);rw [hG] at hGn hGm;obtain ⟨q,hq⟩:=ah (w.heap.size);obtain ⟨hgq,hnc⟩:g<q/\n<=c:=by
  rcases hrow.2 with ⟨h,_⟩|⟨g',cap,cur,h,_,hk,h3,_⟩
  ·cases h
  ·cases h;rw [<-hq];exact ⟨af.lt hk,h3⟩
 have hxq:gx<q:=by rw [<-hq];exact k.lt
 have hlc:(ax L).length=n*2:=by rw [dN,hL]
 obtain ⟨ROW,hROW⟩:∃ROW:Array Value,#[]++Builtin.zeroCells #[zI 0,zI 0] (n+1)++Builtin.zeroCells #[zI 0,zI 0] (G - (n+1))=ROW:=⟨_,rfl⟩;have hRs:ROW.size=G*2:=by rw [<-hROW];simp [Builtin.zeroCells];omega
 obtain ⟨W1,hW1⟩:=ah (w.drew.alloc (.cells ROW 85));have hap:∀ty,(Builtin.append_ #[26,3] ty #[.slice (some ⟨g,0,none⟩) 0 c,zI ((n:Int)+1)]).run prog w= .ok (.slice (some ⟨q,0,none⟩) (n+1) G) W1:=λty=>by
  have h:=apO ⟨g,0,none⟩ n c hc hn ty w;rw [hG,hROW,hW1,hq] at h;rw [show ((n:Int)+1)=((n+1:Nat):Int) by omega];exact h
 have k1:af W1 q 85 ROW:=by rw [<-hW1,<-hq];exact af.new w.drew _ _
 have hF1:ag (λ_=>False) w W1:=by rw [<-hW1];exact (ag.refl _ w).drew.alloc _
 have mE:=hF1.blk k (λh=>h);obtain ⟨W2,hW2⟩:=ah (W1.setRow q (ROW.toList.take 0++[zI xa,zI xb]++ROW.toList.drop (0+[zI xa,zI xb].length)).toArray);have hcA:∀ty,(Builtin.copy_ #[26,26] ty #[.slice (some ⟨q,0,none⟩) (n+1) G,.slice (some ⟨gx,0,none⟩) 1 1]).run prog W1= .ok (goInt 1) W2:=λty=>by
  rw [<-hW2];exact oZ W1 _ _ ty 85 2 q 0 (n+1) G ⟨gx,0,none⟩ 1 1 1 ROW _ [zI xa,zI xb] underlying26 AY k1 (by simp only [Nat.min_def];split <;> omega) rfl (jW mE) (by simp;omega) jm
 have hR0:ROW.toList.length=G*2:=by simpa using hRs
 have k2:af W2 q 85 (qF ROW.toList (zI xa) (zI xb)).toArray:=by rw [<-hW2];exact Gx k1
 have hF2:ag (λk=>q<=k) w W2:=by
  rw [<-hW2];exact (hF1.mono (λ_ _ h=>h.elim)).trans' (T':=λk=>k=q) ⟨rfl,rfl,rfl,by simp [World.setRow],λ_ _ hT=>setRow_other _ _ _ _ hT⟩ (λi hi e=>by omega)
 have hsrc:∀(j:Nat) (v:Value),(ax L)[j]? = some v->W2.drew.cell? (Addr.add ⟨g,0,none⟩ j)=some v:=λj v hj=>by
  have h0:=hrow.cells (g:=g) rfl j v hj;rw [dM] at h0 ⊢;exact (hF2.drew).cell h0 (by show ¬q<=g;omega)
 have hBl:(qF ROW.toList (zI xa) (zI xb)).length=G*2:=by unfold qF;simp;omega
 obtain ⟨W3,hW3⟩:=ah (W2.drew.setRow q ((qF ROW.toList (zI xa) (zI xb)).toArray.toList.take 2++ax L++(qF ROW.toList (zI xa) (zI xb)).toArray.toList.drop (2+(ax L).length)).toArray);have hcB:∀ty,(Builtin.copy_ #[26,26] ty #[.slice (some ⟨q,2,none⟩) n (G - 1),.slice (some ⟨g,0,none⟩) n c]).run prog W2.drew= .ok (goInt n) W3:=λty=>by
  rw [<-hW3];exact oZ W2.drew _ _ ty 85 2 q 2 n (G - 1) ⟨g,0,none⟩ n c n _ _ (ax L) underlying26 AY k2.drew (by simp only [Nat.min_def];split <;> omega) hlc hsrc (by rw [hlc,List.size_toArray,hBl];omega) (BP L)
 have hown:W3.ownsRow base 85 2 (.slice (some ⟨q,0,none⟩) (n+1) G) (n+1) (zI xa :: zI xb::ax L):=by
  rw [<-hW3,List.toList_toArray,PE];refine Gw k2.drew zo hGn hGm (by rw [List.size_toArray,Gv _ _ _ _ (by rw [hlc,hR0];omega),hR0]) (by simp only [List.length_cons,hlc];omega) ?_;exact aju
 have oQ:ag (λk=>k=g) w W3:=by
  rw [<-hW3];exact ((hF2.drew).mono (λi hi h=>by omega)).trans' (T':=λk=>k=q) ⟨rfl,rfl,rfl,by simp [World.setRow],λ_ _ hT=>setRow_other _ _ _ _ hT⟩ (λi hi e=>by omega)
 refine (Mw g gx n c G q w W1 W2 W3 hn0 hn hnc hc hGn hGm hap hcA hcB).mono ?_;rintro e w' ⟨rfl,rfl⟩;exact ⟨_,rfl,hown,oQ⟩
theorem PI (w:World) (a b:Addr) (la ca lb cb:Nat) (hne:a.block≠b.block) (tA tB:TypeId) (kA kB:Nat) (hsa:w.shape? a.block=some (tA,kA)) (hsb:w.shape? b.block=some (tB,kB)) (hkB:kB≠0) (hfa:w.frozen? a=false) (hfe:w.frozen? { block:=a.block,off:=kA }=false) :
  (callFunc 176 #[.slice (some a) la ca,.slice (some b) lb cb]).run prog w= .ok (.value (.bool false)) w:=by
 have hz:∀w,(Go.sizeOf 85).run prog w= .ok 2 w:=λw=>by
  obtain ⟨j0,hj,hy0,hy1,hy2⟩:=dW;simp [sizeOf,typeInfo,hj,hy1]
 rw [run_callFunc_extern func176 zk zk zk (e:=Extern.SlicesOverlaps.overlaps #[26,26] #[4]) zk,
  Lib.run_overlaps_apart w 26 4 85 underlying26 2 hz a b la ca lb cb hne tA tB kA kB hsa hsb hkB hfa hfe]
 rfl
theorem Mx (g gx n c:Nat) (w W2 W3:World) (hn0:0<n) (hn:n<=512) (hc:n+1<=c) (hcm:c<=maxLen)
  (hov:(callFunc 176 #[.slice (some ⟨gx,0,none⟩) 1 1,.slice (some ⟨g,2,none⟩) n (c - 1)]).run prog w= .ok (.value (.bool false)) w)
  (hcA:∀ty,(Builtin.copy_ #[26,26] ty #[.slice (some ⟨g,2,none⟩) n (c - 1),.slice (some ⟨g,0,none⟩) (n+1) c]).run prog w.drew= .ok (goInt n) W2)
  (hcB:∀ty,(Builtin.copy_ #[26,26] ty #[.slice (some ⟨g,0,none⟩) (n+1) c,.slice (some ⟨gx,0,none⟩) 1 1]).run prog W2= .ok (goInt 1) W3) :
  Calls prog 138 #[.slice (some ⟨g,0,none⟩) n c,zI 0,.slice (some ⟨gx,0,none⟩) 1 1] w λe w'=>e= .returned (.slice (some ⟨g,0,none⟩) (n+1) c)/\w'=W3:=by
 have hcd:decide ((c:Int)<(n:Int)+1)=false:=by rw [decide_eq_false_iff_not];omega
 have apP:((0:Int)==(n:Int))=false:=by rw [beq_eq_false_iff_ne];omega
 have hwr:IntKind.i64.wrap ((n:Int)+1)=(n:Int)+1:=by rw [IntKind.wrap_i64];omega
 have hw1:IntKind.i64.wrap 1=1:=by rw [IntKind.wrap_i64];rfl
 have hb1:(1:Int)<=(n:Int)+1:=zo;have hb0:(0:Int)<=(n:Int)+1:=zo;have hG1:¬(c=1):=zo;have hc0:¬(c=0):=zo;have axe:(n:Int)+1<=(c:Int):=zo;have hcB':=ae hcB;have ad5:=ae hcA;have apR:=ae hov;have hc63:c<=9223372036854775807:=by unfold maxLen at hcm;omega
 have mixed:prog.follows Departure.mixedOrders=true:=zk;clear hcA hcB hov hcm;go_enter func138,ntmps138;go_upto_region 14 with fail
 go_upto_region 15 with (simp only [apR.out])
 go_region_law_o (refine yA rfl _ _ 26 26 rfl (.slice (some ⟨g,2,none⟩) n (c - 1)) (.slice (some ⟨g,0,none⟩) (n+1) c) (by simp [Act.eval,Act.put]) (by simp [Act.eval,Act.put]) (ad5.out _) ?_)
 go_wp2_with (simp only [hcB'.out,Result.andThen_ok])
 go_ret;exact ⟨rfl,rfl⟩
theorem PK (base g gx n c:Nat) (xa xb:Int) (L:List Sp) (w:World) (hL:L.length=n) (hn0:0<n) (hn:n<=512) (hc:n+1<=c) (hrow:w.ownsRow base 85 2 (.slice (some ⟨g,0,none⟩) n c) n (ax L)) (k:af w gx 85 #[zI xa,zI xb]) (hne:gx≠g) :
  Calls prog 138 #[.slice (some ⟨g,0,none⟩) n c,zI 0,.slice (some ⟨gx,0,none⟩) 1 1] w λe w'=>∃v,e= .returned v/\w'.ownsRow base 85 2 v (n+1) (zI xa :: zI xb::ax L)/\ag (λk=>k=g) w w':=by
 obtain ⟨cur,hbg,hk,hcm,hcs,htk⟩:∃cur:Array Value,base<=g/\af w g 85 cur/\c<=maxLen/\cur.size=c*2/\cur.toList.take (n*2)=ax L:=by
  rcases hrow.2 with ⟨h,_⟩|⟨g',cap,cur,h,h1,h2,h3,h4,h5,h6⟩
  ·cases h
  ·cases h;exact ⟨cur,h1,h2,h4,h5,h6⟩
 have hlc:(ax L).length=n*2:=by rw [dN,hL]
 have hR0:cur.toList.length=c*2:=by simpa using hcs
 have hov:(callFunc 176 #[.slice (some ⟨gx,0,none⟩) 1 1,.slice (some ⟨g,2,none⟩) n (c - 1)]).run prog w= .ok (.value (.bool false)) w :=
  PI w _ _ _ _ _ _ hne 85 85 2 (c*2) (by
   have:w.heap[gx]? = _:=k;simp [World.shape?,this]) (by
   have:w.heap[g]? = _:=hk;simp [World.shape?,this,hcs]) zo (k.frozen 0) (k.frozen 2)
 obtain ⟨W2,hW2⟩:=ah (w.drew.setRow g (cur.toList.take 2++ax L++cur.toList.drop (2+(ax L).length)).toArray);have hsrc:∀(j:Nat) (v:Value),(ax L)[j]? = some v->w.drew.cell? (Addr.add ⟨g,0,none⟩ j)=some v:=λj v hj=>hrow.cells (g:=g) rfl j v hj
 have hcA:∀ty,(Builtin.copy_ #[26,26] ty #[.slice (some ⟨g,2,none⟩) n (c - 1),.slice (some ⟨g,0,none⟩) (n+1) c]).run prog w.drew= .ok (goInt n) W2:=λty=>by
  rw [<-hW2];exact oZ w.drew _ _ ty 85 2 g 2 n (c - 1) ⟨g,0,none⟩ (n+1) c n cur _ (ax L) underlying26 AY hk.drew (by simp only [Nat.min_def];split <;> omega) hlc hsrc zo (BP L)
 have k2:af W2 g 85 (cur.toList.take 2++ax L++cur.toList.drop (2+(ax L).length)).toArray:=by rw [<-hW2];exact Gx hk.drew
 have gY:af W2 gx 85 #[zI xa,zI xb]:=by rw [<-hW2];exact Hz k.drew hne
 have hF2:ag (λk=>k=g) w W2:=by
  rw [<-hW2];exact (ag.refl _ w).drew.trans' (T':=λk=>k=g) ⟨rfl,rfl,rfl,by simp [World.setRow],λ_ _ hT=>setRow_other _ _ _ _ hT⟩ (λi hi e=>by omega)
 obtain ⟨ROW,hROW⟩:=ah (cur.toList.take 2++ax L++cur.toList.drop (2+(ax L).length));have hRl:ROW.length=c*2:=by rw [<-hROW];simp only [List.length_append,List.length_take,List.length_drop,hlc,hR0];omega
 rw [hROW] at k2;obtain ⟨W3,hW3⟩:=ah (W2.setRow g (ROW.toArray.toList.take 0++[zI xa,zI xb]++ROW.toArray.toList.drop (0+[zI xa,zI xb].length)).toArray);have hcB:∀ty,(Builtin.copy_ #[26,26] ty #[.slice (some ⟨g,0,none⟩) (n+1) c,.slice (some ⟨gx,0,none⟩) 1 1]).run prog W2= .ok (goInt 1) W3:=λty=>by
  rw [<-hW3];exact oZ W2 _ _ ty 85 2 g 0 (n+1) c ⟨gx,0,none⟩ 1 1 1 _ _ [zI xa,zI xb] underlying26 AY k2 (by simp only [Nat.min_def];split <;> omega) rfl (jW gY) (by simp;omega) jm
 have hown:W3.ownsRow base 85 2 (.slice (some ⟨g,0,none⟩) (n+1) c) (n+1) (zI xa :: zI xb::ax L):=by
  have he:ROW.toArray.toList.take 0++[zI xa,zI xb]++ROW.toArray.toList.drop (0+[zI xa,zI xb].length)=vH cur.toList (ax L) (zI xa) (zI xb):=by
   rw [List.toList_toArray,<-hROW];exact PG _ _ _ _ (by rw [hR0];omega)
  rw [<-hW3,he];refine Gw k2 hbg hc hcm (by rw [List.size_toArray,Gv _ _ _ _ (by rw [hlc,hR0];omega),hR0]) (by simp only [List.length_cons,hlc];omega) ?_;exact aju
 have oQ:ag (λk=>k=g) w W3:=by
  rw [<-hW3];exact hF2.trans' (T':=λk=>k=g) ⟨rfl,rfl,rfl,by simp [World.setRow],λ_ _ hT=>setRow_other _ _ _ _ hT⟩ (λi hi e=>by omega)
 refine (Mx g gx n c w W2 W3 hn0 hn hc hcm hov hcA hcB).mono ?_;rintro e w' ⟨rfl,rfl⟩;exact ⟨_,rfl,hown,oQ⟩
theorem ad6 {P:Prop} (h:P:=by
 rintro e w' ⟨v,rfl,q1,q2⟩;exact ⟨v,rfl,q1,q2.mono (λk _ e=>by rw [hf,e])⟩):P:=h
theorem ad7 (base gx:Nat) (xa xb:Int) (L:List Sp) (v3:Value) (w:World) (hL:L.length<=512) (hn:L=[]->v3 = zN) (hrow:w.ownsRow base 85 2 v3 L.length (ax L)) (k:af w gx 85 #[zI xa,zI xb]) (hne:v3.ownBlock≠some gx) (hb:base<=w.heap.size) :
  Calls prog 138 #[v3,zI 0,.slice (some ⟨gx,0,none⟩) 1 1] w λe w'=>∃v,e= .returned v/\w'.ownsRow base 85 2 v (L.length+1) (ax ((xa,xb)::L))/\ag (λk=>v3.ownBlock=some k) w w':=by
 by_cases h0:L=[]
 ·subst h0
  rw [hn rfl];refine (Sw base gx xa xb w k hb).mono ?_;rintro e w' ⟨v,rfl,h1,h2⟩;exact ⟨v,rfl,h1,(ag.of_below h2)⟩
 ·have hl0:0<L.length:=List.length_pos_iff.2 h0
  rcases hrow.2 with ⟨_,h⟩|⟨g,c,cur,rfl,h1,h2,h3,h4,h5,h6⟩
  ·omega
  ·have hf:(Value.slice (some ⟨g,0,none⟩) L.length c).ownBlock=some g:=rfl
   by_cases hc:c<L.length+1
   ·refine (PH base g gx L.length c xa xb L w rfl hl0 hL hc hrow k hb).mono ?_
    exact ad6
   ·refine (PK base g gx L.length c xa xb L w rfl hl0 hL zo hrow k (λe=>hne (by rw [hf,e]))).mono ?_
    exact ad6
theorem JV (b p0 p1 p2 p3 base:Nat) (er xa xb:Int) (V:Vm) (v3:Value) (L:List Sp) (w:World) (hV:aA w b V) (he:er≠0) (k0:af w p0 37 #[zI er]) (k1:af w p1 42 #[zP b]) (k2:af w p2 85 #[zI xa,zI xb])
  (k3:af w p3 26 #[v3]) (hL:L.length<=512) (hn:L=[]->v3 = zN) (hrow:w.ownsRow base 85 2 v3 L.length (ax L)) (hb:base<=w.heap.size) (hp3:p3<base) (hbb:b<base) (h23:p2≠b) (hpb:p3≠b)
  (h0:(bK V xa xb 4 3 1).1≠0) :
  CallsD prog 137 #[zP p0,zP p1,zP p2,zP p3] .returning w λe u' w'=>u'= .returning/\((∃v,e= .returned v) /\
   ∃v',af w' p3 26 #[v']/\w'.ownsRow base 85 2 v' (L.length+1) (ax ((xa,xb)::L))/\aA w' b (bK V xa xb 4 3 1).2/\ag (λk=>k=b\/k=p3\/base<=k) w w'):=by
 obtain ⟨c0,c1,c2⟩:=mM k0 k1 k2;have he':(er != 0)=true:=by simpa using he
 have HD:=ae (sH b xa xb V w hV);generalize bK V xa xb 4 3 1=J at *;obtain ⟨je,jV⟩:=J;have h0':(je != 0)=true:=by simpa using h0
 simp only at HD;clear he hV h0
 go_enter_d func137,ntmps137
 go_wp2_with fail;refine HD.out.zr ?_;rintro w1 ⟨hS,hF⟩;have mQ:=hF.blk k3 hpb;have k21:=hF.blk k2 h23;have NW:=aN hrow hF (λg hg h=>by have:=(hrow.lt g hg).1;omega);have hs1:=hF.size;obtain ⟨d2,d3⟩:=bB k21 mQ;have f3:=mQ.frozen;have kq:=af.new w1 85 #[zI xa,zI xb];have hbq:Below w1.heap.size w1 (w1.alloc (.cells #[zI xa,zI xb] 85)):=(Below.refl _ _).alloc (Nat.le_refl _) _;have Y3:=aI NW hbq;have hneq:v3.ownBlock≠some w1.heap.size:=λe=>by have:=(NW.lt _ e).2;omega
 have HI:=ae (ad7 base w1.heap.size xa xb L v3 _ hL hn Y3 kq hneq (by have:=hbq.size;omega));have hS':=ae (hS.call hbq);have hF':=ae (hF.trans (ag.of_below hbq));have k3q:=ae (mQ.call hbq);have hlt:=ae (λg (e:v3.ownBlock=some g)=>Y3.lt g e);have hrq:=ae Y3;clear HD hS hrow c0 c1 c2 k0 k1 k2 k3 NW hF mQ k21 Y3 hbq kq hneq;go_wp2_with fail;refine HI.out.mono ?_;rintro e w3 ⟨v',rfl,Ny,oQ⟩;obtain ⟨A5,cap5,rfl,_⟩:=lQ Ny rfl;have ny:=oQ.blk k3q.out (λe=>by have:=(hlt.out _ e).1;omega);have hS3:=ae (hS'.out.far oQ (λe=>by have:=(hlt.out _ e).1;omega) (λ_ _ _ _ _ _ g _ _ _ hc hg=>hc.elim λcr hcr=>dJ hrq.out hg hcr zd));have f3:=ny.frozen;have c3:=ny.cell;have ad8:=ae Ny;have hFF:ag (λk=>k=b\/k=p3\/base<=k) w w3:=(hF'.out.mono (λk _ e=>.inl e)).trans (oQ.mono (λk _ e=>.inr (.inr (hlt.out k e).1)));have apU:=ae hFF;have Bl:=ae ny;clear HI d2 d3 f3 ny Ny hFF oQ hS' hF' k3q hlt hrq;have f3:=Bl.out.frozen;go_wp2_with fail;have k4:=Bl.out.aM 0 (.slice A5 (L.length+1) cap5);have F4:ag (λk=>k=p3) w3 (w3.setCell ⟨p3,0,none⟩ (.slice A5 (L.length+1) cap5)):=ag.setCell (T:=λk=>k=p3) (p:=⟨p3,0,none⟩) (ag.refl _ _) (λ_=>rfl) _;have D7:=aN ad8.out F4 (λg hg h=>by have:=(ad8.out.lt g hg).1;omega);exact ⟨rfl,_,by simp [results,results137,go_sem];rfl,⟨_,rfl⟩,_,k4,D7,hS3.out.far F4 (λe=>hpb e.symm) (λ_ _ _ _ _ _ g _ _ _ hc e=>hc.elim λcr hcr=>af.vN hcr Bl.out zd e),apU.out.trans (F4.mono (λk _ e=>.inr (.inl e)))⟩
theorem BQ (B b:Nat) (a n:Int) (V:Vm) (w:World) (hV:bn w B b V) :
  Calls prog 101 #[zP b,zI a,zI n] w λe w'=>e= .returned (zI (bK V a n 1 1 0).1)/\eF B b (bK V a n 1 1 0).2 w w':=by
 have HC:=ae (oD B b a n 1 0 1 V w hV zd);clear hV;generalize bK V a n 1 1 0=R at *;go_enter func101,ntmps101;exact Px
theorem ajv {P:Prop} (h:P:=by
 go_enter func126,ntmps126;go_wp2_with fail;refine HC.out.zr ?_;rintro w1 ⟨h1,h2⟩;go_wp2_with fail;go_ret;exact ⟨rfl,h1,h2⟩):P:=h
theorem Sy (B b:Nat) (a n:Int) (V:Vm) (w:World) (hV:bn w B b V) :
  Calls prog 126 #[zP b,zI a,zI n,.bool true] w λe w'=>e= .returned (zI (bK V a n 4 1 3).1)/\eF B b (bK V a n 4 1 3).2 w w':=by
 have HC:=ae (oD B b a n 1 3 4 V w hV zd);clear hV;generalize bK V a n 4 1 3=R at *;exact ajv
end Go.Proofs.YtlgcpjhimomiaaaGreat
