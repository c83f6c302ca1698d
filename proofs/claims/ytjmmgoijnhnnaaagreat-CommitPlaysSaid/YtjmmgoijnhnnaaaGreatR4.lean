/- Walks of layer 6: make, and the calls that make a change of pages of one kind. -/
import Derived.Sort.CutIn
import Derived.DeepKeys
import Derived.Great.BuildSlice
import Derived.Shelf.SlSortCmp.WholeK
import Derived.Ground.SlsfProg
import Derived.Shelf.Spec.SlicesGrow
import Derived.Ground.Names8Prog
import Derived.Test.YtjmmgoijnhnnaaaGreatProg
import Derived.Sort.OwnSortedInts
import Derived.Laws.AppendOwnNone
import Derived.Deep.MidRow
import Derived.Deep.CutRange
import Derived.OwnWalk
import Derived.Laws.CopyRow
import Derived.Lib.AppendZerosOnto
import Derived.Deep.DeepAppendWide
import Derived.Lib.Overlaps
import Derived.Shelf.RegionOpenPlain
import Derived.Laws.Externs
import Derived.Test.YtjmmgoijnhnnaaaGreatR3
set_option maxRecDepth 100000
set_option maxHeartbeats 12800000
namespace Go.Pol
open Go Go.RowKit Go.Proofs.Tryz
def gT (V:Vm) (a n:Int) (call:Nat) (pr:Pg→Bool) (fd:Pg→Pg):Int×Vm :=
 if n<1∨a<0∨1024≤a∨1024 - a<n then (7,V) else if qN V a.toNat n.toNat pr=false then (9,V) else if qO V.rf call=true then (60,V.ref call) else (0,(V.ref call).gH a.toNat n.toNat fd)
def dw (b:Nat) (V:Vm) (w w':World):Prop:=aD w' b V∧af (fun k=>k=b) w w'
def bJ (V:Vm) (a n:Int) (call:Nat) (fr tk:Int):Int×Vm:=gT V a n call (fun g=>g.kind==fr&&!g.dz) (fun _=>iB tk)
def st0:Nat→List Value→Option (List Value)
 | 0,l=>some l
 | n+1,.int .u8 z::r=>if z=0 then st0 n r else none
 | _+1,_=>none
def st1:List Value→Option (List Value)
 | .int .i64 k :: .bool false::r=>if k=0 then st0 64 r else none
 | _=>none
def VH:Nat→List Value→Option (List Value)
 | 0,l=>st1 l
 | d+1,l=>match VH d l with
  | some r=>VH d r
  | none=>none
theorem Kv:∀(n:Nat) (l r:List Value),st0 n l=some r→l=List.replicate n (.int .u8 0)++r
 | 0,l,r,h=>by cases h;rfl
 | n+1,l,r,h=>by
  unfold st0 at h;split at h
  ·omega
  ·rename_i m z r' e
   obtain rfl:m=n:=by omega
   by_cases hz:z=0
   ·rw [if_pos hz] at h
    rw [hz,Kv m r' r h,List.replicate_succ];rfl
   ·rw [if_neg hz] at h;cases h
  ·cases h
theorem VI {l r:List Value} (h:st1 l=some r):l=uS (iB 0)++r:=by
 unfold st1 at h;split at h
 ·rename_i k r'
  by_cases hk:k=0
  ·rw [if_pos hk] at h
   rw [hk,Kv 64 r' r h];rfl
  ·rw [if_neg hk] at h;cases h
 ·cases h
theorem Dn:∀(d:Nat) (l r:List Value),VH d l=some r→l=fl uS (List.replicate (2 ^ d) (iB 0))++r
 | 0,l,r,h=>by
  rw [VH] at h;rw [VI h];simp [fl]
 | d+1,l,r,h=>by
  rw [VH] at h;split at h
  ·rename_i r' h'
   have h1:=Dn d l r' h';have h2:=Dn d r' r h;rw [h1,h2,←List.append_assoc,←jd,List.replicate_append_replicate,show 2 ^ d+2 ^ d=2 ^ (d+1) by rw [Nat.pow_succ];omega]
  ·cases h
def stS:List Value→Option (List Value)
 | .bool false::r=>VH 10 r
 | _=>none
def lg:Vm:=⟨fun _=>iB 0,⟨[],fun _=>0,fun _=>0⟩⟩
theorem Uk {zc:Array Value} (h:stS zc.toList=some (aM (.slice none 0 0) (fun _=>0) (fun _=>0))) (v:Value):jX (jr (jr zc 0 [.bool true]) 67585 (aM v (fun _=>0) (fun _=>0))) v lg:=by
 unfold stS at h;split at h
 ·rename_i r hr
  have h1:=Dn 10 r _ h;have hl:=lT Gg (List.replicate (2 ^ 10) (iB 0));rw [List.length_replicate] at hl;have hlen:zc.size=67600:=by
   rw [←Array.length_toList,hr,h1,List.length_cons,List.length_append,hl];rfl
  have xS:∀p,p<1024→∀i,i<66→zc[1+p*66+i]? = (uS (iB 0))[i]? := fun p hp i hi=>by
   rw [←Array.getElem?_toList,hr,h1,show 1+p*66+i=(p*66+i)+1 by omega,List.getElem?_cons_succ,List.getElem?_append_left (by rw [hl];omega),yj Gg (iB 0) _ p (by rw [List.length_replicate];omega) i hi];congr 2;rw [List.getD_eq_getElem?_getD,List.getElem?_replicate,if_pos (by omega)];rfl
  generalize hL:aM v (fun _=>0) (fun _=>0)=L at *;have hLl:L.length=15:=by rw [←hL];rfl
  have hs1:(jr zc 0 [.bool true]).size=67600:=by rw [lJ];exact hlen
  have hg:=lU L (jr zc 0 [.bool true]) 67585 (by rw [hLl];omega);have hg0:=lU [.bool true] zc 0 (by simp;omega);refine ⟨by rw [lJ];exact hs1,?_,fun p hp i hi=>?_,fun i hi=>?_⟩
  ·rw [hg,if_neg (by omega),hg0,if_pos (by simp)];rfl
  ·rw [hg,if_neg (by omega),hg0,if_neg (by simp only [List.length_cons,List.length_nil];omega)]
   exact xS p hp i hi
  ·rw [hg,if_pos (by omega),show 67585+i - 67585=i by omega,←hL];rfl
 ·cases h
def aha (w:World) (e:Ending) (w':World):Prop:=∃b,e= .returned (.tuple #[.pointer (some ⟨b,0,none⟩),.int .i64 0])∧aD w' b lg∧w.heap.size≤b∧Below w.heap.size w w'
def LK (l:List Ru):Rf:=⟨l,fun _=>0,fun _=>0⟩
def uU (V:Vm) (l:List Ru):Vm:=if (ic l).2=0 then { V with rf:=LK l } else V
def aQ (V:Vm):Prop:=∀p,p<1024→0≤(V.pg p).kind∧(V.pg p).kind≤3
def lD (p:Int):Bool:=decide (0≤p)&&decide (p<1024)&&decide (p % 16=0)
def Pg.jh (g:Pg) (h:Bool):Pg:={ g with dz:=h }
def eO (V:Vm) (p:Int):Int×Vm:=if lD p=false then (7,V) else if (V.pg p.toNat).dz=true then (8,V) else gT V p 16 5 (fun g=>g.kind==2) (fun g=>g.jh true)
def lF (V:Vm) (p:Int):Int×Vm:=if lD p=false then (7,V) else gT V p 16 6 (fun g=>g.dz) (fun g=>g.jh false)
structure uW (cs:Array Value) (n:Nat):Prop where
 size:cs.size=n
 at_:∀j,j<n→∃z:Int,cs[j]? = some (.int .i64 z)
theorem uW.set {cs:Array Value} {n:Nat} (h:uW cs n) (i:Nat) (z:Int):uW (cs.setIfInBounds i (.int .i64 z)) n:=by
 refine ⟨by simp [h.size],fun j hj=>?_⟩;rw [Array.getElem?_setIfInBounds];by_cases e:i=j
 ·rw [if_pos e,if_pos (by rw [h.size];omega)]
  exact ⟨z,rfl⟩
 ·rw [if_neg e]
  exact h.at_ j hj
theorem uW.one {cs:Array Value} {n:Nat} (h:uW cs n):∀x∈cs.toList,x.oneCell'=true:=by
 intro x hx;obtain ⟨i,hi,rfl⟩:=List.mem_iff_getElem.1 hx;obtain ⟨z,hz⟩:=h.at_ i (by rw [←h.size];simpa using hi);rw [Array.getElem?_eq_getElem (by simpa using hi)] at hz;simp only [Option.some.injEq] at hz;rw [Array.getElem_toList,hz];rfl
theorem aQ.gH {V:Vm} (h:aQ V) (a n:Nat) {f:Pg→Pg} (hf:∀g:Pg,(0≤g.kind∧g.kind≤3)→0≤(f g).kind∧(f g).kind≤3):aQ (V.gH a n f):=fun q hq=>by
 show 0≤(if a≤q∧q<a+n then f (V.pg q) else V.pg q).kind∧(if a≤q∧q<a+n then f (V.pg q) else V.pg q).kind≤3;split
 ·exact hf _ (h q hq)
 ·exact h q hq
theorem Vm.aa0 (V:Vm) (call:Nat):(V.ref call).pg=V.pg:=by
 unfold Vm.ref
 repeat (first|rfl|split)
theorem aQ.ref {V:Vm} (h:aQ V) (call:Nat):aQ (V.ref call):=fun q hq=>by rw [Vm.aa0];exact h q hq
theorem aQ.gT {V:Vm} (h:aQ V) (a n:Int) (call:Nat) (pr:Pg→Bool) {f:Pg→Pg} (hf:∀g:Pg,(0≤g.kind∧g.kind≤3)→0≤(f g).kind∧(f g).kind≤3):aQ (gT V a n call pr f).2:=by
 unfold Go.Pol.gT;split
 ·exact h
 ·split
  ·exact h
  ·split
   ·exact h.ref call
   ·exact (h.ref call).gH _ _ hf
theorem aQ.bJ {V:Vm} (h:aQ V) (a n:Int) (call:Nat) (fr:Int) {tk:Int} (hk:0≤tk∧tk≤3):aQ (bJ V a n call fr tk).2:=h.gT _ _ _ _ (fun _ _=>hk)
theorem rz {α:Type} (d:α) (l:List α) {k:Nat} (hk:k<l.length):l.take (k+1)=l.take k++[l.getD k d]:=by
 rw [List.take_succ_eq_append_getElem hk,List.getD_eq_getElem?_getD,List.getElem?_eq_getElem hk];rfl
structure uE (cs:Array Value) (v:Value) (V:Vm):Prop where
 size:cs.size=66639
 kind:∀p,p<1024→cs[p]? = some (.int .i64 (V.pg p).kind)
 dz:∀p,p<1024→cs[1024+p / 16]? = some (.bool (V.pg p).dz)
 iJ:∀p,p<1024→∀k,k<64→cs[1088+p*64+k]? = some (.int .u8 ((V.pg p).iJ k))
 rf:∀i,i<15→cs[66624+i]? = (aM v V.rf.calls V.rf.hits)[i]?
structure bq (w:World) (B b:Nat) (V:Vm):Prop where
 ex:∃(cs:Array Value) (A:Option Addr) (n cap:Nat),ag w b 189 cs∧uE cs (.slice A n cap) V∧(V.rf.rules.length=n∧(A=none→cap=0))∧Rd w B A (fl iN V.rf.rules)∧B≤b∧uC V.rf
theorem bq.lt {w:World} {B b:Nat} {V:Vm} (h:bq w B b V):b<w.heap.size:=by
 obtain ⟨cs,A,n,cap,hk,_⟩:=h.ex;exact hk.lt
theorem bq.base {w:World} {B b:Nat} {V:Vm} (h:bq w B b V):B≤b:=by
 obtain ⟨cs,A,n,cap,_,_,_,_,h,_⟩:=h.ex;exact h
theorem Rd.uX {T:Nat→Prop} {w w':World} {B:Nat} {A:Option Addr} {xs:List Value} (h:Rd w B A xs) (hF:af T w w') (hT:∀k,T k→B≤k):Rd w' B A xs:=fun k hk=>by
 obtain ⟨b,o,e,hb,hc⟩:=h k hk;exact ⟨b,o,e,hb,hF.cell hc (fun ht=>by have:=hT _ ht;simp only at this;omega)⟩
theorem bq.far {w w':World} {B b:Nat} {V:Vm} {T:Nat→Prop} (h:bq w B b V) (hF:af T w w') (hT:∀k,T k→B≤k∧k≠b):bq w' B b V:=by
 obtain ⟨cs,A,n,cap,h1,h2,h3,h4,h5,h6⟩:=h.ex;exact ⟨cs,A,n,cap,hF.blk h1 (fun ht=>(hT _ ht).2 rfl),h2,h3,h4.uX hF (fun k hk=>(hT k hk).1),h5,h6⟩
theorem bq.call {w w':World} {B b:Nat} {V:Vm} (h:bq w B b V) (hb:Below w.heap.size w w'):bq w' B b V :=
 h.far (T:=fun _=>False) (af.of_below hb) (fun _ h=>h.elim)
theorem uE.put {cs:Array Value} {v:Value} {V:Vm} (h:uE cs v V) {p:Nat} (hp:p<1024) (hh:(V.pg p).dz=false) (tk:Int) :
  uE (jr (cs.setIfInBounds p (.int .i64 tk)) (1088+p*64) (List.replicate 64 (.int .u8 0))) v (V.iY p (iB tk)):=by
 have hs:=h.size;have hl:(List.replicate 64 (Value.int .u8 0)).length=64:=by simp
 have hg:=lU (List.replicate 64 (Value.int .u8 0)) (cs.setIfInBounds p (.int .i64 tk)) (1088+p*64) (by rw [hl,Array.size_setIfInBounds];omega);have hg2:∀i,(cs.setIfInBounds p (.int .i64 tk))[i]? = if p=i then some (.int .i64 tk) else cs[i]? := fun i=>by
  rw [Array.getElem?_setIfInBounds];by_cases e:p=i
  ·subst e;rw [if_pos rfl,if_pos rfl,if_pos (by omega)]
  ·rw [if_neg e,if_neg e]
 have xS:∀q,(V.iY p (iB tk)).pg q=if q=p then iB tk else V.pg q:=fun q=>rfl
 refine ⟨by rw [lJ,Array.size_setIfInBounds];exact hs,fun q hq=>?_,fun q hq=>?_,fun q hq k hk=>?_,fun i hi=>?_⟩
 ·rw [hg,if_neg (by omega),hg2,xS]
  by_cases e:q=p
  ·subst e;rw [if_pos rfl,if_pos rfl];rfl
  ·rw [if_neg (fun h=>e h.symm),if_neg e];exact h.kind q hq
 ·rw [hg,if_neg (by omega),hg2,if_neg (by omega),h.dz q hq,xS]
  by_cases e:q=p
  ·subst e;rw [if_pos rfl,hh];rfl
  ·rw [if_neg e]
 ·rw [hg,hl,xS]
  by_cases e:q=p
  ·subst e
   rw [if_pos (by omega),if_pos rfl,List.getElem?_replicate,if_pos (by omega)];rfl
  ·rw [if_neg (by omega),hg2,if_neg (by omega),if_neg e];exact h.iJ q hq k hk
 ·rw [hg,if_neg (by rw [hl];omega),hg2,if_neg (by omega)];exact h.rf i hi
theorem uE.AX {cs:Array Value} {v:Value} {V:Vm} (h:uE cs v V) (u:Value) (S:Rf):uE (jr cs 66624 (aM u S.calls S.hits)) u { V with rf:=S }:=by
 have hs:=h.size;have hl:(aM u S.calls S.hits).length=15:=rfl;have hg:=lU (aM u S.calls S.hits) cs 66624 (by rw [hl];omega);refine ⟨by rw [lJ];exact hs,fun q hq=>?_,fun q hq=>?_,fun q hq k hk=>?_,fun i hi=>?_⟩
 ·rw [hg,if_neg (by omega)];exact h.kind q hq
 ·rw [hg,if_neg (by omega)];exact h.dz q hq
 ·rw [hg,if_neg (by omega)];exact h.iJ q hq k hk
 ·rw [hg,if_pos (by omega),show 66624+i - 66624=i by omega]
theorem bq.put {w:World} {B b:Nat} {V:Vm} (h:bq w B b V) {p:Nat} (hp:p<1024) (hh:(V.pg p).dz=false) (tk:Int) :
  bq ((w.setCell ⟨b,p,none⟩ (.int .i64 tk)).setCells b (1088+p*64) (List.replicate 64 (.int .u8 0))) B b (V.iY p (iB tk))∧af (fun k=>k=b) w ((w.setCell ⟨b,p,none⟩ (.int .i64 tk)).setCells b (1088+p*64) (List.replicate 64 (.int .u8 0))):=by
 obtain ⟨cs,A,n,cap,h1,h2,h3,h4,h5,h6⟩:=h.ex;have hF1:af (fun k=>k=b) w (w.setCell ⟨b,p,none⟩ (.int .i64 tk)):=af.setCell (T:=fun k=>k=b) (p:=⟨b,p,none⟩) (af.refl _ _) (fun _=>rfl) _;have hF:=af.puts (T:=fun k=>k=b) rfl (List.replicate 64 (Value.int .u8 0)) (1088+p*64) w _ hF1;exact ⟨⟨_,A,n,cap,ag.puts (w:=w) (cs:=#[]) (List.replicate 64 (Value.int .u8 0)) (1088+p*64) _ _ (h1.aO _ _),h2.put hp hh tk,h3,h4.uX hF (fun k e=>by omega),h5,h6⟩,hF⟩
theorem bq.AX {w w':World} {B b:Nat} {V:Vm} (h:bq w B b V) (S:Rf) (A:Option Addr) (n cap:Nat) (hB:Below w.heap.size w w') (hn:S.rules.length=n) (hz:A=none→cap=0) (hr:Rd w' B A (fl iN S.rules)) (hS:uC S) :
  bq (w'.setCells b 66624 (aM (.slice A n cap) S.calls S.hits)) B b { V with rf:=S }∧af (fun k=>k=b) w (w'.setCells b 66624 (aM (.slice A n cap) S.calls S.hits)):=by
 have hlt:=h.lt;obtain ⟨cs,A0,n0,cap0,h1,h2,_,_,h5,_⟩:=h.ex;have k1:=h1.call hB;have hF:=af.puts (T:=fun k=>k=b) rfl (aM (.slice A n cap) S.calls S.hits) 66624 w' w' (af.refl _ _);exact ⟨⟨_,A,n,cap,ag.puts (w:=w) (cs:=#[]) (aM (.slice A n cap) S.calls S.hits) 66624 w' cs k1,h2.AX _ S,⟨hn,hz⟩,hr.uX hF (fun k e=>by omega),h5,hS⟩,(af.of_below hB).trans hF⟩
abbrev Rn:=Int×Int×Int
def qj (x:Rn):List Value:=[.int .i64 x.1,.int .i64 x.2.1,.int .i64 x.2.2]
def uY (l:List Rn):List Rn:=match l.reverse with
 | []=>[]
 | x::r=>r.reverse++[(x.1,x.2.1+1,x.2.2)]
def aP (V:Vm):Nat→List Rn
 | 0=>[]
 | k+1=>if (V.pg k).kind=0 then aP V k else if 0<k∧(V.pg (k - 1)).kind=(V.pg k).kind then uY (aP V k) else aP V k++[((k:Int),1,(V.pg k).kind)]
def dY (V:Vm):Nat→List Int
 | 0=>[]
 | k+1=>if k % 16=0∧(V.pg k).dz=true then dY V k++[(k:Int)] else dY V k
def AZ (g:Pg):Bool:=(List.range 64).any fun k=>g.iJ k != 0
def dL (V:Vm):Nat→List Nat
 | 0=>[]
 | k+1=>if AZ (V.pg k)=true then dL V k++[k] else dL V k
def NR (g:Pg):List Value:=(List.range 64).map fun k=>.int .u8 (g.iJ k)
def tT (V:Vm) (p:Nat):List Value:=.int .i64 p::NR (V.pg p)
def gq (v1 v2 v3 v4:Value) (cs hs:Nat→Int):List Value:=v1::v2::v3::aM v4 cs hs
structure Kw (w:World) (S:Value) (V:Vm):Prop where
 ex:∃(A1 A2 A3 A4:Option Addr) (n1 c1 n2 c2 n3 c3 n4 c4:Nat),S= .agg (gq (.slice A1 n1 c1) (.slice A2 n2 c2) (.slice A3 n3 c3) (.slice A4 n4 c4) V.rf.calls V.rf.hits).toArray ∧
  (aP V 1024).length=n1∧Rd w w.heap.size A1 (fl qj (aP V 1024))∧(dY V 1024).length=n2∧RI w w.heap.size A2 (dY V 1024)∧(dL V 1024).length=n3∧Rd w w.heap.size A3 (fl (tT V) (dL V 1024)) ∧
  V.rf.rules.length=n4∧Rd w w.heap.size A4 (fl iN V.rf.rules)
theorem Kw.on {w w':World} {S:Value} {V:Vm} (h:Kw w S V) (hb:Below w.heap.size w w'):Kw w' S V:=by
 obtain ⟨A1,A2,A3,A4,n1,c1,n2,c2,n3,c3,n4,c4,h0,h1,h2,h3,h4,h5,h6,h7,h8⟩:=h.ex;exact ⟨A1,A2,A3,A4,n1,c1,n2,c2,n3,c3,n4,c4,h0,h1,h2.fw hb,h3,RI.more (RI.below h4 hb) hb.size,h5,h6.fw hb,h7,h8.fw hb⟩
def EM (us:List Sp):Int:=if 2000<us.length then 3 else if us.all bB=true then 0 else 7
def setOf (us:List Sp):List Sp:=iX fun k=>mem (k:Int) us
theorem ng (us:List Sp):Can (setOf us):=Da _
theorem Yd {us:List Sp} (hv:∀x∈us,bB x=true) {q:Int} (h:mem q us=true):0≤q∧q<1024:=by
 obtain ⟨x,hx,hh⟩:=List.any_eq_true.1 h;have:=av.1 (hv x hx);simp at hh;omega
theorem wQ {us:List Sp} (hv:∀x∈us,bB x=true) (q:Int):mem q (setOf us)=true↔mem q us=true:=by
 unfold setOf;rw [Db];constructor
 ·rintro ⟨h1,h2⟩
  rwa [show ((q.toNat:Nat):Int)=q by omega] at h2
 ·intro h
  have:=Yd hv h;exact ⟨this,by rwa [show ((q.toNat:Nat):Int)=q by omega]⟩
theorem VJ {us:List Sp} (h:EM us=0):us.length≤2000∧∀x∈us,bB x=true:=by
 unfold EM at h;split at h
 ·cases h
 ·split at h
  ·rename_i h1 h2
   exact ⟨by omega,List.all_eq_true.1 h2⟩
  ·cases h
theorem zV:∀(L:List Sp) (e:Int),(∀x∈L,1≤x.2)→aW e L=true→(bR L).Pairwise (· < ·)∧∀p∈bR L,e<p∧mem p L=true
 | [],_,_,_=>⟨by simp [bR],fun p hp=>by simp [bR] at hp⟩
 | x::r,e,h,hf=>by
  have hf':=aJ.1 hf;have hx:=h x (by simp);obtain ⟨h1,h2⟩:=zV r (x.1+x.2) (fun y hy=>h y (by simp [hy])) hf'.2;have hX:∀p∈gJ x x.2.toNat,x.1≤p∧p<x.1+x.2:=by
   intro p hp;simp only [gJ,List.mem_map,List.mem_range] at hp;obtain ⟨k,hk,rfl⟩:=hp;omega
  rw [jD];constructor
  ·rw [List.pairwise_append]
   refine ⟨?_,h1,fun a ha b hb=>by have:=hX a ha;have:=(h2 b hb).1;omega⟩;unfold gJ;rw [List.pairwise_map];exact List.pairwise_lt_range.imp (fun {a b} h=>by omega)
  ·intro p hp
   rcases List.mem_append.1 hp with h3|h3
   ·have:=hX p h3
    exact ⟨by omega,bK.2 (.inl this)⟩
   ·exact ⟨by have:=(h2 p h3).1;omega,bK.2 (.inr (h2 p h3).2)⟩
theorem Ky:∀(P:List Int) (k:Int) (i:Nat),P.Pairwise (· < ·)→i<P.length→vJ (P.getD i 0) k P=(k+i,0)
 | [],_,_,_,h=>by simp at h
 | y::r,k,0,_,_=>by simp [vJ]
 | y::r,k,i+1,hp,h=>by
  have hp':=List.pairwise_cons.1 hp;have hi:i<r.length:=by simpa using h
  have e:(y::r).getD (i+1) 0=r.getD i 0:=by simp [List.getD_eq_getElem?_getD]
  have hm:r.getD i 0∈r:=by rw [List.getD_eq_getElem?_getD,List.getElem?_eq_getElem hi];simp
  have hne:y≠r.getD i 0:=by have:=hp'.1 _ hm;omega
  rw [e,vJ,if_neg hne,Ky r (k+1) i hp'.2 hi];congr 1;omega
theorem Kz:∀(s:List Sp) (e:Int),e<1024→(∀x∈s,bB x=true)→aW e s=true→aI s≤1023 - e
 | [],e,he,_,_=>by simp [aI];omega
 | x::s,e,he,hv,hf=>by
  rw [aJ] at hf;have hx:=av.1 (hv x (by simp));have e1:aI (x::s)=x.2+aI s:=by simp [aI]
  rw [e1];cases s with
  | nil=>simp [aI];omega
  | cons y r =>
   have hf2:=aJ.1 hf.2;have hy:=av.1 (hv y (by simp));have:=Kz (y::r) (x.1+x.2) (by omega) (fun z hz=>hv z (List.mem_cons_of_mem _ hz)) hf.2;omega
def mW (L:List Sp) (k:Nat):Int:=(bR L).getD k 0
def Ul (L:List Sp) (k:Nat):Int:=if k=0 then -1 else mW L (k - 1)
section
variable {pg n f b ev:Int}
theorem rO (hp:dS pg n f b ev):∀x∈aA pg n f b ev,1≤x.2:=fun x hx=>((vH hp).1 x hx).2.1
theorem NS (hp:dS pg n f b ev):aA pg n f b ev≠[]:=by
 have h:=hp.fb;unfold aA;rw [show (1025:Nat)=1024+1 from rfl,gD,if_pos (by omega)];simp
theorem nJ (hp:dS pg n f b ev):1≤aI (aA pg n f b ev)∧aI (aA pg n f b ev)≤1024:=by
 have hc:=bL hp;have h1:=Kz _ (-1) (by omega) hc.1 hc.2;refine ⟨?_,by omega⟩;have h2:=rO hp;cases hL:aA pg n f b ev with
 | nil=>exact absurd hL (NS hp)
 | cons x r =>
  rw [hL] at h2 hc;have h3:=h2 x (by simp);have h4:=(iA r (fun y hy=>hc.1 y (by simp [hy]))).1;have e1:aI (x::r)=x.2+aI r:=by simp [aI]
  omega
theorem Gm (hp:dS pg n f b ev) (k:Nat) (hk:(k:Int)<aI (aA pg n f b ev)) :
  lu (aA pg n f b ev) k=(mW (aA pg n f b ev) k,0)∧jg (mW (aA pg n f b ev) k) 0 (aA pg n f b ev)=((k:Int),0) ∧
  mem (mW (aA pg n f b ev) k) (aA pg n f b ev)=true∧0≤mW (aA pg n f b ev) k∧mW (aA pg n f b ev) k<1024 ∧
  Ul (aA pg n f b ev) k<mW (aA pg n f b ev) k:=by
 have hpos:=rO hp;have hc:=bL hp;have hin:∀{q:Int},mem q (aA pg n f b ev)=true→pg≤q∧q<pg+n:=fun h=>by
  have:=((vH hp).2.2 _).1 h;have:=hp.f0;have:=hp.b0;omega
 have b1:=hp.De;have b2:=hp.n1;generalize aA pg n f b ev=L at *;have hl:=jq L (fun x hx=>by have:=hpos x hx;omega);have hk':k<(bR L).length:=by omega
 obtain ⟨hs,hm⟩:=zV L (-1) hpos hc.2;have hmem:mW L k∈bR L:=by
  unfold mW;rw [List.getD_eq_getElem?_getD,List.getElem?_eq_getElem hk'];simp
 have hmm:=(hm _ hmem).2;have:=hin hmm;refine ⟨?_,?_,hmm,by omega,by omega,?_⟩
 ·rw [qf L _ hpos,vI,if_neg (by omega)];rfl
 ·rw [yh _ _ _ hpos]
  have:=Ky (bR L) 0 k hs hk';rw [Int.zero_add] at this;exact this
 ·unfold Ul
  by_cases h0:k=0
  ·rw [if_pos h0];omega
  ·rw [if_neg h0]
   have h1:k - 1<(bR L).length:=by omega
   have:=List.pairwise_iff_getElem.1 hs (k - 1) k h1 hk' (by omega);unfold mW;have e1:(bR L).getD k 0=(bR L)[k]:=by rw [List.getD_eq_getElem?_getD,List.getElem?_eq_getElem hk'];rfl
   have e2:(bR L).getD (k - 1) 0=(bR L)[k - 1]:=by rw [List.getD_eq_getElem?_getD,List.getElem?_eq_getElem h1];rfl
   rw [e1,e2];exact this
end
def iC (f:Int→Bool):Nat→Int→Int
 | 0,_=>0
 | k+1,a=>(if f a=true then 1 else 0)+iC f k (a+1)
def cntF (us:List Sp) (x:Sp):Int:=iC (fun q=>mem q us) x.2.toNat x.1
theorem jY (f:Int→Bool):∀(j k:Nat) (a:Int),iC f (j+k) a=iC f j a+iC f k (a+j)
 | 0,k,a=>by simp [iC]
 | j+1,k,a=>by
  rw [show j+1+k=(j+k)+1 by omega,iC,jY f j k (a+1),iC,show a+1+(j:Int)=a+(j+1:Nat) by omega];omega
theorem uF {f g:Int→Bool}:∀(k:Nat) (a:Int),(∀q,a≤q→q<a+k→f q=g q)→iC f k a=iC g k a
 | 0,a,_=>rfl
 | k+1,a,h=>by
  rw [iC,iC,h a (by omega) (by omega),uF k (a+1) (fun q h1 h2=>h q (by omega) (by omega))]
theorem Ee (f:Int→Bool):∀(k:Nat) (a:Int),0≤iC f k a∧iC f k a≤k
 | 0,a=>by simp [iC]
 | k+1,a=>by
  have:=Ee f k (a+1);rw [iC];split <;> omega
theorem KA {f:Int→Bool}:∀(k:Nat) (a:Int),(∀q,a≤q→q<a+k→f q=true)→iC f k a=k
 | 0,a,_=>rfl
 | k+1,a,h=>by
  rw [iC,h a (by omega) (by omega),if_pos rfl,KA k (a+1) (fun q h1 h2=>h q (by omega) (by omega))];omega
theorem nk {f:Int→Bool}:∀(k:Nat) (a:Int),(∀q,a≤q→q<a+k→f q=false)→iC f k a=0
 | 0,a,_=>rfl
 | k+1,a,h=>by
  rw [iC,h a (by omega) (by omega),if_neg (by decide),nk k (a+1) (fun q h1 h2=>h q (by omega) (by omega))];omega
theorem NT:∀(us:List Sp) (e a:Int),aW e us=true→(∀x∈us,bB x=true)→(∀x∈us,a≤x.1)→a≤1024→iC (fun q=>mem q us) (1024 - a).toNat a=aI us
 | [],_,a,_,_,_,_=>by rw [nk (f:=fun q=>mem q []) _ _ (fun q _ _=>rfl)];simp [aI]
 | x::r,e,a,hf,hv,ha,hle=>by
  have hf':=aJ.1 hf;have hx:=av.1 (hv x (by simp));have hax:=ha x (by simp);have hrv:∀y∈r,bB y=true:=fun y hy=>hv y (by simp [hy])
  have low:∀q,mem q r=true→x.1+x.2<q:=fun q hq=>uo hf'.2 (fun y hy=>by have:=av.1 (hrv y hy);omega) hq
  have hr:∀y∈r,x.1+x.2≤y.1:=fun y hy=>by
   have:=av.1 (hrv y hy);have:=low y.1 (List.any_eq_true.2 ⟨y,hy,by simp;omega⟩);omega
  have ih:=NT r (x.1+x.2) (x.1+x.2) hf'.2 hrv hr (by omega);have e1:(1024 - a).toNat=(x.1 - a).toNat+(x.2.toNat+(1024 - (x.1+x.2)).toNat):=by omega
  rw [e1,jY,jY,show a+((x.1 - a).toNat:Int)=x.1 by omega,show x.1+(x.2.toNat:Int)=x.1+x.2 by omega];rw [nk (x.1 - a).toNat a (fun q h1 h2=>by
   rw [Bool.eq_false_iff];intro hh;rcases bK.1 hh with h|h
   ·omega
   ·have:=low q h;omega)]
  rw [KA x.2.toNat x.1 (fun q h1 h2=>bK.2 (.inl (by omega)))];rw [uF (g:=fun q=>mem q r) _ _ (fun q h1 h2=>by
   show mem q (x::r)=mem q r;rw [mem_cons,Bool.eq_iff_iff];simp;omega),ih]
  have:aI (x::r)=x.2+aI r:=by simp [aI]
  omega
theorem Ba {us:List Sp} (h:Can us):cntF us (0,1024)=aI us:=by
 have:=NT us (-1) 0 h.2 h.1 (fun x hx=>(av.1 (h.1 x hx)).1) (by omega);exact this
theorem mG {P:Program} {w:World} {ops:Array Oper} {rest:List Oper} {o:Oper} {a:Act} {Q:Exit→Act→World→Prop} (hgd:o.guard=none) (s x:Operand) (t:TypeId)
  (ho:o.op= .call { callee:=.builtin .append,args:=#[s,x],argTypes:=#[t,t] })
  (base:Nat) (e:TypeId) (i:TypeInfo) (size c:Nat) (ht:P.underlying t=some (.slice e)) (hi:P.info? e=some i)
  (v:Value) (n:Nat) (xs:List Value) (hs:a.eval s=v) (hown:w.ownsRow base e size v n xs) (hx:a.eval x= .slice none 0 c)
  (h:wpList P ops Q rest (a.put o.dst v) w):wpList P ops Q (o::rest) a w:=by
 refine wpList_plain hgd fun K hK=>?_
 have hrun:(Builtin.append_ #[t,t] o.type #[v,.slice none 0 c]).run P w= .ok v w:=by
  rcases hown.2 with ⟨rfl,rfl⟩|⟨g,cap,cur,rfl,_,_,hnc,_⟩
  ·simp [Builtin.append_,run_underlying ht,sizeOf,typeInfo,hi,Builtin.lenOf,Builtin.firstCells]
  ·simp [Builtin.append_,run_underlying ht,sizeOf,typeInfo,hi,Builtin.lenOf,Builtin.firstCells,hnc,storeCells]
 unfold Oper.wp;simp [execOp,ho,resolve,invoke,builtin,hs,hx,hrun,Result.andThen];exact hK _ _ h
theorem bC.congr {cs:Array Value} {f g:Nat→Bool} (h:bC cs f) (hg:∀k,k<1024→f k=g k):bC cs g :=
 ⟨h.size,fun k hk=>by rw [←hg k hk];exact h.at_ k hk⟩
theorem bC.one {cs:Array Value} {f:Nat→Bool} (h:bC cs f):cs.all (·.oneCell')=true:=by
 rw [Array.all_eq_true];intro i hi;have:=h.at_ i (by rw [←h.size];exact hi);rw [Array.getElem?_eq_getElem hi] at this;cases alv:cs[i] <;> simp_all [Value.oneCell']
theorem Jr {P:Program} {ops:Array Oper} {Q:Exit→Act→World→Prop} {l m i:Nat} {K:Act→World→Prop} {a:Act} {w:World} (hd:∀o:Oper,ops[i]? = some o→∀c,o.op≠.defer c) (hno:¬LetsOut Q)
  (h:wpOp P ops Q i K a w):wpOpIn (Fence.wide.inRound l) m P ops Q i K a w:=by
 unfold wpOp at h;unfold wpOpIn;split
 ·rename_i ho;simpa only [ho] using h
 ·rename_i o ho
  simp only [ho] at h;split
  ·rename_i hw
   simp only [hw,if_true] at h;rcases h with h|⟨_,h⟩
   ·unfold Oper.wpIn
    refine ⟨fun _ _=>trivial,?_⟩;rw [Fence.inRound_round,Oper.semAt_some l _ _ (hd o ho)];unfold Oper.wp at h;generalize (execOp a.eval o).run P w=r at *;cases r with
    | ok x w' =>
     cases x <;> simp only [Oper.upon,Oper.uponIn] at h ⊢ <;> first
      | exact h
      | exact ⟨fun h0=>(by cases h0),(CallsIn.inRound l (callsIn_wide.2 h)).mono fun e w'' he=>by cases e <;> exact he⟩
      | exact ⟨fun h0=>(by cases h0),fun c cs _=>let ⟨v,w'',r,s⟩:=h c cs;⟨v,w'',r,stepsIn_wide.2 s⟩⟩
    | halt x w'=>cases x <;> simp only [Oper.upon,Oper.uponIn] at h ⊢ <;> exact h
   ·exact absurd h hno
  ·rename_i hw
   simp only [hw] at h;exact ⟨fun _ _=>trivial,h⟩
theorem sD {P:Program} {ops:Array Oper} {Q:Exit→Act→World→Prop} {md:Region.Mode} {l m:Nat} (hd:∀(i:Nat) (o:Oper),ops[i]? = some o→∀c,o.op≠.defer c) (hno:¬LetsOut Q) :
  ∀(fuel:Nat) (listed:Array Bool) (a:Act) (w:World),wpAny P md ops Q fuel listed a w→wpAnyIn (Fence.wide.inRound l) m P md ops Q fuel listed a w
 | 0,_,_,_,h=>h
 | fuel+1,_,_,_,h=>⟨h.1,fun i hi=>wpOpIn_mono (fun a w h=>sD hd hno fuel _ a w h) (Jr (hd i) hno (h.2 i hi))⟩
def Gp (ops:Array Oper):Bool:=ops.all fun o=>match o.op with
 | .defer _=>false
 | _=>true
theorem zW {ops:Array Oper} (h:Gp ops=true) (i:Nat) (o:Oper) (ho:ops[i]? = some o) (c:Call):o.op≠.defer c:=fun e=>by
 have:=(Array.all_eq_true_iff_forall_mem.1 h) o (Array.mem_of_getElem? ho);rw [e] at this;cases this
theorem Gq {P:Program} {ops:Array Oper} {Q:Exit→Act→World→Prop} {id l m:Nat} {a:Act} {w:World} (S:World→Prop) (tl:List Nat) (hm:P.follows .mixedOrders=true) (hd:Gp ops=true) (hno:¬LetsOut Q)
  (h:eF P .any ops Q S tl ops.size (Array.replicate ops.size false) a w.drew):(Code.region id ops true).wpIn (Fence.wide.inRound l) m P Q a w :=
 wpIn_region_any hm (sD (zW hd) hno _ _ _ _ (yc _ _ _ _ h))
theorem Js {F:Fence} {m:Nat} {P:Program} {c:Code} {Q:Exit→Act→World→Prop} {a:Act} {w:World} (h:c.wpIn F m P (FO Q) a w):c.wpIn F m P Q a w :=
 wpIn_mono h (fun e a w h=>by cases e <;> first|exact h.elim|exact h)
section
variable {P:Program}
theorem ny {id lr m:Nat} {Q:Exit→Act→World→Prop} {a:Act} {w:World} {l:List Oper} (n:Nat) (hm:P.follows .mixedOrders=true) (hd:Gp l.toArray=true) (hno:¬LetsOut Q) (hB:Region.lexTailB .any l.toArray n=true)
  (h:wpQuiet P l.toArray (fun w'=>∃x:Ext w,w'=x.w) (fun a'=>∀x:Ext w,wpList P l.toArray Q (l.drop n) a' x.w) (l.take n) a):(Code.region id l.toArray true).wpIn (Fence.wide.inRound lr) m P Q a w:=by
 simp only [Region.lexTailB,Bool.and_eq_true,decide_eq_true_eq] at hB;obtain ⟨⟨⟨⟨hsel,hn⟩,hs⟩,hc⟩,hlex⟩:=hB;have hn':n<l.length:=by simpa using hn
 have htl:(l.take n).length=n:=by simp;omega
 have hdl:(l.drop n).length=l.toArray.size - n:=by simp
 have inv0:HeadInv .any l.toArray n (Array.replicate l.toArray.size false) :=
  ⟨by simp,fun j oj _ hl=>(by rw [getD_replicate_false] at hl;cases hl),fun t _ ht=>getD_in (by simpa using ht) (getD_replicate_false _ _)⟩
 have H:=Ao (md:=.any) (g:=l.toArray.size - n) hsel hs hc hn (l.take n) 0 _ a (fun j hj=>by
  have hj':j<n:=by rw [htl] at hj;exact hj
  simp [hj']) (by simpa using htl) inv0 (by rw [htl];exact hlex) h
 refine wpIn_region_any hm (sD (zW hd) hno _ _ _ _ ?_);have:=qz (Q':=Q) (g:=l.toArray.size - n) (fun listed a' w' hw' hL=>by
  obtain ⟨x,rfl⟩:=hw';have:=wpAny_of_seq (md:=.any) (Q':=Q) (l.drop n) n listed a' x.w (fun j=>by simp [List.getElem?_drop]) (by rw [hdl];exact hL.1) (hL.2 x)
  rwa [hdl] at this) _ _ _ _ (⟨⟨_,(Below.refl _ w).drew⟩,rfl⟩:∃x:Ext w,({ w with drawn:=w.drawn+1 }:World)=x.w) H
 rw [htl,show n+(l.toArray.size - n)=l.toArray.size by omega] at this;exact this
end
structure fK (V:Vm):Prop where
 kinds:aQ V
 BZ:∀p,p<1024→(V.pg p).dz=true→(V.pg p).kind=2
 iJ:∀p,p<1024→(V.pg p).kind≠2→∀k,(V.pg p).iJ k=0
theorem fK.Q9 {V U:Vm} (h:fK V) (e:U.pg=V.pg):fK U:=⟨fun p hp=>by rw [e];exact h.kinds p hp,fun p hp=>by rw [e];exact h.BZ p hp,fun p hp=>by rw [e];exact h.iJ p hp⟩
theorem fK.gH {V:Vm} (h:fK V) (a n:Nat) (f:Pg→Pg) (hk:∀p,p<1024→a≤p→p<a+n→0≤(f (V.pg p)).kind∧(f (V.pg p)).kind≤3∧((f (V.pg p)).dz=true→(f (V.pg p)).kind=2)∧((f (V.pg p)).kind≠2→∀k,(f (V.pg p)).iJ k=0)):fK (V.gH a n f):=by
 have e:∀p,(V.gH a n f).pg p=if a≤p∧p<a+n then f (V.pg p) else V.pg p:=fun p=>rfl
 refine ⟨fun p hp=>?_,fun p hp=>?_,fun p hp=>?_⟩
 ·rw [e]
  split
  ·rename_i h1;exact ⟨(hk p hp h1.1 h1.2).1,(hk p hp h1.1 h1.2).2.1⟩
  ·exact h.kinds p hp
 ·rw [e]
  split
  ·rename_i h1;exact (hk p hp h1.1 h1.2).2.2.1
  ·exact h.BZ p hp
 ·rw [e]
  split
  ·rename_i h1;exact (hk p hp h1.1 h1.2).2.2.2
  ·exact h.iJ p hp
theorem fK.make {V:Vm} (h:fK V) (a n:Int) (call:Nat) (pr:Pg→Bool) (f:Pg→Pg) (hf:∀p,p<1024→pr (V.pg p)=true→0≤(f (V.pg p)).kind∧(f (V.pg p)).kind≤3∧((f (V.pg p)).dz=true→(f (V.pg p)).kind=2)∧((f (V.pg p)).kind≠2→∀k,(f (V.pg p)).iJ k=0)) :
  fK (gT V a n call pr f).2:=by
 unfold gT;split
 ·exact h
 ·split
  ·exact h
  ·rename_i hp
   rw [Bool.not_eq_false] at hp;split
   ·exact h.Q9 rfl
   ·exact (h.Q9 (U:=V.ref call) rfl).gH _ _ _ (fun p hp2 h1 h2=>hf p hp2 (jb.1 hp p h1 h2))
theorem fK.bJ {V:Vm} (h:fK V) (a n:Int) (call:Nat) (fr tk:Int) (ht:0≤tk∧tk≤3):fK (bJ V a n call fr tk).2 :=
 h.make a n call _ _ (fun p _ _=>⟨ht.1,ht.2,fun h=>(by cases h),fun _ _=>rfl⟩)
theorem fK.split {V:Vm} (h:fK V) (p:Int):fK (lF V p).2:=by
 unfold lF;split
 ·exact h
 ·refine h.make _ _ _ _ _ (fun q hq hk=>?_)
  have hb:=h.kinds q hq;exact ⟨hb.1,hb.2,fun h=>(by cases h),h.iJ q hq⟩
theorem fK.new:fK lg:=⟨fun p _=>by show (0:Int)≤0∧(0:Int)≤3;omega,fun p _ h=>(by cases h),fun p _ _ k=>rfl⟩
theorem fK.plan {V:Vm} (h:fK V) (l:List Ru):fK (uU V l):=by
 unfold uU;split
 ·exact h.Q9 rfl
 ·exact h
def N7 (b:Nat) (r:List Sp×Int×Vm) (w:World) (e:Ending) (w':World):Prop :=
 ∃(A:Option Addr) (cap:Nat),e= .returned (.tuple #[.slice A r.1.length cap,.int .i64 r.2.1])∧RU w' w'.heap.size A r.1∧(∀g o,A=some ⟨g,o,none⟩→w.heap.size≤g)∧r.1.length≤maxLen∧aD w' b r.2.2∧af (fun k=>k=b) w w'
def ErS (g:Nat) (x:Int) (W:World):Prop:=W.cell? ⟨g,0,none⟩=some (.int .i64 x)∧True
theorem yo {P:Program} {fn:Func} {tmps:Array Value} {R:Ending→World→Prop} (I:List Deferred→World→Prop)
  (hfin:∀w,I [] w→∃v,(results fn tmps).run P w= .ok v w∧R (.returned v) w)
  (hstep:∀d ds w,I (d::ds) w→∃fv cap f args,d.target= .fn fv cap∧(invoke d.target d.args).run P w= .ok (.enter f args) w∧CallsD P f args .returning w (fun e u' w'=>u'= .returning∧((∃v,e= .returned v)∧I ds w'))) :
  ∀ds w,I ds w→Leaves P fn tmps R ds .returning w
 | [],w,h=>hfin w h
 | d::ds,w,h=>by
  obtain ⟨fv,cap,f,args,ht,hi,hc⟩:=hstep d ds w h;refine ⟨by simp,fv,cap,f,args,ht,hi,hc.mono ?_⟩;rintro e u' w' ⟨rfl,⟨v,rfl⟩,hI⟩;exact yo I hfin hstep ds w' hI
theorem nU {P:Program} (w:World) (dT sT ty elem:TypeId) (sz g o dLen dCap:Nat) (a:Addr) (sLen sCap m:Nat) (cur:Array Value) (t:TypeId) (cs:List Value)
  (hu:P.underlying dT=some (.slice elem)) (hs:(P.info? elem).map (·.size)=some sz)
  (hg:w.heap[g]? = some (.cells cur t (0,0))) (hm:Nat.min sLen dLen=m) (hn:cs.length=m*sz)
  (hsrc:∀j v,cs[j]? = some v→w.cell? (a.add j)=some v) (hfit:o+cs.length≤cur.size) (h1:∀v∈cs,v.oneCell'=true) :
  (Builtin.copy_ #[dT,sT] ty #[.slice (some ⟨g,o,none⟩) dLen dCap,.slice (some a) sLen sCap]).run P w =
   .ok (goInt m) (w.setRow g (cur.toList.take o++cs++cur.toList.drop (o+cs.length)).toArray):=by
 have hl:=run_loadCells_list (P:=P) w a cs hsrc;have hst:=run_storeCells_at P g o t cs 0 cur w hg (by simpa using hfit) h1;cases hq:P.info? elem with
 | none=>simp [hq] at hs
 | some i =>
  have hi:i.size=sz:=by simpa [hq] using hs
  simp [Builtin.copy_,run_underlying hu,Builtin.lenOf,Builtin.firstCells,sizeOf,typeInfo,hq,hi,hm,←hn,hl,hst]
theorem xH {P:Program} {ops:Array Oper} {o:Oper} {a:Act} {w:World} {K:Act→World→Prop} {Q:Exit→Act→World→Prop} {E:Prop}
  (hg:o.guard=none) (d x:Operand) (dT sT:TypeId) (hop:o.op=Op.call { callee:=Callee.builtin Builtin.copy,args:=#[d,x],argTypes:=#[dT,sT] })
  (v u:Value) (hd:a.eval d=v) (hx:a.eval x=u) {v':Value} {w':World} (hr:(Builtin.copy_ #[dT,sT] o.type #[v,u]).run P w= .ok v' w') (hK:K (a.put o.dst v') w') :
  if Region.wanted o (yielded ops a.tmps)=true then Oper.wp P o a w K Q else E:=by
 have hw:Region.wanted o (yielded ops a.tmps)=true:=by simp [Region.wanted,hg]
 rw [if_pos hw];unfold Oper.wp;simp [execOp,hop,resolve,invoke,builtin,hd,hx,hr,Result.andThen];exact hK
def pW (cur:List Value) (xa xb:Value):List Value:=cur.take 0++[xa,xb]++cur.drop (0+2)
def rD (cur xs:List Value) (xa xb:Value):List Value:=xa::xb::xs++cur.drop (2+xs.length)
theorem LW (cur xs:List Value) (xa xb:Value):(pW cur xa xb).take 2++xs++(pW cur xa xb).drop (2+xs.length)=rD cur xs xa xb:=by
 unfold pW rD;simp [Nat.add_comm 2 xs.length]
theorem LX (cur xs:List Value) (xa xb:Value) (h:2≤cur.length):pW (cur.take 2++xs++cur.drop (2+xs.length)) xa xb=rD cur xs xa xb:=by
 unfold pW rD;obtain ⟨a,b,r,rfl⟩:∃a b r,cur=a::b::r:=by
  match cur,h with
  | a::b::r,_=>exact ⟨a,b,r,rfl⟩
 simp
theorem Eg (cur xs:List Value) (xa xb:Value) (h:2+xs.length≤cur.length):(rD cur xs xa xb).length=cur.length:=by
 unfold rD;simp;omega
theorem zX (us:List Sp):∀u∈ax us,u.oneCell'=true:=by
 intro u hu;unfold ax at hu;rw [List.mem_flatMap] at hu;obtain ⟨x,_,h⟩:=hu;rcases List.mem_cons.1 h with rfl|h
 ·rfl
 ·rcases List.mem_cons.1 h with rfl|h
  ·rfl
  ·cases h
theorem Eh {w:World} {g base n c:Nat} {t:TypeId} {cur cs:Array Value} {xs:List Value} (hg:w.heap[g]? = some (.cells cur t (0,0))) (hb:base≤g) (hc:n≤c) (hcm:c≤maxLen) (hs:cs.size=c*2) (hl:xs.length=n*2) (hx:cs.toList.take (n*2)=xs) :
  (w.setRow g cs).ownsRow base t 2 (.slice (some ⟨g,0,none⟩) n c) n xs :=
 ⟨hl,.inr ⟨g,c,cs,rfl,hb,setRow_heap _ _ _ _ _ _ hg,hc,hcm,hs,hx⟩⟩
end Go.Pol
namespace Go.Proofs.YtjmmgoijnhnnaaaGreat
open Go Go.Proofs Go.RowKit Go.Pol Go.Shelf Tryz
attribute [local go_sem] Oper.semAt_some aC au az ah
theorem Dm (b call:Nat) (a n:Int) (pr:Pg→Bool) (fd:Pg→Pg) (g1 g2:Nat) (VF VG:Array Value) (V:Vm) (w:World) (hV:aD w b V) (hc:call<7)
  (e1:∀args w,(callFunc g1 args).run prog w= .ok (.enter g1 args) w) (e2:∀args w,(callFunc g2 args).run prog w= .ok (.enter g2 args) w)
  (hp1:∀p,p<1024→∀V' W,aD W b V'→af (fun k=>k=b) w W→Calls prog g1 (#[.pointer (some ⟨b,1+p*66,none⟩)]++VF) W fun e W'=>e= .returned (.bool (pr (V'.pg p)))∧Below W.heap.size W W')
  (hp2:∀p,p<1024→∀V' W,aD W b V'→af (fun k=>k=b) w W→Calls prog g2 (#[.pointer (some ⟨b,1+p*66,none⟩)]++VG) W fun e W'=>e= .returned (.tuple #[])∧aD W' b (V'.iY p (fd (V'.pg p)))∧af (fun k=>k=b) W W') :
  Calls prog 126 #[.pointer (some ⟨b,0,none⟩),.int .i64 a,.int .i64 n,.agg #[.int .i64 call,.func (.func g1) #[] VF,.func (.func g2) #[] VG]] w fun e w'=>e= .returned (.int .i64 (gT V a n call pr fd).1)∧dw b (gT V a n call pr fd).2 w w':=by
 have hb0:=aV w (.cells #[.int .i64 call,.func (.func g1) #[] VF,.func (.func g2) #[] VG] 215);have k0:=ag.new w 215 #[.int .i64 call,.func (.func g1) #[] VF,.func (.func g2) #[] VG];have V0:=hV.call hb0;have F0:af (fun k=>k=b) w (w.alloc (.cells #[.int .i64 call,.func (.func g1) #[] VF,.func (.func g2) #[] VG] 215)):=.of_below hb0;have hbs:=hV.lt;have HI:=ae (fun W h=>uD b V W h);have HA:=ae (fun (aa nn:Nat) (h:aa+nn≤1024) W (hW:aD W b V) (hF:af (fun k=>k=b) w W)=>X0 b aa nn pr g1 VF V W h e1 (fun p hp W' hb=>hp1 p hp V W' (hW.call hb) (hF.trans (.of_below hb))));have HR:=ae (fun W h=>EK b call V W h hc);have HE:=ae (fun (aa nn:Nat) (h:aa+nn≤1024) V' W (hW:aD W b V') (hF:af (fun k=>k=b) w W)=>VE b aa nn fd g2 VG V' W hW h e2 (fun p hp V2 W' h2 hF2=>hp2 p hp V2 W' h2 (hF.trans hF2)));obtain ⟨R,hR⟩:=aj (gT V a n call pr fd);rw [hR];unfold gT at hR;obtain ⟨re,rV⟩:=R;obtain ⟨s,hs⟩:=aj (w.heap.size);rw [hs] at k0 hbs;have hs':=ae hs;simp only;unfold dw;clear hp1 hp2 hb0 hV e1 e2;by_cases c1:n<1
 ·have d1:decide (n<1)=true:=by simpa using c1
  rw [if_pos (by omega)] at hR;simp only [Prod.mk.injEq] at hR;obtain ⟨rfl,rfl⟩:=hR;have c0:=k0.cell;clear hs;go_enter func126,ntmps126;go_upto_region 1 with fail
  generalize w.alloc _=w0 at *;simp only [hs'.out];go_wp2_with fail;refine (HI.out _ V0).mono ?_;rintro e9 w9 ⟨rfl,bH⟩;replace bH:=bH.symm;subst bH;go_wp2_with fail;go_ret;exact ⟨rfl,V0,F0⟩
 have d1:decide (n<1)=false:=by simpa using c1
 by_cases c2:a<0
 ·have d2:decide (a<0)=true:=by simpa using c2
  rw [if_pos (by omega)] at hR;simp only [Prod.mk.injEq] at hR;obtain ⟨rfl,rfl⟩:=hR;have c0:=k0.cell;clear hs;go_enter func126,ntmps126;go_upto_region 1 with fail
  generalize w.alloc _=w0 at *;simp only [hs'.out];go_wp2_with fail;refine (HI.out _ V0).mono ?_;rintro e9 w9 ⟨rfl,bH⟩;replace bH:=bH.symm;subst bH;go_wp2_with fail;go_ret;exact ⟨rfl,V0,F0⟩
 have d2:decide (a<0)=false:=by simpa using c2
 by_cases c3:1024≤a
 ·have d3:decide (1024≤a)=true:=by simpa using c3
  rw [if_pos (by omega)] at hR;simp only [Prod.mk.injEq] at hR;obtain ⟨rfl,rfl⟩:=hR;have c0:=k0.cell;clear hs;go_enter func126,ntmps126;go_upto_region 1 with fail
  generalize w.alloc _=w0 at *;simp only [hs'.out];go_wp2_with fail;refine (HI.out _ V0).mono ?_;rintro e9 w9 ⟨rfl,bH⟩;replace bH:=bH.symm;subst bH;go_wp2_with fail;go_ret;exact ⟨rfl,V0,F0⟩
 have d3:decide (1024≤a)=false:=by simpa using c3
 have hw:IntKind.i64.wrap (1024 - a)=1024 - a:=by rw [IntKind.wrap_i64];omega
 by_cases c4:1024 - a<n
 ·have d4:decide (1024 - a<n)=true:=by simpa using c4
  rw [if_pos (by omega)] at hR;simp only [Prod.mk.injEq] at hR;obtain ⟨rfl,rfl⟩:=hR;have c0:=k0.cell;clear hs;go_enter func126,ntmps126;go_upto_region 1 with fail
  generalize w.alloc _=w0 at *;simp only [hs'.out];go_wp2_with fail;refine (HI.out _ V0).mono ?_;rintro e9 w9 ⟨rfl,bH⟩;replace bH:=bH.symm;subst bH;go_wp2_with fail;go_ret;exact ⟨rfl,V0,F0⟩
 have d4:decide (1024 - a<n)=false:=by simpa using c4
 rw [if_neg (by omega)] at hR;obtain ⟨aa,rfl⟩:∃aa:Nat,a=(aa:Int):=⟨a.toNat,by omega⟩;obtain ⟨nn,rfl⟩:∃nn:Nat,n=(nn:Int):=⟨n.toNat,by omega⟩;simp only [Int.toNat_natCast] at hR;have hsum:aa+nn≤1024:=by omega
 have HA':=ae (HA.out aa nn hsum);have HE':=ae (HE.out aa nn hsum);generalize qN V aa nn pr=al at *;cases al with
 | false =>
  rw [if_pos rfl] at hR;simp only [Prod.mk.injEq] at hR;obtain ⟨rfl,rfl⟩:=hR;have c0:=k0.cell;clear hs;go_enter func126,ntmps126;go_upto_region 1 with fail
  generalize w.alloc _=w0 at *;simp only [hs'.out];go_wp2_with fail;refine (HI.out _ V0).mono ?_;rintro e9 w9 ⟨rfl,bH⟩;replace bH:=bH.symm;subst bH;go_wp2_with fail;refine (HA'.out _ V0 F0).mono ?_;rintro e w1 ⟨rfl,hb1⟩;have V1:=V0.call hb1;have F1:af (fun k=>k=b) w w1:=F0.trans (.of_below hb1);go_wp2_with fail;go_ret;exact ⟨rfl,V1,F1⟩
 | true =>
  rw [if_neg (by simp)] at hR;generalize qO V.rf call=rb at *;cases rb with
  | true =>
   rw [if_pos rfl] at hR;simp only [Prod.mk.injEq] at hR;obtain ⟨rfl,rfl⟩:=hR;generalize V.ref call=V2 at *;have c0:=k0.cell;clear hs;go_enter func126,ntmps126;go_upto_region 1 with fail
   generalize w.alloc _=w0 at *;simp only [hs'.out];go_wp2_with fail;refine (HI.out _ V0).mono ?_;rintro e9 w9 ⟨rfl,bH⟩;replace bH:=bH.symm;subst bH;go_wp2_with fail;refine (HA'.out _ V0 F0).mono ?_;rintro e w1 ⟨rfl,hb1⟩;have k1:=k0.call hb1;have c1:=k1.cell;have V1:=V0.call hb1;have F1:af (fun k=>k=b) w w1:=F0.trans (.of_below hb1);clear c0;go_wp2_with fail;refine (HR.out _ V1).mono ?_;rintro e w2 ⟨rfl,V2',F2⟩;go_wp2_with fail;go_ret;exact ⟨rfl,V2',F1.trans F2⟩
  | false =>
   rw [if_neg (by simp)] at hR;simp only [Prod.mk.injEq] at hR;obtain ⟨rfl,rfl⟩:=hR;generalize V.ref call=V2 at *;have c0:=k0.cell;clear hs;go_enter func126,ntmps126;go_upto_region 1 with fail
   generalize w.alloc _=w0 at *;simp only [hs'.out];go_wp2_with fail;refine (HI.out _ V0).mono ?_;rintro e9 w9 ⟨rfl,bH⟩;replace bH:=bH.symm;subst bH;go_wp2_with fail;refine (HA'.out _ V0 F0).mono ?_;rintro e w1 ⟨rfl,hb1⟩;have k1:=k0.call hb1;have c1:=k1.cell;have V1:=V0.call hb1;have F1:af (fun k=>k=b) w w1:=F0.trans (.of_below hb1);clear c0;go_wp2_with fail;refine (HR.out _ V1).mono ?_;rintro e w2 ⟨rfl,V2',F2⟩;have k2:=F2.blk k1 (by omega);have c2:=k2.cell;clear c1;go_wp2_with fail;refine (HE'.out _ _ V2' (F1.trans F2)).mono ?_;rintro e w3 ⟨rfl,V3,F3⟩;go_wp2_with fail;go_ret;exact ⟨rfl,V3,(F1.trans F2).trans F3⟩
theorem lX (b call:Nat) (a n fr tk:Int) (s:Nat) (V:Vm) (w:World) (hV:aD w b V) (hc:call<7) (h1:ag w s 3 #[.int .i64 fr]) (h2:ag w (s+1) 3 #[.int .i64 tk]) (hb:s≠b∧s+1≠b) :
  Calls prog 126 #[.pointer (some ⟨b,0,none⟩),.int .i64 a,.int .i64 n,.agg #[.int .i64 call,.func (.func 182) #[] #[.pointer (some ⟨s,0,none⟩)],.func (.func 183) #[] #[.pointer (some ⟨s+1,0,none⟩)]]] w fun e w' =>
   e= .returned (.int .i64 (bJ V a n call fr tk).1)∧dw b (bJ V a n call fr tk).2 w w' :=
 Dm b call a n (fun g=>g.kind==fr&&!g.dz) (fun _=>iB tk) _ _ _ _ V w hV hc NN QX
  (fun p hp V' W hW hF=>X7 fr b p s V' W hW hp (hF.blk h1 hb.1))
  (fun p hp V' W hW hF=>aaY tk b p (s+1) V' W hW hp (hF.blk h2 hb.2))
theorem LJ (b:Nat) (a n:Int) (V:Vm) (w:World) (hV:aD w b V) :
  Calls prog 73 #[.pointer (some ⟨b,0,none⟩),.int .i64 a,.int .i64 n] w fun e w'=>e= .returned (.int .i64 (bJ V a n 0 0 1).1)∧dw b (bJ V a n 0 0 1).2 w w':=by
 have HB:=ae (lW 0 0 1 w);have HM:=ae (fun W s hW h1 h2 hb=>lX b 0 a n 0 1 s V W hW (by omega) h1 h2 hb);have hbs:=hV.lt;have hV':=ae hV;obtain ⟨re,hre⟩:=aj ((bJ V a n 0 0 1).1);obtain ⟨rV,yn⟩:=aj ((bJ V a n 0 0 1).2);simp only [hre,yn] at HM ⊢;unfold dw at HM ⊢;clear hre yn hV;go_enter func73,ntmps73;go_wp2_with fail;refine HB.out.mono ?_;rintro e9 w1 ⟨rfl,k1,k2,hb1⟩;have V1:=hV'.out.call hb1;have Gi:=ae (HM.out w1 _ V1 k1 k2 (by omega));clear HM HB k1 k2;go_wp2_with fail;refine Gi.out.mono ?_;rintro e8 w2 ⟨rfl,V2,F2⟩;go_wp2_with fail;go_ret;exact ⟨rfl,V2,(af.of_below hb1).trans F2⟩
theorem NP (b:Nat) (a n:Int) (V:Vm) (w:World) (hV:aD w b V) :
  Calls prog 59 #[.pointer (some ⟨b,0,none⟩),.int .i64 a,.int .i64 n] w fun e w'=>e= .returned (.int .i64 (bJ V a n 2 1 2).1)∧dw b (bJ V a n 2 1 2).2 w w':=by
 have HB:=ae (lW 2 1 2 w);have HM:=ae (fun W s hW h1 h2 hb=>lX b 2 a n 1 2 s V W hW (by omega) h1 h2 hb);have hbs:=hV.lt;have hV':=ae hV;obtain ⟨re,hre⟩:=aj ((bJ V a n 2 1 2).1);obtain ⟨rV,yn⟩:=aj ((bJ V a n 2 1 2).2);simp only [hre,yn] at HM ⊢;unfold dw at HM ⊢;clear hre yn hV;go_enter func59,ntmps59;go_wp2_with fail;refine HB.out.mono ?_;rintro e9 w1 ⟨rfl,k1,k2,hb1⟩;have V1:=hV'.out.call hb1;have Gi:=ae (HM.out w1 _ V1 k1 k2 (by omega));clear HM HB k1 k2;go_wp2_with fail;refine Gi.out.mono ?_;rintro e8 w2 ⟨rfl,V2,F2⟩;go_wp2_with fail;go_ret;exact ⟨rfl,V2,(af.of_below hb1).trans F2⟩
theorem QY (b:Nat) (a n:Int) (V:Vm) (w:World) (hV:aD w b V) :
  Calls prog 68 #[.pointer (some ⟨b,0,none⟩),.int .i64 a,.int .i64 n,.bool true] w fun e w'=>e= .returned (.int .i64 (bJ V a n 4 1 3).1)∧dw b (bJ V a n 4 1 3).2 w w':=by
 have HB:=ae (lW 4 1 3 w);have HM:=ae (fun W s hW h1 h2 hb=>lX b 4 a n 1 3 s V W hW (by omega) h1 h2 hb);have hbs:=hV.lt;have hV':=ae hV;obtain ⟨re,hre⟩:=aj ((bJ V a n 4 1 3).1);obtain ⟨rV,yn⟩:=aj ((bJ V a n 4 1 3).2);simp only [hre,yn] at HM ⊢;unfold dw at HM ⊢;clear hre yn hV;go_enter func68,ntmps68;go_wp2_with fail;refine HB.out.mono ?_;rintro e9 w1 ⟨rfl,k1,k2,hb1⟩;have V1:=hV'.out.call hb1;have Gi:=ae (HM.out w1 _ V1 k1 k2 (by omega));clear HM HB k1 k2;go_wp2_with fail;refine Gi.out.mono ?_;rintro e8 w2 ⟨rfl,V2,F2⟩;go_wp2_with fail;go_ret;exact ⟨rfl,V2,(af.of_below hb1).trans F2⟩
theorem ry (b:Nat) (a n:Int) (V:Vm) (w:World) (hV:aD w b V) :
  Calls prog 68 #[.pointer (some ⟨b,0,none⟩),.int .i64 a,.int .i64 n,.bool false] w fun e w'=>e= .returned (.int .i64 (bJ V a n 4 3 1).1)∧dw b (bJ V a n 4 3 1).2 w w':=by
 have HB:=ae (lW 4 3 1 w);have HM:=ae (fun W s hW h1 h2 hb=>lX b 4 a n 3 1 s V W hW (by omega) h1 h2 hb);have hbs:=hV.lt;have hV':=ae hV;obtain ⟨re,hre⟩:=aj ((bJ V a n 4 3 1).1);obtain ⟨rV,yn⟩:=aj ((bJ V a n 4 3 1).2);simp only [hre,yn] at HM ⊢;unfold dw at HM ⊢;clear hre yn hV;go_enter func68,ntmps68;go_wp2_with fail;refine HB.out.mono ?_;rintro e9 w1 ⟨rfl,k1,k2,hb1⟩;have V1:=hV'.out.call hb1;have Gi:=ae (HM.out w1 _ V1 k1 k2 (by omega));clear HM HB k1 k2;go_wp2_with fail;refine Gi.out.mono ?_;rintro e8 w2 ⟨rfl,V2,F2⟩;go_wp2_with fail;go_ret;exact ⟨rfl,V2,(af.of_below hb1).trans F2⟩
theorem QZ (b:Nat) (p:Int) (V:Vm) (w:World) (hV:aD w b V) :
  Calls prog 72 #[.pointer (some ⟨b,0,none⟩),.int .i64 p] w fun e w' =>
   e= .returned (.tuple #[.int .i64 (if 0≤p∧p<1024 then (V.pg p.toNat).kind else 0),.bool (if 0≤p∧p<1024 then (V.pg p.toNat).dz else false),.int .i64 (if 0≤p∧p<1024 then 0 else 7)])∧Below w.heap.size w w':=by
 have HI:=ae (uD b V w hV);by_cases c1:p<0
 ·have d1:decide (p<0)=true:=by simpa using c1
  have hn:¬(0≤p∧p<1024):=by omega
  rw [if_neg hn,if_neg hn,if_neg hn];clear hn;go_enter func72,ntmps72;go_wp2_with fail;refine HI.out.mono ?_;rintro e9 w9 ⟨rfl,bH⟩;replace bH:=bH.symm;subst bH;go_wp2_with fail
  (try simp only [Exit.inBlock,Exit.then]);refine bodyPost_ret (results_tmp3 rfl _ _ _) rfl ?_
  exact ⟨rfl,Below.refl _ _⟩
 have d1:decide (p<0)=false:=by simpa using c1
 by_cases c2:1024≤p
 ·have d2:decide (1024≤p)=true:=by simpa using c2
  have hn:¬(0≤p∧p<1024):=by omega
  rw [if_neg hn,if_neg hn,if_neg hn];clear hn;go_enter func72,ntmps72;go_wp2_with fail;refine HI.out.mono ?_;rintro e9 w9 ⟨rfl,bH⟩;replace bH:=bH.symm;subst bH;go_wp2_with fail
  (try simp only [Exit.inBlock,Exit.then]);refine bodyPost_ret (results_tmp3 rfl _ _ _) rfl ?_
  exact ⟨rfl,Below.refl _ _⟩
 have d2:decide (1024≤p)=false:=by simpa using c2
 have hn:0≤p∧p<1024:=by omega
 rw [if_pos hn,if_pos hn,if_pos hn];clear hn;obtain ⟨q,rfl⟩:∃q:Nat,p=(q:Int):=⟨p.toNat,by omega⟩;simp only [Int.toNat_natCast];have hq:q<1024:=by omega
 have hq2:(q:Int)<1024:=by omega
 obtain ⟨cs,A,n,cap,hk,hc,_⟩:=hV.ex;have c0:=(hk.cell (1+q*66)).trans (hc.kind hq);have c1:=(hk.cell (1+q*66+1)).trans (hc.BZ hq);generalize (V.pg q).kind=kd at *;generalize (V.pg q).dz=hg at *;have z0:=fun z:Ext w=>z.cell c0
 have z1:=fun z:Ext w=>z.cell c1
 clear c0 c1 hk hc;go_enter func72,ntmps72;go_wp2_with fail;refine HI.out.mono ?_;rintro e9 w9 ⟨rfl,bH⟩;replace bH:=bH.symm;subst bH;go_upto_region 5 with fail
 refine aF (by kernel_rfl) (by kernel_rfl) ?_
 repeat (go_big_quiet_step (fail))
 refine wpQuiet_nil ?_;rintro w1 ⟨⟨_,hw1⟩,rfl⟩;go_wp2_with fail
 (try simp only [Exit.inBlock,Exit.then]);refine bodyPost_ret (results_tmp3 rfl _ _ _) rfl ?_
 exact ⟨rfl,hw1⟩
theorem NQ:stS zeroCells71.toList=some (aM (.slice none 0 0) (fun _=>0) (fun _=>0)):=by kernel_rfl
theorem Ya (w:World) :
  Calls prog 17 #[.agg #[.slice none 0 0]] w (aha w):=by
 have hb0:=aV w (.cells #[.slice none 0 0] 28);have k0:=ag.new w 28 #[.slice none 0 0];have c0:=k0.cell;have HS:=ae (fun W=>FY none 0 0 [] W rfl (by omega) (fun _=>rfl) (fun k hk=>absurd hk (by simp [fl])));go_enter func17,ntmps17;go_wp2_with fail;refine (HS.out _).mono ?_;rintro e w1 hS;rcases hS with ⟨h0,_⟩|⟨_,v,rfl,hv⟩
 ·exact absurd (by decide) h0
 obtain ⟨A,cap,rfl,v1,v2,v3,v4,v5,hb1⟩:=hv;simp only [List.length_nil];have B1:=hb0.trans (hb1.mono hb0.size);have hB2:=B1.alloc B1.size (.cells (aM (.slice A 0 cap) (fun _=>0) (fun _=>0)).toArray 69);have hzs:=zeroCells71_size;have hzz:=NQ;obtain ⟨zc,hzc⟩:=aj (zeroCells71);rw [hzc] at hzs hzz;have hne:¬zc=#[]:=fun e=>by rw [e] at hzs;simp at hzs
 have hC:=ae (Uk hzz (.slice A 0 cap));have kz:=ag.new w1 69 (aM (.slice A 0 cap) (fun _=>0) (fun _=>0)).toArray;clear hzz c0 k0 v1 HS;unfold aM at hB2 kz;unfold gK aM;go_upto_region 4 with fail
 generalize w1.alloc _=w2 at *;have cz:=kz.cell;have hB3:=hB2.alloc hB2.size (.cells (jr (jr zc 0 [.bool true]) 67585 (aM (.slice A 0 cap) (fun _=>0) (fun _=>0))) 71);have kS:=ag.new w2 71 (jr (jr zc 0 [.bool true]) 67585 (aM (.slice A 0 cap) (fun _=>0) (fun _=>0)));have hbs:=hB2.size;go_wp2_with fail;go_ret2;refine ⟨w2.heap.size,rfl,?_,hbs,hB3⟩;refine ⟨_,A,0,cap,kS,hC.out,rfl,fun k hk=>absurd hk (by simp [fl,lg]),v5.1,fun g o e h=>absurd rfl h,⟨by decide,fun k _=>⟨Int.le_refl _,(by show (0:Int)≤1000000;decide)⟩,fun k _=>rfl⟩,fun g o e h=>absurd rfl h⟩
theorem wP (b:Nat) (a n:Int) (V:Vm) (w:World) (hV:aD w b V) :
  Calls prog 69 #[.pointer (some ⟨b,0,none⟩),.int .i64 a,.int .i64 n] w fun e w'=>e= .returned (.int .i64 (bJ V a n 1 1 0).1)∧dw b (bJ V a n 1 1 0).2 w w':=by
 have HB:=ae (lW 1 1 0 w);have HM:=ae (fun W s hW h1 h2 hb=>lX b 1 a n 1 0 s V W hW (by omega) h1 h2 hb);have hbs:=hV.lt;have hV':=ae hV;obtain ⟨re,hre⟩:=aj ((bJ V a n 1 1 0).1);obtain ⟨rV,yn⟩:=aj ((bJ V a n 1 1 0).2);simp only [hre,yn] at HM ⊢;unfold dw at HM ⊢;clear hre yn hV;go_enter func69,ntmps69;go_wp2_with fail;refine HB.out.mono ?_;rintro e9 w1 ⟨rfl,k1,k2,hb1⟩;have V1:=hV'.out.call hb1;have Gi:=ae (HM.out w1 _ V1 k1 k2 (by omega));clear HM HB k1 k2;go_wp2_with fail;refine Gi.out.mono ?_;rintro e8 w2 ⟨rfl,V2,F2⟩;go_wp2_with fail;go_ret;exact ⟨rfl,V2,(af.of_below hb1).trans F2⟩
theorem uV (b:Nat) (a n:Int) (V:Vm) (w:World) (hV:aD w b V) :
  Calls prog 61 #[.pointer (some ⟨b,0,none⟩),.int .i64 a,.int .i64 n] w fun e w'=>e= .returned (.int .i64 (bJ V a n 3 2 1).1)∧dw b (bJ V a n 3 2 1).2 w w':=by
 have HB:=ae (lW 3 2 1 w);have HM:=ae (fun W s hW h1 h2 hb=>lX b 3 a n 2 1 s V W hW (by omega) h1 h2 hb);have hbs:=hV.lt;have hV':=ae hV;obtain ⟨re,hre⟩:=aj ((bJ V a n 3 2 1).1);obtain ⟨rV,yn⟩:=aj ((bJ V a n 3 2 1).2);simp only [hre,yn] at HM ⊢;unfold dw at HM ⊢;clear hre yn hV;go_enter func61,ntmps61;go_wp2_with fail;refine HB.out.mono ?_;rintro e9 w1 ⟨rfl,k1,k2,hb1⟩;have V1:=hV'.out.call hb1;have Gi:=ae (HM.out w1 _ V1 k1 k2 (by omega));clear HM HB k1 k2;go_wp2_with fail;refine Gi.out.mono ?_;rintro e8 w2 ⟨rfl,V2,F2⟩;go_wp2_with fail;go_ret;exact ⟨rfl,V2,(af.of_below hb1).trans F2⟩
theorem qi (p:Int) (w:World):Calls prog 80 #[.int .i64 p] w fun e w'=>e= .returned (.bool (lD p))∧w'=w:=by
 unfold lD;by_cases c1:0≤p
 ·have d1:decide (0≤p)=true:=by simpa using c1
  by_cases c2:p<1024
  ·have d2:decide (p<1024)=true:=by simpa using c2
   have hr:Int.tmod p 16=p % 16:=Int.tmod_eq_emod_of_nonneg c1;by_cases c3:p % 16=0
   ·have d3:decide (p % 16=0)=true:=by simpa using c3
    have d4:(p % 16==0)=true:=by simpa using c3
    rw [d1,d2,d3];clear d3 c3;go_enter func80,ntmps80;go_wp2_with fail;go_ret;exact ⟨rfl,rfl⟩
   ·have d3:decide (p % 16=0)=false:=by simpa using c3
    have d4:(p % 16==0)=false:=by simpa using c3
    rw [d1,d2,d3];clear d3 c3;go_enter func80,ntmps80;go_wp2_with fail;go_ret;exact ⟨rfl,rfl⟩
  ·have d2:decide (p<1024)=false:=by simpa using c2
   rw [d1,d2];go_enter func80,ntmps80;go_wp2_with fail;go_ret;exact ⟨rfl,rfl⟩
 ·have d1:decide (0≤p)=false:=by simpa using c1
  rw [d1];go_enter func80,ntmps80;go_wp2_with fail;go_ret;exact ⟨rfl,rfl⟩
theorem LM:(prog.info? 106).map (·.size)=some 5:=by kernel_rfl
theorem Ed (b:Nat) (V:Vm) (w:World) (hV:aD w b V) (hk:aQ V) :
  Calls prog 41 #[.pointer (some ⟨b,0,none⟩)] w fun e w'=>(∃cs,uW cs 5∧e= .returned (.tuple #[.agg cs,.int .i64 0]))∧Below w.heap.size w w':=by
 have hb0:=aV w (.cells #[.int .i64 0,.int .i64 0,.int .i64 0,.int .i64 0,.int .i64 0] 106);have k0:=ag.new w 106 #[.int .i64 0,.int .i64 0,.int .i64 0,.int .i64 0,.int .i64 0];have HI:=ae (fun W h=>uD b V W h);have HF:=ae (fun (p:Int) W=>qi p W);have V0:=hV.call hb0;have hbs:=hV.lt;have hk':=ae hk;have hV':=ae hV;obtain ⟨s,hs⟩:=aj (w.heap.size);have hsz0:(w.alloc (.cells #[.int .i64 0,.int .i64 0,.int .i64 0,.int .i64 0,.int .i64 0] 106)).heap.size=s+1:=by rw [World.size_alloc,hs]
 rw [hs] at k0 hbs;clear hk hV;go_enter func41,ntmps41;go_upto_region 1 with fail
 generalize w.alloc _=w0 at *;go_wp2_with fail;refine (HI.out _ V0).mono ?_;rintro e9 w9 ⟨rfl,bH⟩;replace bH:=bH.symm;subst bH;go_upto_region 4 with fail
 have hb1:=hb0.alloc (by omega) (.cells #[.int .i64 0,.int .i64 0,.int .i64 0,.int .i64 0,.int .i64 0] 106);have Dp:=k0.alloc (.cells #[.int .i64 0,.int .i64 0,.int .i64 0,.int .i64 0,.int .i64 0] 106);have k4:=ag.new w0 106 #[.int .i64 0,.int .i64 0,.int .i64 0,.int .i64 0,.int .i64 0];have hsz1:(w0.alloc (.cells #[.int .i64 0,.int .i64 0,.int .i64 0,.int .i64 0,.int .i64 0] 106)).heap.size=s+2:=by rw [World.size_alloc,hsz0]
 rw [hsz0] at k4;clear V0 hb0 k0;generalize w0.alloc _=w1 at *;have k5:=ag.new w1 192 #[Value.pointer (some ⟨s+1,0,none⟩),Value.pointer (some ⟨s+1,1,none⟩),Value.pointer (some ⟨s+1,2,none⟩),Value.pointer (some ⟨s+1,3,none⟩)];rw [hsz1] at k5;have k24:=k4.alloc (.cells #[Value.pointer (some ⟨s+1,0,none⟩),Value.pointer (some ⟨s+1,1,none⟩),Value.pointer (some ⟨s+1,2,none⟩),Value.pointer (some ⟨s+1,3,none⟩)] 192);have k20:=Dp.alloc (.cells #[Value.pointer (some ⟨s+1,0,none⟩),Value.pointer (some ⟨s+1,1,none⟩),Value.pointer (some ⟨s+1,2,none⟩),Value.pointer (some ⟨s+1,3,none⟩)] 192);have B2:=hb1.alloc (by omega) (.cells #[Value.pointer (some ⟨s+1,0,none⟩),Value.pointer (some ⟨s+1,1,none⟩),Value.pointer (some ⟨s+1,2,none⟩),Value.pointer (some ⟨s+1,3,none⟩)] 192);go_wp2_with fail;generalize w1.alloc _=w2 at *;have hint:uW #[.int .i64 0,.int .i64 0,.int .i64 0,.int .i64 0,.int .i64 0] 5:=⟨rfl,fun j hj=>by
  rcases (show j=0∨j=1∨j=2∨j=3∨j=4 by omega) with rfl|rfl|rfl|rfl|rfl <;> exact ⟨0,rfl⟩⟩
 clear k4 Dp hb1 hsz0 hsz1
 go_loopw [16] (fun u wr=>∃i:Nat,i≤1024∧u= .int .i64 i∧Below w.heap.size w wr∧ag wr s 106 #[.int .i64 0,.int .i64 0,.int .i64 0,.int .i64 0,.int .i64 0]∧ag wr (s+2) 192 ([Value.pointer (some ⟨s+1,0,none⟩),Value.pointer (some ⟨s+1,1,none⟩),Value.pointer (some ⟨s+1,2,none⟩),Value.pointer (some ⟨s+1,3,none⟩)]).toArray∧∃cs,uW cs 5∧ag wr (s+1) 106 cs) (fun u _=>1024 - (intOf u).toNat)
 case atStart=>exact ⟨0,by omega,rfl,B2,k20,k5,_,hint,k24⟩
 case round =>
  clear k24 k20 B2 k5 hint;obtain ⟨i,hi,rfl,hB,h0,h5,cs,hcs,h4⟩:=hrel;by_cases hlt:i<1024
  ·have hil:(i:Int)<1024:=by omega
   have hlt':decide ((i:Int)<1024)=true:=by simpa using hil
   obtain ⟨cv,A,n,cap,Gj,hcv,_⟩:=(hV'.out.call hB).ex;obtain ⟨hk0,hk3⟩:=hk'.out i hlt;have e0:=(Gj.cell (1+i*66)).trans (hcv.kind hlt);generalize (V.pg i).kind=kd at *;obtain ⟨d,rfl⟩:∃d:Nat,kd=(d:Int):=⟨kd.toNat,by omega⟩;have hd4:(d:Int)<4:=by omega
   have e1:wr.cell? ⟨s+2,d,none⟩=some (.pointer (some ⟨s+1,d,none⟩)):=by
    rw [h5.cell];rcases (show d=0∨d=1∨d=2∨d=3 by omega) with rfl|rfl|rfl|rfl <;> rfl
   obtain ⟨z,hz⟩:=hcs.at_ d (by omega);have e2:=(h4.cell d).trans hz;have f2:=h4.frozen d;have AY:=h4.aO d (.int .i64 (wrap64 (z+1)));have hcs':=hcs.set d (wrap64 (z+1));have F4:=af.setCell (T:=fun k=>k=s+1) (p:=⟨s+1,d,none⟩) (af.refl _ wr) (fun _=>rfl) (.int .i64 (wrap64 (z+1)));go_upto_region 9 with fail
   generalize wr.setCell ⟨s+1,d,none⟩ _=w3 at *;clear e0 e1 e2 f2 Gj hcv hcs h4 hz;have B3:=hB.trans (F4.below (by have:=hB.size;omega) (fun k hk e=>by omega));have h03:=F4.blk h0 (by show ¬s=s+1;omega);have h53:=F4.blk h5 (by show ¬s+2=s+1;omega);clear h0 h5 F4 hB;generalize cs.setIfInBounds d _=cs at *;obtain ⟨cv,A,n,cap,Gj,hcv,_⟩:=(hV'.out.call B3).ex;have e0:=(Gj.cell (1+i*66+1)).trans (hcv.BZ hlt);obtain ⟨z4,Yb⟩:=hcs'.at_ 4 (by omega);have e2:=(AY.cell 4).trans Yb;have f2:=AY.frozen 4;have Yc:=AY.aO 4 (.int .i64 (wrap64 (z4+1)));have Q0:=hcs'.set 4 (wrap64 (z4+1));have F4:=af.setCell (T:=fun k=>k=s+1) (p:=⟨s+1,4,none⟩) (af.refl _ w3) (fun _=>rfl) (.int .i64 (wrap64 (z4+1)));clear Gj hcv;cases hh:(V.pg i).dz with
   | false =>
    rw [hh] at e0;clear hh;go_wp2_with fail;go_roundw
    case rel=>exact ⟨i+1,by omega,by go_num,B3,h03,h53,_,hcs',AY⟩
    case measure=>simp [intOf];omega
   | true =>
    rw [hh] at e0;clear hh;have LP:=ae (HF.out (i:Int) w3);cases hf:lD (i:Int) with
    | false =>
     rw [hf] at LP;clear hf;go_wp2_with fail;refine LP.out.mono ?_;rintro e9 w9 ⟨rfl,bH⟩;replace bH:=bH.symm;subst bH;go_wp2_with fail;go_roundw
     case rel=>exact ⟨i+1,by omega,by go_num,B3,h03,h53,_,hcs',AY⟩
     case measure=>simp [intOf];omega
    | true =>
     rw [hf] at LP;clear hf;go_wp2_with fail;refine LP.out.mono ?_;rintro e9 w9 ⟨rfl,bH⟩;replace bH:=bH.symm;subst bH;have B4:=B3.trans (F4.below (by have:=B3.size;omega) (fun k hk e=>by omega));have h04:=F4.blk h03 (by show ¬s=s+1;omega);have h54:=F4.blk h53 (by show ¬s+2=s+1;omega);go_wp2_with fail;go_roundw
     case rel=>exact ⟨i+1,by omega,by go_num,B4,h04,h54,_,Q0,Yc⟩
     case measure=>simp [intOf];omega
  ·obtain rfl:i=1024:=by omega
   have hlt':decide (((1024:Nat):Int)<1024)=false:=by simp
   have hra:wr.rangeAt (s+1) 0 cs.toList:=fun j v hj=>by
    rw [Nat.zero_add,h4.cell];simpa using hj
   have hsz:=hcs.size;have ht:wr.there s 0 cs.size:=by rw [hsz];exact dP h0 0 5 (by simp)
   have mg:=ag.puts (g:=s) (t:=106) (w:=wr) (cs:=#[]) cs.toList 0 wr _ h0;rw [eB (by rw [Array.length_toList,hsz];rfl),Array.toArray_toList] at mg;have hF9:=af.puts (T:=fun k=>k=s) rfl cs.toList 0 wr wr (af.refl _ _);have hone:=Go.all_oneCell_toArray (hcs.one);rw [Array.toArray_toList] at hone;have jL:(prog.info? 106).map (·.size)=some cs.size:=by rw [hsz];exact LM
   go_wp2_with (first
    | (refine wpList_load_mid rfl 106 (.tmp 4) rfl (s+1) 0 rfl cs.toList _ hra underlying106 rfl (by rw [Array.length_toList,hsz];kernel_rfl) ?_;rw [Array.toArray_toList])
    | (refine wpList_store_mid rfl 106 (.tmp 2) (.tmp 48) rfl s 0 cs rfl rfl ht jL hone ?_))
   generalize World.setCells wr s 0 _=w9 at *;have sj:w9.rangeAt s 0 cs.toList:=fun j v hj=>by
    rw [Nat.zero_add,mg.cell];simpa using hj
   have EL:=run_loadVar_mid (P:=prog) w9 s 0 106 cs.toList _ sj underlying106 rfl (by rw [Array.length_toList,hsz];kernel_rfl);rw [Array.toArray_toList] at EL;refine bodyPost_ret (v:=.tuple #[.agg cs,.int .i64 0]) ?_ rfl ?_
   ·exact fZ results41 rfl EL
   exact ⟨⟨_,hcs,rfl⟩,hB.trans (hF9.below (by have:=hB.size;omega) (fun k hk e=>by omega))⟩
theorem su {P:Program} {ops:Array Oper} {rest:List Oper} {op:Oper} {a:Act} {w:World} {Q:Exit→Act→World→Prop} (hgd:op.guard=none) (d:Nat) (hd:op.dst=some d) (t:TypeId) (parts:List (Nat×Operand)) (ho:op.op= .build t parts.toArray)
  (vals:List (Nat×Value)) (hv:parts.map (fun x=>(x.1,a.eval x.2))=vals) (cells:Array Value) (hb:P.built t vals=some cells) (h:wpList P ops Q rest (a.put (some d) (.agg cells)) w):wpList P ops Q (op::rest) a w :=
 wpList_plain hgd fun K hK=>by
  have hb':P.built t (parts.toArray.map fun (i,x)=>(i,a.eval x)).toList=some cells:=by
   rw [←hb,←hv];simp
  unfold Oper.wp execOp;simp only [ho,Sem.run_bind,run_build w t _ cells hb',Result.andThen_ok];show K (a.put op.dst _) w;rw [hd];exact hK _ _ h
theorem Gl {us eG:List Sp} (hv:∀y∈us,bB y=true) (h:eG.Perm us) (hs:eG.Pairwise (fun a b=>a.1≤b.1)):oF eG=setOf us :=
 XN hv h hs (ng us) (fun q=>wQ hv q)
def NU:Go.Shelf.Ren:=⟨fun|6=>184|15=>207|14=>206|28=>230|29=>231|20=>222|21=>223|22=>224|23=>225|24=>226|25=>227|26=>228|27=>229|46=>241|47=>242|48=>243|49=>244|50=>245|57=>247|n=>n,fun|22=>41|24=>140|25=>250|3=>3|39=>263|0=>0|53=>277|55=>279|4=>4|46=>271|45=>270|50=>153|5=>5|9=>9|66=>287|70=>191|76=>293|77=>242|n=>n,fun|n=>n⟩
theorem aa1:Go.Proofs.SlLaysF0.n6 prog NU:={
 mixed:=by kernel_rfl
 f6:=⟨Tryz.f184.name,by decide,func184.trans (congrArg some (by kernel_rfl))⟩
 f14:=⟨Tryz.f206.name,by decide,func206.trans (congrArg some (by kernel_rfl))⟩
 f15:=func207.trans (congrArg some (by kernel_rfl))
 f20:=⟨Tryz.f222.name,by decide,func222.trans (congrArg some (by kernel_rfl))⟩
 f21:=⟨Tryz.f223.name,by decide,func223.trans (congrArg some (by kernel_rfl))⟩
 f22:=⟨Tryz.f224.name,by decide,func224.trans (congrArg some (by kernel_rfl))⟩
 f23:=⟨Tryz.f225.name,by decide,func225.trans (congrArg some (by kernel_rfl))⟩
 f24:=⟨Tryz.f226.name,by decide,func226.trans (congrArg some (by kernel_rfl))⟩
 f25:=⟨Tryz.f227.name,by decide,func227.trans (congrArg some (by kernel_rfl))⟩
 f26:=⟨Tryz.f228.name,by decide,func228.trans (congrArg some (by kernel_rfl))⟩
 f27:=⟨Tryz.f229.name,by decide,func229.trans (congrArg some (by kernel_rfl))⟩
 f28:=func230.trans (congrArg some (by kernel_rfl))
 f29:=func231.trans (congrArg some (by kernel_rfl))
 f46:=⟨Tryz.f241.name,by decide,func241.trans (congrArg some (by kernel_rfl))⟩
 f47:=func242.trans (congrArg some (by kernel_rfl))
 f48:=func243.trans (congrArg some (by kernel_rfl))
 f49:=⟨Tryz.f244.name,by decide,func244.trans (congrArg some (by kernel_rfl))⟩
 f50:=⟨Tryz.f245.name,by decide,func245.trans (congrArg some (by kernel_rfl))⟩
 f57:=⟨Tryz.f247.name,by decide,func247.trans (congrArg some (by kernel_rfl))⟩
 t0:=underlying0
 a0:=Tryz.isAgg0
 z0:=Tryz.sizeOf0
 v0:=Tryz.zeroValue0
 t3:=underlying3
 a3:=Tryz.isAgg3
 z3:=Tryz.sizeOf3
 v3:=Tryz.zeroValue3
 t4:=underlying4
 a4:=Tryz.isAgg4
 z4:=Tryz.sizeOf4
 v4:=Tryz.zeroValue4
 t5:=underlying5
 a5:=Tryz.isAgg5
 z5:=Tryz.sizeOf5
 v5:=Tryz.zeroValue5
 t9:=underlying9
 a9:=Tryz.isAgg9
 z9:=Tryz.sizeOf9
 v9:=Tryz.zeroValue9
 t22:=underlying41
 a22:=Tryz.isAgg41
 z22:=Tryz.sizeOf41
 v22:=Tryz.zeroValue41
 t25:=underlying250
 a25:=Tryz.isAgg250
 z25:=Tryz.sizeOf250
 v25:=Tryz.zeroValue250
 t39:=underlying263
 a39:=Tryz.isAgg263
 z39:=Tryz.sizeOf263
 v39:=Tryz.zeroValue263
 t45:=underlying270
 a45:=Tryz.isAgg270
 z45:=Tryz.sizeOf270
 v45:=Tryz.zeroValue270
 t46:=underlying271
 a46:=Tryz.isAgg271
 z46:=Tryz.sizeOf271
 v46:=Tryz.zeroValue271
 t50:=underlying153
 a50:=Tryz.isAgg153
 z50:=Tryz.sizeOf153
 v50:=Tryz.zeroValue153
 t53:=underlying277
 a53:=Tryz.isAgg277
 z53:=Tryz.sizeOf277
 v53:=Tryz.zeroValue277
 t55:=underlying279
 a55:=Tryz.isAgg279
 z55:=Tryz.sizeOf279
 v55:=Tryz.zeroValue279
 t66:=underlying287
 a66:=Tryz.isAgg287
 z66:=Tryz.sizeOf287
 v66:=Tryz.zeroValue287
 t70:=underlying191
 a70:=Tryz.isAgg191
 z70:=Tryz.sizeOf191
 v70:=Tryz.zeroValue191
 t76:=underlying293
 a76:=Tryz.isAgg293
 z76:=Tryz.sizeOf293
 v76:=Tryz.zeroValue293
 t77:=underlying242
 a77:=Tryz.isAgg242
 z77:=Tryz.sizeOf242
 v77:=Tryz.zeroValue242 }
def NV:Go.Shelf.Ren:=⟨fun|4=>188|n=>n,fun|22=>41|25=>140|3=>3|4=>4|9=>9|20=>20|0=>0|2=>3|n=>n,fun|n=>n⟩
theorem Um:Go.Proofs.Lays8.n4 prog NV:={
 mixed:=by kernel_rfl
 f4:=⟨Tryz.f188.name,by decide,func188.trans (congrArg some (by kernel_rfl))⟩
 t0:=underlying0
 a0:=Tryz.isAgg0
 z0:=Tryz.sizeOf0
 v0:=Tryz.zeroValue0
 t3:=underlying3
 a3:=Tryz.isAgg3
 z3:=Tryz.sizeOf3
 v3:=Tryz.zeroValue3
 t4:=underlying4
 a4:=Tryz.isAgg4
 z4:=Tryz.sizeOf4
 v4:=Tryz.zeroValue4
 t9:=underlying9
 a9:=Tryz.isAgg9
 z9:=Tryz.sizeOf9
 v9:=Tryz.zeroValue9
 t20:=underlying20
 a20:=Tryz.isAgg20
 z20:=Tryz.sizeOf20
 v20:=Tryz.zeroValue20
 t22:=underlying41
 a22:=Tryz.isAgg41
 z22:=Tryz.sizeOf41
 v22:=Tryz.zeroValue41 }
open Go.Sort
def sw (x:Sp):List Value:=[.int .i64 x.1,.int .i64 x.2]
theorem Ef (us:List Sp):(flatK sw 2 us.toArray).toList=ax us:=by
 apply List.ext_getElem?;intro t;have hl:=dB us;by_cases ht:t<us.length*2
 ·have h1:(flatK sw 2 us.toArray).toList[t]? = some ((sw us.toArray[t / 2]!)[t % 2]!):=by
   rw [←get_flatK sw 2 us.toArray t (by simpa using ht)];rw [Array.getElem?_toList,getElem!_pos _ t (by simpa using ht),Array.getElem?_eq_getElem (by simpa using ht)]
  rw [h1];have hk:t / 2<us.length:=by omega
  have hat:=qd us (t / 2) hk;have hg:us.toArray[t / 2]! = us.getD (t / 2) (0,0):=by
   rw [List.getD_eq_getElem?_getD,List.getElem?_eq_getElem hk,getElem!_pos _ _ (by simpa using hk)];simp
  rw [hg];rcases Nat.mod_two_eq_zero_or_one t with h|h
  ·rw [h,show t=t / 2*2 by omega,hat.1];simp [sw]
  ·rw [h]
   have e:t=t / 2*2+1:=by omega
   generalize t / 2=k at *;subst e;rw [hat.2];simp [sw]
 ·rw [List.getElem?_eq_none (by simp;omega),List.getElem?_eq_none (by omega)]
theorem Q4 {w:World} {g m:Nat} {os:Array Obj} {cur:Array Value} {e:TypeId} {fr:Nat×Nat} (F:Array Value) (hb:w.heap[g]? = some (.cells cur e fr)) :
  (grow (putRow id (Sort.ahead w m) g 0 F) os).heap[g]? = some (.cells (putCells id 0 F cur) e fr):=by
 have hg:g<w.heap.size:=(Array.getElem?_eq_some_iff.1 hb).1;rw [heap_grow_old _ _ (by simpa using hg)];simp [putRow,mapBlock,Sort.ahead,Array.getElem?_modify,hb,onCells]
theorem Jn {w:World} {g m:Nat} {os:Array Obj} (F:Array Value):w.grownBy (grow (putRow id (Sort.ahead w m) g 0 F) os) (some g):=by
 refine ⟨rfl,rfl,rfl,by simp,fun k hk hne=>?_⟩;rw [heap_grow_old _ _ (by simpa using hk)];have:g≠k:=fun e=>hne (by rw [e])
 simp [putRow,mapBlock,Sort.ahead,Array.getElem?_modify,this]
theorem Q5 (cur F:Array Value) (h:F.size≤cur.size):(putCells id 0 F cur).toList.take F.size=F.toList:=by
 apply List.ext_getElem?;intro j;by_cases hj:j<F.size
 ·rw [List.getElem?_take_of_lt hj,Array.getElem?_toList]
  simp [putCells,hj,show j<cur.size by omega]
 ·rw [List.getElem?_take_eq_none (by omega),List.getElem?_eq_none (by simp;omega)]
theorem Q6 {w:World} {base g n cap m:Nat} {e:TypeId} {os:Array Obj} {xs:List Value} (F:Array Value) (hF:F.size=n*2) (h:w.ownsRow base e 2 (.slice (some ⟨g,0,none⟩) n cap) n xs) :
  (grow (putRow id (Sort.ahead w m) g 0 F) os).ownsRow base e 2 (.slice (some ⟨g,0,none⟩) n cap) n F.toList:=by
 rcases h.2 with ⟨h0,_⟩|⟨g',cap',cur,hv,hbase,hb,h1,h2,h3,_⟩
 ·cases h0
 cases hv;exact ⟨by simpa using hF,.inr ⟨g,cap,_,rfl,hbase,Q4 _ hb,h1,h2,by simp [putCells,h3],by rw [←hF];exact Q5 cur F (by rw [hF,h3];exact Nat.mul_le_mul_right 2 h1)⟩⟩
theorem Q7 {w:World} {base g n cap:Nat} {e:TypeId} {us:List Sp} (hn:us.length=n) (h:w.ownsRow base e 2 (.slice (some ⟨g,0,none⟩) n cap) n (ax us)):HoldsK sw 2 w g 0 us.toArray:=by
 intro j hj;have hj':j<us.length*2:=by simpa using hj
 rw [Nat.zero_add];refine ⟨?_,h.frozenAt j⟩;rw [h.cellAt j (by omega),←Ef,Array.getElem?_toList,getElem!_pos _ j hj,Array.getElem?_eq_getElem hj];rfl
theorem Ye (blk off size:Nat) (w:World):CmpLays prog 185 #[] sw 2 (fun x y=>xE x.1 y.1) blk off size w :=
 fun m os dk _ x y=>(XK x y _).mono (by rintro e w' ⟨he,rfl⟩;exact ⟨he,0,_,by rw [alloc_eq_grow,alloc_eq_grow,grow_grow];rfl⟩)
theorem Un (x y:Sp):ltOf (fun x y:Sp=>xE x.1 y.1) x y=decide (x.1<y.1):=by
 unfold ltOf xE;by_cases h1:x.1<y.1
 ·simp [h1]
 ·by_cases h2:y.1<x.1 <;> simp [h1,h2]
theorem aey:SWO (ltOf fun x y:Sp=>xE x.1 y.1) where
 irrefl x:=by rw [Un];simp
 trans x y z h1 h2:=by rw [Un] at *;simp at *;omega
 ntrans x y z h1 h2:=by rw [Un] at *;simp at *;omega
theorem NW:∀args w,(callFunc 185 args).run prog w= .ok (.enter 185 args) w:=enters_of func185 (by kernel_rfl) rfl
theorem Jo (base:Nat) (v:Value) (us:List Sp) (w:World) (hlen:us.length≤100000) (hbase:base≤w.heap.size) (hne:us≠[]) (hrow:w.ownsRow base 140 2 v us.length (ax us)) :
  Calls prog 184 #[v,.func (.func 185) #[] #[]] w fun e w'=>e= .returned (.tuple #[])∧∃eG:List Sp,eG.Perm us∧eG.Pairwise (fun a b=>a.1≤b.1)∧w'.ownsRow base 140 2 v us.length (ax eG)∧Go.RowKit.Below base w w':=by
 have hpos:0<us.length:=List.length_pos_iff.2 hne;obtain ⟨g,cap,rfl,hg1,hg2⟩:=hrow.form hpos;have hcon:=AnyQ.slices_SortFunc aa1 2 Tryz.isAgg140 Tryz.sizeOf140 sw (fun _=>rfl) (fun x v hv=>by simp [sw] at hv;rcases hv with rfl|rfl <;> rfl) (fun x y=>xE x.1 y.1) aey 185 #[] g 0 cap us.toArray w NW (Ye g 0 us.toArray.size w) (Q7 rfl hrow) hg2 (by simp;omega);change Calls prog 184 _ _ _ at hcon;rw [List.size_toArray] at hcon;refine hcon.mono ?_;rintro e w' ⟨rfl,d',n,os,hp,hs,rfl⟩;obtain ⟨eG⟩:=d';obtain ⟨hp1,_,hp2⟩:=hp;simp only [List.size_toArray] at hp1 hp2;refine ⟨rfl,eG,by
  have h1:(Array.extract eG.toArray 0 us.length).toList=eG:=by simp [←hp1]
  have h2:(Array.extract us.toArray 0 us.length).toList=us:=by simp
  rw [h1,h2] at hp2;exact hp2,?_,?_,?_⟩
 ·rw [List.pairwise_iff_getElem]
  intro i j hi hj hij;have:=hs i j (Nat.zero_le _) hij (by omega);rw [Un,getElem!_pos _ j (by simpa using hj),getElem!_pos _ i (by simpa using hi)] at this;simpa using this
 ·have:=Q6 (m:=n) (os:=os) (flatK sw 2 eG.toArray) (by simp [hp1]) hrow
  rw [Ef] at this;exact this
 ·exact (Go.RowKit.Below.refl base w).grown (Jn _) hbase (fun j hj=>by cases hj;exact hg1)
theorem LQ (A:Option Addr) (cap:Nat) (w:World):Calls prog 222 #[.slice A 0 cap,.int .i64 0,.int .i64 0,.func (.func 185) #[] #[]] w fun e w'=>e= .returned (.tuple #[])∧w'=w:=by
 go_enter func222,ntmps222;go_wp2_with fail
 go_loopw [8] (fun a wr=>a= .int .i64 1∧wr=w) (fun _ _=>0)
 case atStart=>exact ⟨rfl,rfl⟩
 case round =>
  obtain ⟨rfl,hw⟩:=hrel;have hw':=hw.symm;clear hw;subst hw';go_wp2_with fail
  go_end0
  exact ⟨rfl,rfl⟩
theorem LU (A:Option Addr) (cap:Nat) (w:World):Calls prog 206 #[.slice A 0 cap,.int .i64 0,.int .i64 0,.int .i64 0,.func (.func 185) #[] #[]] w fun e w'=>e= .returned (.tuple #[])∧w'=w:=by
 have HI:=ae (LQ A cap w);go_enter func206,ntmps206;go_wp2_with fail
 go_loopw [1,2] (fun a b wr=>a= .int .i64 0∧b= .int .i64 0∧wr=w) (fun _ _ _=>0)
 case atStart=>exact ⟨rfl,rfl,rfl⟩
 case round =>
  obtain ⟨rfl,rfl,hw⟩:=hrel;have hw':=hw.symm;clear hw;subst hw';go_wp2_with fail;refine HI.out.mono ?_;rintro e w1 ⟨rfl,hw⟩;have hw':=hw.symm;clear hw;subst hw';go_wp2_with fail;exact bodyPost_ret (results_none (by rfl) _ _ _) rfl ⟨rfl,rfl⟩
theorem Jp (A:Option Addr) (cap:Nat) (w:World):Calls prog 184 #[.slice A 0 cap,.func (.func 185) #[] #[]] w fun e w'=>e= .returned (.tuple #[])∧w'=w:=by
 have HI:=ae (LU A cap w);have HL:=ae (fun W=>XI 0 W (by omega) (by omega));have e0:((Lib.bitLen (0:Int).toNat:Nat):Int)=0:=by decide
 rw [e0] at HL;go_enter func184,ntmps184
 go_wp2_with (go_at_call 207;refine (HL.out _).mono ?_;rintro e w' ⟨rfl,rfl⟩)
 refine HI.out.mono ?_;rintro e w1 ⟨rfl,hw⟩;have hw':=hw.symm;clear hw;subst hw';go_wp2_with fail
 go_end0
 exact ⟨rfl,rfl⟩
theorem VK (base:Nat) (v:Value) (us:List Sp) (w:World) (hlen:us.length≤100000) (hbase:base≤w.heap.size) (hrow:w.ownsRow base 140 2 v us.length (ax us)) :
  Calls prog 184 #[v,.func (.func 185) #[] #[]] w fun e w'=>e= .returned (.tuple #[])∧∃eG:List Sp,eG.Perm us∧eG.Pairwise (fun a b=>a.1≤b.1)∧w'.ownsRow base 140 2 v us.length (ax eG)∧Below base w w':=by
 by_cases hne:us=[]
 ·subst hne
  obtain ⟨A,cap,rfl⟩:=ik hrow rfl;refine (Jp A cap w).mono ?_;rintro e w' ⟨rfl,rfl⟩;exact ⟨rfl,[],List.Perm.refl _,List.Pairwise.nil,hrow,Below.refl _ _⟩
 ·exact Jo base v us w hlen hbase hne hrow
theorem NY (base:Nat) (v:Value) (us:List Sp) (w:World) (hv:∀y∈us,bB y=true) (hlen:us.length≤100000) (hbase:base≤w.heap.size) (hrow:w.ownsRow base 140 2 v us.length (ax us)) :
  Calls prog 128 #[v] w fun e w'=>∃(eG:List Sp) (v':Value),eG.Perm us∧eG.Pairwise (fun a b=>a.1≤b.1)∧e= .returned v'∧w'.ownsRow w.heap.size 140 2 v' (oF eG).length (ax (oF eG))∧Below base w w' :=
 aaQ base v us w hv hlen hbase (VK base v us w hlen hbase hrow) hrow
theorem VL (n:Nat) (hn:n≤100000) (w:World) :
  Calls prog 188 #[.slice none 0 0,.int .i64 n] w fun e w'=>∃v,e= .returned v∧w'.ownsRow w.heap.size 140 2 v 0 (ax [])∧Below w.heap.size w w':=by
 obtain ⟨i0,hi,hz0,hz1,hz2⟩:=dW;by_cases h0:n=0
 ·subst h0
  have h:=Any8.slices_Grow_room Um none 0 0 0 w (by omega) (by omega) (by omega) (by omega);change Calls prog 188 _ _ _ at h;refine h.mono ?_;rintro e w' ⟨rfl,rfl⟩;exact ⟨_,rfl,World.ownsRow_nil _ _ _ _,Below.refl _ _⟩
 ·have h:=Any8.slices_Grow_grow Um i0 (.agg #[.int .i64 0,.int .i64 0]) hi hz0 (by omega) none 0 0 n [] w (by omega) (by omega) (by rw [hz2];omega) (by omega) (by simp) (fun _=>rfl) (fun a h=>by cases h)
  change Calls prog 188 _ _ _ at h;refine h.mono ?_;rintro e w' ⟨rfl,rfl⟩;refine ⟨_,rfl,?_,?_⟩
  ·exact World.ownsRow_made w.drew _ _ (Nat.le_refl _) (grownCap_le_maxLen _ _ _ _ (by unfold maxLen;omega)) (by
    have hg:=grownCap_ge w (0+n) 0 140;have e1:(Value.agg #[.int .i64 0,.int .i64 0]).cells.size=2:=rfl;simp only [Array.size_append,size_zeroCells,e1,List.size_toArray,List.length_nil];change 0+(0+n - 0)*2+(grownCap w (0+n) 0 140 - (0+n))*2=grownCap w (0+n) 0 140*2;generalize grownCap w (0+n) 0 140=c at *;omega)
  ·exact ((Below.refl w.heap.size w).drew).alloc (Nat.le_refl _) _
theorem Fq {w:World} {A:Option Addr} {us:List Sp} (h:RU w w.heap.size A us):(A=none∧us=[])∨∃ad,A=some ad∧∀(j:Nat) (u:Value),(ax us)[j]? = some u→w.cell? (ad.add j)=some u:=by
 by_cases h0:us=[]
 ·subst h0
  cases A with
  | none=>exact .inl ⟨rfl,rfl⟩
  | some ad=>exact .inr ⟨ad,rfl,fun j u hu=>by simp [ax] at hu⟩
 ·obtain ⟨b,o,rfl,_⟩:=RU.at_' h (k:=0) (List.length_pos_iff.2 h0)
  refine .inr ⟨⟨b,o,none⟩,rfl,fun j u hu=>?_⟩;have hl:=dB us;have hj:j<us.length*2:=by
   rw [←hl];exact (List.getElem?_eq_some_iff.1 hu).1
  obtain ⟨k,hk⟩:∃k,j=k*2∨j=k*2+1:=⟨j / 2,by omega⟩;obtain ⟨b',o',e,_,h1,h2⟩:=RU.at_' h (k:=k) (by omega);cases e;have hat:=qd us k (by omega);rw [Addr.add_lit];rcases hk with rfl|rfl
  ·rw [hat.1] at hu
   rw [←hu];exact h1
  ·rw [hat.2] at hu
   rw [←hu];exact h2
theorem rC (us:List Sp):∀u∈ax us,u.oneCell'=true:=by
 intro u hu;simp only [ax,List.mem_flatMap,List.mem_cons,List.not_mem_nil,or_false] at hu;obtain ⟨x,_,rfl|rfl⟩:=hu <;> rfl
theorem EN (us vs:List Sp):ax (us++vs)=ax us++ax vs:=by simp [ax]
theorem Jq (A1 A2:Option Addr) (n1 c1 n2 c2:Nat) (us vs:List Sp) (B:Nat) (w:World) (hn1:us.length=n1) (hm1:n1≤50000) (hr1:RU w w.heap.size A1 us) (hn2:vs.length=n2) (hm2:n2≤50000) (hr2:RU w w.heap.size A2 vs)
  (kB:ag w B 41 #[.slice A1 n1 c1,.slice A2 n2 c2]) :
  Calls prog 129 #[.slice (some ⟨B,0,none⟩) 2 2] w fun e w'=>∃v,e= .returned v∧w'.ownsRow w.heap.size 140 2 v (us++vs).length (ax (us++vs))∧Below w.heap.size w w':=by
 have z0:=kB.cell;have h1:=ae hn1;have h2:=ae hn2;clear hn1 hn2;go_enter func129,ntmps129;go_wp2_with fail
 go_loopw [3,11] (fun s i wr=>wr=w∧((i= .int .i64 0∧s= .int .i64 0)∨(i= .int .i64 1∧s= .int .i64 n1)∨(i= .int .i64 2∧s= .int .i64 ((n1:Int)+n2)))) (fun _ i _=>2 - (intOf i).toNat)
 case atStart=>exact ⟨rfl,.inl ⟨rfl,rfl⟩⟩
 case round =>
  obtain ⟨hw,hrel⟩:=hrel;have hw':=hw.symm;clear hw;subst hw';rcases hrel with ⟨rfl,rfl⟩|⟨rfl,rfl⟩|⟨rfl,rfl⟩
  ·go_wp2_with fail
   exact ⟨⟨trivial,by simp⟩,by simp [intOf]⟩
  ·go_wp2_with fail
   exact ⟨⟨trivial,by simp⟩,by simp [intOf]⟩
  ·have HG:=ae (VL (n1+n2) (by omega) w)
   rw [Int.natCast_add] at HG;go_wp2_with fail;refine HG.out.mono ?_;rintro e w1 ⟨v,rfl,hrow,hb1⟩;have hbs:=hb1.size;obtain ⟨i0,hi,hy0,hy1,hy2⟩:=dW;go_wp2_with fail
   go_loopw [6,27] (fun v i wq=>Below w.heap.size w wq∧((i= .int .i64 0∧wq.ownsRow w.heap.size 140 2 v 0 (ax []))∨(i= .int .i64 1∧wq.ownsRow w.heap.size 140 2 v n1 (ax us))∨(i= .int .i64 2∧wq.ownsRow w.heap.size 140 2 v (n1+n2) (ax us++ax vs)))) (fun _ i _=>2 - (intOf i).toNat)
   case atStart=>exact ⟨hb1,.inl ⟨rfl,hrow⟩⟩
   case round =>
    obtain ⟨hB,hrel⟩:=hrel;have kq:=kB.call hB;have zq:=kq.cell;have oV:=hB.size;rcases hrel with ⟨rfl,hr⟩|⟨rfl,hr⟩|⟨rfl,hr⟩
    ·have r1q:=hr1.on hB
     rcases Fq r1q with ⟨ha,hu⟩|⟨ad,ha,hnews⟩
     ·subst ha;subst hu
      have hn0:n1=0:=by rw [←h1.out];rfl
      subst hn0
      go_wp2_with (refine mG rfl (.tmp 31) (.tmp 32) 41 rfl w.heap.size 140 i0 2 c1 underlying41 hi _ 0 (ax []) rfl hr rfl ?_)
      exact ⟨⟨_,_,_,_,_,_,_,_,_,_,⟨hB,.inr (.inl ⟨rfl,hr⟩)⟩,by simp;exact ⟨rfl,rfl,rfl,rfl,rfl,rfl,rfl,rfl⟩⟩,by simp [intOf]⟩
     ·subst ha
      go_wp2_with (refine wpList_append_own _ rfl (.tmp 31) (.tmp 32) 41 rfl w.heap.size 140 i0 (.agg #[.int .i64 0,.int .i64 0]) 2 16 underlying41 hi hy0 hy1 hy2 rfl (by decide) _ 0 (ax []) rfl hr ad n1 c1 (ax us) rfl (by rw [dB,h1.out]) hnews (rC us) (by unfold maxLen;omega) (by omega) oV ?_;intro v' w3 hown' hgrow _)
      exact ⟨⟨hB.grown hgrow oV (fun j hj=>(hr.lt j hj).1),.inr (.inl ⟨rfl,by simpa [ax] using hown'⟩)⟩,by simp [intOf]⟩
    ·have r2q:=hr2.on hB
     rcases Fq r2q with ⟨ha,hu⟩|⟨ad,ha,hnews⟩
     ·subst ha;subst hu
      have hn0:n2=0:=by rw [←h2.out];rfl
      subst hn0
      go_wp2_with (refine mG rfl (.tmp 31) (.tmp 32) 41 rfl w.heap.size 140 i0 2 c2 underlying41 hi _ n1 (ax us) rfl hr rfl ?_)
      exact ⟨⟨_,_,_,_,_,_,_,_,_,_,⟨hB,.inr (.inr ⟨rfl,by simpa [ax] using hr⟩)⟩,by simp;exact ⟨rfl,rfl,rfl,rfl,rfl,rfl,rfl,rfl⟩⟩,by simp [intOf]⟩
     ·subst ha
      go_wp2_with (refine wpList_append_own _ rfl (.tmp 31) (.tmp 32) 41 rfl w.heap.size 140 i0 (.agg #[.int .i64 0,.int .i64 0]) 2 16 underlying41 hi hy0 hy1 hy2 rfl (by decide) _ n1 (ax us) rfl hr ad n2 c2 (ax vs) rfl (by rw [dB,h2.out]) hnews (rC vs) (by unfold maxLen;omega) (by omega) oV ?_;intro v' w3 hown' hgrow _)
      exact ⟨⟨hB.grown hgrow oV (fun j hj=>(hr.lt j hj).1),.inr (.inr ⟨rfl,hown'⟩)⟩,by simp [intOf]⟩
    ·go_wp2_with fail
     go_ret;exact ⟨_,rfl,by rw [EN,List.length_append,h1.out,h2.out];exact hr,hB⟩
theorem Gn (A:Option Addr) (n cap:Nat) (us:List Sp) (w:World) (hn:us.length=n) (hm:n≤1000000) (hr:RU w w.heap.size A us) :
  Calls prog 66 #[.slice A n cap] w fun e w'=>∃v,e= .returned v∧w'.ownsRow w.heap.size 140 2 v n (ax us)∧Below w.heap.size w w':=by
 obtain ⟨i0,hi,hy0,hy1,hy2⟩:=dW;have h1:=ae hn;clear hn;have q36:∀(w:World) (a:Option Addr) (n c n' c':Nat),(binOp .eql 41 (.slice a n c) (.slice none n' c')).run prog w= .ok (.bool a.isNone) w:=fun w a n c n' c'=>Lib.run_eql_slice_nil w _ _ a n c n' c' underlying41
 have hb0:=aV w (.cells #[] 140);have hsrc:=Fq (hr.on (aV w (.cells #[] 140)));have hown:(w.alloc (.cells #[] 140)).ownsRow w.heap.size 140 2 (.slice (some ⟨w.heap.size,0,none⟩) 0 0) 0 []:=World.ownsRow_made w #[] 0 (Nat.le_refl _) (Nat.zero_le _) (by simp);rcases hsrc with ⟨rfl,rfl⟩|⟨ad,rfl,hnews⟩
 ·have hn0:n=0:=h1.out.symm
  subst hn0;go_enter func66,ntmps66;go_wp2_with fail;go_ret;exact ⟨_,rfl,World.ownsRow_nil _ _ _ _,Below.refl _ _⟩
 ·go_enter func66,ntmps66
  go_wp2_with (refine wpList_append_own _ rfl (.tmp 5) (.tmp 6) 41 rfl w.heap.size 140 i0 (.agg #[.int .i64 0,.int .i64 0]) 2 16 underlying41 hi hy0 hy1 hy2 rfl (by decide) _ 0 [] rfl hown ad n cap (ax us) rfl (by rw [dB,h1.out]) hnews (rC us) (by unfold maxLen;omega) (by omega) (by simp) ?_;intro v' w3 hown' hgrow _)
  go_ret;rw [Nat.zero_add,List.nil_append] at hown';exact ⟨_,rfl,hown',hb0.grown hgrow (by simp) (fun j hj=>(hown.lt j hj).1)⟩
theorem Q8 (A:Option Addr) (n cap:Nat) (us:List Sp) (w:World) (hn:us.length=n) (hm:n≤maxLen) (hr:RU w w.heap.size A us) :
  Calls prog 131 #[.slice A n cap] w (rM w (if EM us=0 then setOf us else []) (EM us)):=by
 have HC:=ae (uq A n cap us w hn hm hr);by_cases hlen:2000<n
 ·have hlen':decide (2000<(n:Int))=true:=by simp;omega
  have hE:EM us=3:=by unfold EM;rw [if_pos (by omega)]
  rw [hE,if_neg (by decide)];clear hE;go_enter func131,ntmps131;go_wp2_with fail;go_ret2;exact ⟨none,0,rfl,RU.nil,by simp,by unfold maxLen;omega,fun b o e=>(by cases e),Below.refl _ _,fun _=>rfl⟩
 have hlen':decide (2000<(n:Int))=false:=by simp;omega
 by_cases hall:us.all bB=true
 ·have hE:EM us=0:=by unfold EM;rw [if_neg (by omega),if_pos hall]
  have hv:=(VJ hE).2;rw [hE,if_pos rfl];rw [hall] at HC;have HK:=ae (fun W h=>Gn A n cap us W hn (by omega) h);have HO:=ae (fun base v W (h1:base≤W.heap.size) (h2:W.ownsRow base 140 2 v us.length (ax us))=>NY base v us W hv (by omega) h1 h2);have hS:=ae (fun (eG:List Sp) (h1:eG.Perm us) h2=>Gl hv h1 h2);rw [hn] at HO;clear hE hall hv hn;go_enter func131,ntmps131;go_wp2_with fail;refine HC.out.mono ?_;rintro e w1 ⟨rfl,hb1⟩;go_wp2_with fail;refine (HK.out _ (hr.on hb1)).mono ?_;rintro e w2 ⟨v,rfl,hrow,hb2⟩;have B2:=hb1.trans (hb2.mono hb1.size);go_wp2_with fail;refine (HO.out _ _ _ hb2.size hrow).mono ?_;rintro e w3 ⟨eG,v',hp,hs,rfl,hrow3,hb3⟩;rw [hS.out eG hp hs] at hrow3;obtain ⟨A3,nK,rfl,gG,h1,h2,h3,_⟩:=mU hrow3 rfl;go_wp2_with fail;go_ret2;exact ⟨A3,nK,rfl,gG,h1,h2,fun b o e=>by have:=h3 b o e;have:=B2.size;omega,B2.trans (hb3.mono hb1.size),FI hrow3⟩
 ·have hE:EM us=7:=by unfold EM;rw [if_neg (by omega),if_neg hall]
  have x8:us.all bB=false:=by simpa using hall
  rw [hE,if_neg (by decide)];rw [x8] at HC;clear hE hall x8;go_enter func131,ntmps131;go_wp2_with fail;refine HC.out.mono ?_;rintro e w1 ⟨rfl,hb1⟩;go_wp2_with fail;go_ret2;exact ⟨none,0,rfl,RU.nil,by simp,by unfold maxLen;omega,fun b o e=>(by cases e),hb1,fun _=>rfl⟩
theorem NZ (A:Option Addr) (n cap:Nat) (us:List Sp) (w:World) (hn:us.length=n) (hm:n≤maxLen) (hr:RU w w.heap.size A us) :
  Calls prog 53 #[.slice A n cap] w fun e w'=>e= .returned (.tuple #[.int .i64 (if dX us=0 then aI us else 0),.int .i64 (dX us)])∧Below w.heap.size w w':=by
 have HC:=ae (dx A n cap us w hn hm hr);by_cases hc:dX us=0
 case neg =>
  rw [if_neg hc];generalize dX us=er at *;have hc':(er != 0)=true:=by simpa using hc
  clear hc;go_enter func53,ntmps53;go_wp2_with fail;refine HC.out.mono ?_;rintro e w1 ⟨rfl,hb1⟩;go_wp2_with fail;go_ret2;exact ⟨rfl,hb1⟩
 case pos =>
  have qP:=bP.1 hc;rw [hc,if_pos rfl];rw [hc] at HC;have hlen:=qP.len;have hv:=ae qP.1;have hn':=ae hn;obtain ⟨S,hS⟩:=aj (aI us);rw [hS];have hS':=ae hS;have aez:n≤512:=by omega
  clear qP hc hS hn;go_enter func53,ntmps53;go_wp2_with fail;refine HC.out.mono ?_;rintro e w1 ⟨rfl,hb1⟩;go_wp2_with fail
  go_loopw [5,15] (fun sm i wr=>∃(k:Nat) (z:Int),k≤n∧i= .int .i64 k∧sm= .int .i64 z∧0≤z∧z≤1024*k∧Hid (z=aI (us.take k))∧Below w.heap.size w wr) (fun _ i _=>n - (intOf i).toNat)
  case atStart=>exact ⟨0,0,by omega,rfl,rfl,by omega,by omega,ae (by simp [aI]),hb1⟩
  case round =>
   obtain ⟨k,z,hk,rfl,rfl,hz0,hz1,hz,hB⟩:=hrel;by_cases hlt:k<n
   ·have hlt':decide ((k:Int)<(n:Int))=true:=by simpa using hlt
    obtain ⟨b,o,rfl,hbl,hc,hd⟩:=RU.at_' (hr.below hB) (k:=k) (by have:=hn'.out;omega);have kZ:=av.1 (hv.out (us.getD k (0,0)) (by rw [List.getD_eq_getElem?_getD,List.getElem?_eq_getElem (by have:=hn'.out;omega)];simp));have hst:=ae (show z+(us.getD k (0,0)).2=aI (us.take (k+1)) by rw [wN us k (by have:=hn'.out;omega),r9,hz.out]);generalize us.getD k (0,0)=x at *;obtain ⟨xa,xb⟩:=x;dsimp only at hc hd kZ hst;go_wp2_with fail;go_roundw
    case rel=>exact ⟨k+1,z+xb,by omega,by go_num,by go_num,by omega,by omega,hst,(hB.alloc hB.size _)⟩
    case measure=>simp [intOf];omega
   ·have hlt':decide ((k:Int)<(n:Int))=false:=by simp;omega
    have hE:Hid (S=z):=ae (by rw [hz.out,List.take_of_length_le (by have:=hn'.out;omega)];exact hS'.out.symm);go_wp2_with fail;go_ret2;rw [hE.out];exact ⟨rfl,hB⟩
theorem VM (b:Nat) (pg n f bk ev:Int) (V:Vm) (w:World) (hV:aD w b V) (hK:aQ V) :
  Calls prog 134 #[.pointer (some ⟨b,0,none⟩),eQ pg n f bk ev] w (rM w (eH pg n f bk ev) (bN pg n f bk ev)):=by
 have hb0:=aV w (.cells (bf pg n f bk ev) 25);have k0:=ag.new w 25 (bf pg n f bk ev);have HC:=ae (fun W h=>Ed b V W h hK);have HG:=ae (fun W=>Nu pg n f bk ev W);have V0:=hV.call hb0;obtain ⟨s,hs⟩:=aj (w.heap.size);rw [hs] at k0;generalize bN pg n f bk ev=er at *;generalize eH pg n f bk ev=G at *;unfold rM at HG;clear hV hK;go_enter func134,ntmps134;go_upto_region 1 with fail
 generalize w.alloc _=w0 at *;go_wp2_with fail;refine (HC.out _ V0).mono ?_;rintro e w1 ⟨⟨cs,hcs,rfl⟩,hb1⟩;obtain ⟨q,hq⟩:=aj (w1.heap.size);have hsz:=hcs.size;have kz:=ag.new w1 106 #[.int .i64 0,.int .i64 0,.int .i64 0,.int .i64 0,.int .i64 0];rw [hq] at kz;have ht:(w1.alloc (.cells #[.int .i64 0,.int .i64 0,.int .i64 0,.int .i64 0,.int .i64 0] 106)).there q 0 cs.size:=by rw [hsz];exact dP kz 0 5 (by simp)
 have hF2:=af.puts (T:=fun k=>k=q) rfl cs.toList 0 w1 _ ((af.refl _ w1).alloc (.cells #[.int .i64 0,.int .i64 0,.int .i64 0,.int .i64 0,.int .i64 0] 106));have hone:=Go.all_oneCell_toArray (hcs.one);rw [Array.toArray_toList] at hone;have jL:(prog.info? 106).map (·.size)=some cs.size:=by rw [hsz];exact LM
 clear kz HC V0;go_upto_region 2 with (refine wpList_store_mid rfl 106 (.tmp 6) (.tmp 11) rfl q 0 cs rfl rfl ht jL hone ?_)
 generalize World.setCells _ q 0 _=w2 at *;have hb2:=hF2.below (n:=w1.heap.size) (Nat.le_refl _) (fun k hk e=>by omega);have Yf:=hb1.trans (hb2.mono hb1.size);have B2:=hb0.trans (Yf.mono hb0.size);have k2:=k0.call Yf;have c2:=k2.cell;clear hF2 ht hone jL hcs hsz hb1 hb2 Yf k0;go_wp2_with fail;refine (HG.out _).mono ?_;rintro e w3 ⟨A,c,rfl,g1,g2,g3,g4,g5,g6⟩;have B3:=B2.trans (g5.mono B2.size);have hsz2:=B2.size;clear HG c2 k2;go_wp2_with fail;go_ret2;exact ⟨A,c,rfl,g1,g2,g3,fun x o e=>by have:=g4 x o e;omega,B3,g6⟩
theorem Fs {w:World} {g:Nat} {t:TypeId} {a b:Int} (h:ag w g t #[.int .i64 a,.int .i64 b]):RU w w.heap.size (some ⟨g,0,none⟩) [(a,b)]:=fun k hk=>by
 obtain rfl:k=0:=by simp at hk;omega
 exact ⟨g,0,rfl,h.lt,h.cell 0,h.cell 1⟩
theorem Ca (pg n f bk ev:Int):(eH pg n f bk ev).length≤512:=by
 by_cases h:bN pg n f bk ev=0
 ·exact (NC (bU.1 h)).1.len
 ·unfold eH;rw [if_neg h];exact Nat.zero_le _
theorem LV (p:Value) (C:Array Value) (w:World):∃w0:World,w0=(((w.alloc (.cells #[p] 44)).alloc (.cells C 25)).alloc (.cells #[.slice none 0 0] 41)).alloc (.cells #[.int .i64 0] 36) ∧
  w0.heap.size=w.heap.size+4∧Below w.heap.size w w0∧ag w0 w.heap.size 44 #[p]∧ag w0 (w.heap.size+1) 25 C∧ag w0 (w.heap.size+2) 41 #[.slice none 0 0]∧ag w0 (w.heap.size+3) 36 #[.int .i64 0]:=by
 have e1:=World.size_alloc w (.cells #[p] 44);have e2:=World.size_alloc (w.alloc (.cells #[p] 44)) (.cells C 25);have e3:=World.size_alloc ((w.alloc (.cells #[p] 44)).alloc (.cells C 25)) (.cells #[.slice none 0 0] 41);have e4:=World.size_alloc (((w.alloc (.cells #[p] 44)).alloc (.cells C 25)).alloc (.cells #[.slice none 0 0] 41)) (.cells #[.int .i64 0] 36);have k1:=((ag.new w 44 #[p]).alloc (.cells C 25)).alloc (.cells #[.slice none 0 0] 41) |>.alloc (.cells #[.int .i64 0] 36)
 have k2:=((ag.new (w.alloc (.cells #[p] 44)) 25 C).alloc (.cells #[.slice none 0 0] 41)).alloc (.cells #[.int .i64 0] 36);have k3:=(ag.new ((w.alloc (.cells #[p] 44)).alloc (.cells C 25)) 41 #[.slice none 0 0]).alloc (.cells #[.int .i64 0] 36);have k4:=ag.new (((w.alloc (.cells #[p] 44)).alloc (.cells C 25)).alloc (.cells #[.slice none 0 0] 41)) 36 #[.int .i64 0];have hb:=(((aV w (.cells #[p] 44)).alloc (by omega) (.cells C 25)).alloc (by omega) (.cells #[.slice none 0 0] 41)).alloc (by omega) (.cells #[.int .i64 0] 36);rw [e1] at k2;rw [e2,e1] at k3;rw [e3,e2,e1] at k4;exact ⟨_,rfl,by omega,hb,k1,k2,k3,k4⟩
theorem Jt (p0 p1 p2 p3:Nat) (w:World) (k0:ag w p0 36 #[.int .i64 0]) :
  CallsD prog 135 #[.pointer (some ⟨p0,0,none⟩),.pointer (some ⟨p1,0,none⟩),.pointer (some ⟨p2,0,none⟩),.pointer (some ⟨p3,0,none⟩)] .returning w fun e u' w'=>u'= .returning∧((∃v,e= .returned v)∧w'=w):=by
 have c0:=k0.cell
 go_enter_d func135,ntmps135
 go_wp2_with fail;exact ⟨rfl,_,by simp [results,results135,go_sem];rfl,⟨_,rfl⟩,rfl⟩
theorem Ju (b p0 p1 p2 p3:Nat) (er xa xb:Int) (V:Vm) (w:World) (hV:aD w b V) (he:er≠0) (k0:ag w p0 36 #[.int .i64 er]) (k1:ag w p1 44 #[.pointer (some ⟨b,0,none⟩)]) (k2:ag w p2 140 #[.int .i64 xa,.int .i64 xb])
  (h0:(bJ V xa xb 4 3 1).1=0) :
  CallsD prog 135 #[.pointer (some ⟨p0,0,none⟩),.pointer (some ⟨p1,0,none⟩),.pointer (some ⟨p2,0,none⟩),.pointer (some ⟨p3,0,none⟩)] .returning w fun e u' w'=>u'= .returning∧((∃v,e= .returned v)∧dw b (bJ V xa xb 4 3 1).2 w w'):=by
 have c0:=k0.cell;have c1:=k1.cell;have c2:=k2.cell;have he':(er != 0)=true:=by simpa using he
 have HD:=ae (ry b xa xb V w hV);rw [h0] at HD;generalize (bJ V xa xb 4 3 1).2=J at *;clear he hV h0
 go_enter_d func135,ntmps135
 go_wp2_with fail;refine HD.out.mono ?_;rintro e w1 ⟨rfl,hS⟩;clear HD;go_wp2_with fail;exact ⟨rfl,_,by simp [results,results135,go_sem];rfl,⟨_,rfl⟩,hS⟩
def KC (b s k:Nat) (v:Value) (K:Int) (w:World):Prop:=w.cell? ⟨s,0,none⟩=some v∧w.cell? ⟨b,k,none⟩=some (.int .i64 K)
theorem KC.later {b s k:Nat} {v:Value} {K:Int} {w w':World} (h:KC b s k v K w) (hF:Below w.heap.size w w') (hb:b<w.heap.size) (hs:s<w.heap.size):KC b s k v K w' :=
 ⟨(hF.cell (p:=⟨s,0,none⟩) hs).trans h.1,(hF.cell (p:=⟨b,k,none⟩) hb).trans h.2⟩
def KD (b s k:Nat) (v:Value) (cs:List Value) (w:World):Prop:=w.cell? ⟨s,2,none⟩=some v∧w.rangeAt b (1088+k*64) cs
theorem KD.later {b s k:Nat} {v:Value} {cs:List Value} {w w':World} (h:KD b s k v cs w) (hF:Below w.heap.size w w') (hb:b<w.heap.size) (hs:s<w.heap.size):KD b s k v cs w' :=
 ⟨(hF.cell (p:=⟨s,2,none⟩) hs).trans h.1,fun j u hj=>(hF.cell (p:=⟨b,_,none⟩) hb).trans (h.2 j u hj)⟩
theorem N8 (base g:Nat) (xa xb:Int) (w:World) (k:ag w g 140 #[.int .i64 xa,.int .i64 xb]) (hb:base≤w.heap.size) :
  Calls prog 136 #[.slice none 0 0,.int .i64 0,.slice (some ⟨g,0,none⟩) 1 1] w fun e w'=>∃v,e= .returned v∧w'.ownsRow base 140 2 v 1 [.int .i64 xa,.int .i64 xb]∧Below w.heap.size w w':=by
 obtain ⟨j0,hj,hy0,hy1,hy2⟩:=dW;have hrow:=World.ownsRow_nil w base 140 2;go_enter func136,ntmps136
 go_wp2_with (refine wpList_append_own _ rfl (.tmp 23) (.tmp 24) 41 rfl base 140 j0 (.agg #[.int .i64 0,.int .i64 0]) 2 16 underlying41 hj hy0 hy1 hy2 rfl (by decide) _ 0 [] rfl hrow ⟨g,0,none⟩ 1 1 [.int .i64 xa,.int .i64 xb] rfl rfl (ja k) gQ (by unfold maxLen;omega) (by omega) hb ?_;intro v' w7 hown' hgrow _)
 go_ret;exact ⟨v',rfl,by simpa using hown',(Below.refl _ _).grown hgrow (Nat.le_refl _) (fun j hj=>by cases hj)⟩
theorem ahc (ad:Addr) (n c:Nat) (hc:c<n+1) (hn:n≤512) (ty:TypeId) (w:World) :
  (Builtin.append_ #[41,3] ty #[.slice (some ad) 0 c,.int .i64 ((n+1:Nat):Int)]).run prog w =
   .ok (.slice (some ⟨w.heap.size,0,none⟩) (n+1) (grownCap w (n+1) c 140)) (w.drew.alloc (.cells (#[]++Builtin.zeroCells #[.int .i64 0,.int .i64 0] (n+1)++Builtin.zeroCells #[.int .i64 0,.int .i64 0] (grownCap w (n+1) c 140 - (n+1))) 140)):=by
 obtain ⟨j0,hj,hy0,hy1,hy2⟩:=dW;have h:=Lib.run_append_grow_zeros (P:=prog) w 41 3 ty 140 j0 _ .i64 .i64 underlying41 underlying3 hj hy0 (some ad) 0 c [] (by
  rw [hy1];exact run_firstCells_some w.drew 2 0 ad 0 c [] rfl (fun j v hv=>by cases hv)) (n+1) (by omega) (by omega) (by omega) (by omega) (by rw [hy2];omega) (by rw [hy2];exact growslice_fits_wide (by omega) (by omega))
 rw [Nat.zero_add] at h;exact h
theorem zk:(prog.info? 140).map (·.size)=some 2:=by kernel_rfl
theorem Ei {w:World} {g:Nat} {t:TypeId} {cs cur:Array Value} (h:ag w g t cur):ag (w.setRow g cs) g t cs:=setRow_heap _ _ _ _ _ _ h
theorem EO {w:World} {g k:Nat} {t:TypeId} {cs cur:Array Value} (h:ag w k t cur) (hne:k≠g):ag (w.setRow g cs) k t cur:=by
 show (w.setRow g cs).heap[k]? = _;rw [setRow_other _ _ _ _ hne];exact h
theorem Jv (g gx n c G q:Nat) (w W1 W2 W3:World) (hn0:0<n) (hn:n≤512) (hnc:n≤c) (hc:c<n+1) (hGn:n+1≤G) (_:G≤maxLen)
  (hap:∀ty,(Builtin.append_ #[41,3] ty #[.slice (some ⟨g,0,none⟩) 0 c,.int .i64 ((n:Int)+1)]).run prog w= .ok (.slice (some ⟨q,0,none⟩) (n+1) G) W1)
  (hcA:∀ty,(Builtin.copy_ #[41,41] ty #[.slice (some ⟨q,0,none⟩) (n+1) G,.slice (some ⟨gx,0,none⟩) 1 1]).run prog W1= .ok (goInt 1) W2)
  (hcB:∀ty,(Builtin.copy_ #[41,41] ty #[.slice (some ⟨q,2,none⟩) n (G - 1),.slice (some ⟨g,0,none⟩) n c]).run prog W2.drew= .ok (goInt n) W3) :
  Calls prog 136 #[.slice (some ⟨g,0,none⟩) n c,.int .i64 0,.slice (some ⟨gx,0,none⟩) 1 1] w fun e w'=>e= .returned (.slice (some ⟨q,0,none⟩) (n+1) G)∧w'=W3:=by
 have hcd:decide ((c:Int)<(n:Int)+1)=true:=by rw [decide_eq_true_eq];omega
 have ahd:((0:Int)==(n:Int))=false:=by rw [beq_eq_false_iff_ne];omega
 have hwr:IntKind.i64.wrap ((n:Int)+1)=(n:Int)+1:=by rw [IntKind.wrap_i64];omega
 have hcB':=ae hcB;have Yg:=ae hcA;have ahe:=ae hap;clear hcA hcB hap;go_enter func136,ntmps136;go_upto_region 9 with fail
 go_upto_region 10 with (at_builtin;refine Lib.wpList_append_run _ rfl _ _ _ _ rfl _ _ rfl rfl _ _ (ahe.out _) ?_)
 go_upto_region 11 with (simp only [Yg.out,Result.andThen_ok])
 have hw1:IntKind.i64.wrap 1=1:=by rw [IntKind.wrap_i64];rfl
 have hb1:(1:Int)≤(n:Int)+1:=by omega
 have hG1:¬(G=1):=by omega
 have hc0:¬(c=0):=by omega
 have mixed:prog.follows Departure.mixedOrders=true:=by kernel_rfl
 go_region_law_o (refine xH rfl _ _ 41 41 rfl (.slice (some ⟨q,2,none⟩) n (G - 1)) (.slice (some ⟨g,0,none⟩) n c) (by simp [Act.eval,Act.put]) (by simp [Act.eval,Act.put]) (hcB'.out _) ?_)
 go_wp2_with fail;go_ret;exact ⟨rfl,rfl⟩
theorem LY (base g gx n c:Nat) (xa xb:Int) (L:List Sp) (w:World) (hL:L.length=n) (hn0:0<n) (hn:n≤512) (hc:c<n+1) (hrow:w.ownsRow base 140 2 (.slice (some ⟨g,0,none⟩) n c) n (ax L)) (k:ag w gx 140 #[.int .i64 xa,.int .i64 xb]) (hb:base≤w.heap.size) :
  Calls prog 136 #[.slice (some ⟨g,0,none⟩) n c,.int .i64 0,.slice (some ⟨gx,0,none⟩) 1 1] w fun e w'=>∃v,e= .returned v∧w'.ownsRow base 140 2 v (n+1) (.int .i64 xa :: .int .i64 xb::ax L)∧af (fun k=>k=g) w w':=by
 obtain ⟨G,hG⟩:=aj (grownCap w (n+1) c 140);have hGn:=grownCap_ge w (n+1) c 140;have hGm:=grownCap_le_maxLen w (n+1) c 140 (by unfold maxLen;omega);rw [hG] at hGn hGm;obtain ⟨q,hq⟩:=aj (w.heap.size);obtain ⟨hgq,hnc⟩:g<q∧n≤c:=by
  rcases hrow.2 with ⟨h,_⟩|⟨g',cap,cur,h,_,hk,h3,_⟩
  ·cases h
  ·cases h;rw [←hq];exact ⟨ag.lt hk,h3⟩
 have hxq:gx<q:=by rw [←hq];exact k.lt
 have hlc:(ax L).length=n*2:=by rw [dB,hL]
 obtain ⟨ROW,hROW⟩:∃ROW:Array Value,#[]++Builtin.zeroCells #[.int .i64 0,.int .i64 0] (n+1)++Builtin.zeroCells #[.int .i64 0,.int .i64 0] (G - (n+1))=ROW:=⟨_,rfl⟩;have hRs:ROW.size=G*2:=by rw [←hROW];simp [Builtin.zeroCells];omega
 obtain ⟨W1,hW1⟩:=aj (w.drew.alloc (.cells ROW 140));have hap:∀ty,(Builtin.append_ #[41,3] ty #[.slice (some ⟨g,0,none⟩) 0 c,.int .i64 ((n:Int)+1)]).run prog w= .ok (.slice (some ⟨q,0,none⟩) (n+1) G) W1:=fun ty=>by
  have h:=ahc ⟨g,0,none⟩ n c hc hn ty w;rw [hG,hROW,hW1,hq] at h;rw [show ((n:Int)+1)=((n+1:Nat):Int) by omega];exact h
 have k1:ag W1 q 140 ROW:=by rw [←hW1,←hq];exact ag.new w.drew _ _
 have hF1:af (fun _=>False) w W1:=by rw [←hW1];exact (af.refl _ w).drew.alloc _
 have lY:=hF1.blk k (fun h=>h);obtain ⟨W2,hW2⟩:=aj (W1.setRow q (ROW.toList.take 0++[Value.int .i64 xa,Value.int .i64 xb]++ROW.toList.drop (0+[Value.int .i64 xa,.int .i64 xb].length)).toArray);have hcA:∀ty,(Builtin.copy_ #[41,41] ty #[.slice (some ⟨q,0,none⟩) (n+1) G,.slice (some ⟨gx,0,none⟩) 1 1]).run prog W1= .ok (goInt 1) W2:=fun ty=>by
  rw [←hW2];exact nU W1 _ _ ty 140 2 q 0 (n+1) G ⟨gx,0,none⟩ 1 1 1 ROW _ [.int .i64 xa,.int .i64 xb] underlying41 zk k1 (by simp only [Nat.min_def];split <;> omega) rfl (ja lY) (by simp;omega) gQ
 have hR0:ROW.toList.length=G*2:=by simpa using hRs
 have k2:ag W2 q 140 (pW ROW.toList (.int .i64 xa) (.int .i64 xb)).toArray:=by rw [←hW2];exact Ei k1
 have hF2:af (fun k=>q≤k) w W2:=by
  rw [←hW2];exact (hF1.mono (fun _ _ h=>h.elim)).trans' (T':=fun k=>k=q) ⟨rfl,rfl,rfl,by simp [World.setRow],fun _ _ hT=>setRow_other _ _ _ _ hT⟩ (fun i hi e=>by omega)
 have hsrc:∀(j:Nat) (v:Value),(ax L)[j]? = some v→W2.drew.cell? (Addr.add ⟨g,0,none⟩ j)=some v:=fun j v hj=>by
  have h0:=hrow.cells (g:=g) rfl j v hj;rw [dh] at h0 ⊢;exact (hF2.drew).cell h0 (by show ¬q≤g;omega)
 have hBl:(pW ROW.toList (.int .i64 xa) (.int .i64 xb)).length=G*2:=by unfold pW;simp;omega
 obtain ⟨W3,hW3⟩:=aj (W2.drew.setRow q ((pW ROW.toList (.int .i64 xa) (.int .i64 xb)).toArray.toList.take 2++ax L++(pW ROW.toList (.int .i64 xa) (.int .i64 xb)).toArray.toList.drop (2+(ax L).length)).toArray);have hcB:∀ty,(Builtin.copy_ #[41,41] ty #[.slice (some ⟨q,2,none⟩) n (G - 1),.slice (some ⟨g,0,none⟩) n c]).run prog W2.drew= .ok (goInt n) W3:=fun ty=>by
  rw [←hW3];exact nU W2.drew _ _ ty 140 2 q 2 n (G - 1) ⟨g,0,none⟩ n c n _ _ (ax L) underlying41 zk k2.drew (by simp only [Nat.min_def];split <;> omega) hlc hsrc (by rw [hlc,List.size_toArray,hBl];omega) (zX L)
 have hown:W3.ownsRow base 140 2 (.slice (some ⟨q,0,none⟩) (n+1) G) (n+1) (.int .i64 xa :: .int .i64 xb::ax L):=by
  rw [←hW3,List.toList_toArray,LW];refine Eh k2.drew (by omega) hGn hGm (by rw [List.size_toArray,Eg _ _ _ _ (by rw [hlc,hR0];omega),hR0]) (by simp only [List.length_cons,hlc];omega) ?_;rw [List.toList_toArray];unfold rD;rw [List.take_append_of_le_length (by simp only [List.length_cons,hlc];omega),List.take_of_length_le (by simp only [List.length_cons,hlc];omega)]
 have ma:af (fun k=>k=g) w W3:=by
  rw [←hW3];exact ((hF2.drew).mono (fun i hi h=>by omega)).trans' (T':=fun k=>k=q) ⟨rfl,rfl,rfl,by simp [World.setRow],fun _ _ hT=>setRow_other _ _ _ _ hT⟩ (fun i hi e=>by omega)
 refine (Jv g gx n c G q w W1 W2 W3 hn0 hn hnc hc hGn hGm hap hcA hcB).mono ?_;rintro e w' ⟨rfl,rfl⟩;exact ⟨_,rfl,hown,ma⟩
end Go.Proofs.YtjmmgoijnhnnaaaGreat
