/- Texts: ZLib, GSpecC, SSpecD, SWalkA, ZWalkP, ZWalkQ, QSpecA, QSpecB, QWalkM, QWalkA, QWalkB, QWalkC, QWalkD. -/
import Derived.DeepKeys
import Derived.Test.YtjmmgoijnhnnaaaGreatR13
set_option maxRecDepth 100000
set_option maxHeartbeats 12800000
namespace Go.Pol
open Go Go.RowKit Go.Proofs.Tryz
section
variable {α:Type} {enc:α→List Value} {sz:Nat}
theorem Po (a:List α) (x:α):fl enc (a++[x])=fl enc a++enc x:=by simp [fl]
end
section
variable {pg n f b ev:Int}
theorem Pp (hp:dS pg n f b ev):iX (yO pg n f b ev false n.toNat)=aZ (aA pg n f b ev) (pg,n):=by
 have hv:bB (pg,n)=true:=av.2 ⟨hp.De,hp.Xp,hp.n0,hp.n1⟩;obtain ⟨hc,hm⟩:=(bL hp).DU hv;refine (hc.og _ fun p hp2=>?_).symm;have h:=Ex hp (p:Int);have a3:=hp.n0;rw [Bool.eq_iff_iff,hm];simp only [yO,Bool.and_eq_true,decide_eq_true_eq,beq_iff_eq];have e:(((n.toNat:Nat):Int))=n:=by omega
 rw [e];constructor
 ·rintro ⟨h1,h2⟩
  refine ⟨by omega,?_⟩;rw [Bool.eq_false_iff];intro hh;have:=h.2 hh;rw [this] at h2;simp at h2
 ·rintro ⟨h1,h2⟩
  refine ⟨by omega,?_⟩;rw [beq_eq_false_iff_ne];intro hh;have:=h.1 hh;rw [h2] at this;cases this
end
theorem Ik (f:Int→Bool):∀(k:Nat) (a:Int),iC f (k+1) a=iC f k a+if f (a+k)=true then 1 else 0
 | 0,a=>by simp [iC]
 | k+1,a=>by
  rw [iC,Ik f k (a+1),iC,show a+1+(k:Int)=a+(k+1:Nat) by omega];omega
theorem below_setCells {s:Nat} {w:World} (b:Nat) (hb:s≤b):∀(vs:List Value) (o:Nat) (W:World),Below s w W→Below s w (W.setCells b o vs)
 | [],_,_,h=>h
 | v::vs,o,_,h=>below_setCells b hb vs (o+1) _ (h.setCell (p:=⟨b,o,none⟩) hb v)
theorem vw {P:Program} {fn:Func} {a:Tmp} {t:TypeId} {tmps:Array Value} {w:World} {v:Value} {p:Addr} (h:fn.results=#[.cell a t]) (ha:tmps.getD a undef= .pointer (some p)) (hl:(loadVar t p).run P w= .ok v w) :
  (results fn tmps).run P w= .ok v w:=by
 have ha':tmps[a]?.getD undef= .pointer (some p):=by rw [←ha,Array.getD_eq_getD_getElem?]
 simp [results,h,ha',asAddr,hl]
theorem BF {w:World} {g:Nat} {t:TypeId} {cs:Array Value} (h:ag w g t cs):w.there g 0 cs.size:=fun j hj=>by
 rw [Nat.zero_add];exact ⟨by rw [h.cell];simp [hj],h.frozen j⟩
theorem jX.CQ {cs:Array Value} {v:Value} {V:Vm} (h:jX cs v V) {p:Nat} (hp:p<1024) (x:Bool):jX (cs.setIfInBounds (1+p*66+1) (.bool x)) v (V.iY p ((V.pg p).jh x)):=by
 have hs:=h.size;have hg:∀i,(cs.setIfInBounds (1+p*66+1) (.bool x))[i]? = if 1+p*66+1=i then some (.bool x) else cs[i]? := fun i=>by
  rw [Array.getElem?_setIfInBounds];by_cases e:1+p*66+1=i
  ·rw [if_pos e,if_pos e,if_pos (by omega)]
  ·rw [if_neg e,if_neg e]
 refine ⟨by simp [hs],?_,fun q hq i hi=>?_,fun i hi=>?_⟩
 ·rw [hg,if_neg (by omega)];exact h.made
 ·rw [hg]
  by_cases e:q=p
  ·subst e
   have xS:(V.iY q ((V.pg q).jh x)).pg q=(V.pg q).jh x:=by simp [Vm.iY]
   rw [xS];by_cases e1:i=1
   ·subst e1;rw [if_pos rfl];rfl
   ·rw [if_neg (by omega),h.page q hq i hi]
    unfold uS
    match i,e1 with
    | 0,_=>rfl
    | i+2,_=>rfl
  ·rw [if_neg (by omega),h.page q hq i hi]
   simp [Vm.iY,e]
 ·rw [hg,if_neg (by omega)];exact h.rf i hi
theorem aD.CQ {w:World} {b:Nat} {V:Vm} (h:aD w b V) {p:Nat} (hp:p<1024) (x:Bool):aD (w.setCell ⟨b,1+p*66+1,none⟩ (.bool x)) b (V.iY p ((V.pg p).jh x))∧af (fun k=>k=b) w (w.setCell ⟨b,1+p*66+1,none⟩ (.bool x)):=by
 obtain ⟨cs,A,n,cap,h1,h2,h3,h4,h5,h6,h7,h8⟩:=h.ex;have hF:af (fun k=>k=b) w (w.setCell ⟨b,1+p*66+1,none⟩ (.bool x)):=af.setCell (T:=fun k=>k=b) (p:=⟨b,1+p*66+1,none⟩) (af.refl _ _) (fun _=>rfl) _;exact ⟨⟨_,A,n,cap,h1.aO _ _,h2.CQ hp x,h3,(h4.keepR hF (fun g' o e h=>h6 g' o e h)).more hF.size,h5,h6,h7,fun g o e h=>(h8 g o e h).imp fun cr hc=>hF.blk hc (h6 g o e h)⟩,hF⟩
theorem uE.UU {cs:Array Value} {v:Value} {V:Vm} (h:uE cs v V) {g:Nat} (hg:g<64) (x:Bool) :
  uE (cs.setIfInBounds (1024+g) (.bool x)) v (V.gH (g*16) 16 (fun p=>p.jh x)):=by
 have hs:=h.size;have hg2:∀i,(cs.setIfInBounds (1024+g) (.bool x))[i]? = if 1024+g=i then some (.bool x) else cs[i]? := fun i=>by
  rw [Array.getElem?_setIfInBounds];by_cases e:1024+g=i
  ·subst e;rw [if_pos rfl,if_pos rfl,if_pos (by omega)]
  ·rw [if_neg e,if_neg e]
 have xS:∀q,(V.gH (g*16) 16 (fun p=>p.jh x)).pg q=if g*16≤q∧q<g*16+16 then (V.pg q).jh x else V.pg q:=fun q=>rfl
 refine ⟨by rw [Array.size_setIfInBounds];exact hs,fun q hq=>?_,fun q hq=>?_,fun q hq k hk=>?_,fun i hi=>?_⟩
 ·rw [hg2,if_neg (by omega),h.kind q hq,xS]
  split <;> rfl
 ·rw [hg2,xS]
  by_cases e:g*16≤q∧q<g*16+16
  ·rw [if_pos (by omega),if_pos e];rfl
  ·rw [if_neg (by omega),if_neg e];exact h.dz q hq
 ·rw [hg2,if_neg (by omega),h.iJ q hq k hk,xS]
  split <;> rfl
 ·rw [hg2,if_neg (by omega)];exact h.rf i hi
theorem uE.Io {cs:Array Value} {v:Value} {V:Vm} (h:uE cs v V) {p k:Nat} (hp:p<1024) (hk:k<64) (x:Int) :
  uE (cs.setIfInBounds (1088+p*64+k) (.int .u8 x)) v (V.iY p ((V.pg p).mr k x)):=by
 have hs:=h.size;have hg2:∀i,(cs.setIfInBounds (1088+p*64+k) (.int .u8 x))[i]? = if 1088+p*64+k=i then some (.int .u8 x) else cs[i]? := fun i=>by
  rw [Array.getElem?_setIfInBounds];by_cases e:1088+p*64+k=i
  ·rw [if_pos e,if_pos e,if_pos (by omega)]
  ·rw [if_neg e,if_neg e]
 have xS:∀q,(V.iY p ((V.pg p).mr k x)).pg q=if q=p then (V.pg p).mr k x else V.pg q:=fun q=>rfl
 refine ⟨by rw [Array.size_setIfInBounds];exact hs,fun q hq=>?_,fun q hq=>?_,fun q hq j hj=>?_,fun i hi=>?_⟩
 ·rw [hg2,if_neg (by omega),h.kind q hq,xS]
  by_cases e:q=p
  ·subst e;rw [if_pos rfl];rfl
  ·rw [if_neg e]
 ·rw [hg2,if_neg (by omega),h.dz q hq,xS]
  by_cases e:q=p
  ·subst e;rw [if_pos rfl];rfl
  ·rw [if_neg e]
 ·rw [hg2,xS]
  by_cases e:q=p
  ·subst e
   rw [if_pos rfl];by_cases e2:j=k
   ·subst e2;rw [if_pos rfl];simp [Pg.mr]
   ·rw [if_neg (by omega),h.iJ q hq j hj];simp [Pg.mr,e2]
  ·rw [if_neg (by omega),if_neg e];exact h.iJ q hq j hj
 ·rw [hg2,if_neg (by omega)];exact h.rf i hi
theorem bq.UU {w:World} {B b:Nat} {V:Vm} (h:bq w B b V) {g:Nat} (hg:g<64) (x:Bool) :
  bq (w.setCell ⟨b,1024+g,none⟩ (.bool x)) B b (V.gH (g*16) 16 (fun p=>p.jh x))∧af (fun k=>k=b) w (w.setCell ⟨b,1024+g,none⟩ (.bool x)):=by
 obtain ⟨cs,A,n,cap,h1,h2,h3,h4,h5,h6⟩:=h.ex;have hF:af (fun k=>k=b) w (w.setCell ⟨b,1024+g,none⟩ (.bool x)):=af.setCell (T:=fun k=>k=b) (p:=⟨b,1024+g,none⟩) (af.refl _ _) (fun _=>rfl) _;exact ⟨⟨_,A,n,cap,h1.aO _ _,h2.UU hg x,h3,h4.uX hF (fun k e=>by omega),h5,h6⟩,hF⟩
theorem bq.Io {w:World} {B b:Nat} {V:Vm} (h:bq w B b V) {p k:Nat} (hp:p<1024) (hk:k<64) (x:Int) :
  bq (w.setCell ⟨b,1088+p*64+k,none⟩ (.int .u8 x)) B b (V.iY p ((V.pg p).mr k x))∧af (fun k=>k=b) w (w.setCell ⟨b,1088+p*64+k,none⟩ (.int .u8 x)):=by
 obtain ⟨cs,A,n,cap,h1,h2,h3,h4,h5,h6⟩:=h.ex;have hF:af (fun k=>k=b) w (w.setCell ⟨b,1088+p*64+k,none⟩ (.int .u8 x)):=af.setCell (T:=fun k=>k=b) (p:=⟨b,1088+p*64+k,none⟩) (af.refl _ _) (fun _=>rfl) _;exact ⟨⟨_,A,n,cap,h1.aO _ _,h2.Io hp hk x,h3,h4.uX hF (fun k e=>by omega),h5,h6⟩,hF⟩
def Pw (z:Value→Bool):Nat→List Value→Option (List Value)
 | 0,v::r=>if z v=true then some r else none
 | 0,[]=>none
 | d+1,l=>match Pw z d l with
  | some r=>Pw z d r
  | none=>none
theorem vZ (z:Value→Bool):∀(d:Nat) (l r:List Value),Pw z d l=some r→∃pre,l=pre++r∧pre.length=2 ^ d∧∀v∈pre,z v=true
 | 0,[],r,h=>by cases h
 | 0,v::l,r,h=>by
  rw [Pw] at h;by_cases hz:z v=true
  ·rw [if_pos hz] at h
   cases h;exact ⟨[v],rfl,rfl,by simpa using hz⟩
  ·rw [if_neg hz] at h;cases h
 | d+1,l,r,h=>by
  rw [Pw] at h;split at h
  ·rename_i r' h'
   obtain ⟨p1,e1,l1,a1⟩:=vZ z d l r' h';obtain ⟨p2,e2,l2,a2⟩:=vZ z d r' r h;refine ⟨p1++p2,by rw [e1,e2,List.append_assoc],by rw [List.length_append,l1,l2,Nat.pow_succ];omega,fun v hv=>?_⟩;rcases List.mem_append.1 hv with h|h
   ·exact a1 v h
   ·exact a2 v h
  ·cases h
def zI:Value→Bool
 | .int .i64 k=>decide (k=0)
 | _=>false
def zB:Value→Bool
 | .bool b=>!b
 | _=>false
def zU:Value→Bool
 | .int .u8 k=>decide (k=0)
 | _=>false
theorem afL {v:Value} (h:zI v=true):v= .int .i64 0:=by
 unfold zI at h;split at h
 ·rw [decide_eq_true_eq] at h;rw [h]
 ·cases h
theorem afM {v:Value} (h:zB v=true):v= .bool false:=by
 unfold zB at h;split at h
 ·rename_i b;cases b with
  | false=>rfl
  | true=>cases h
 ·cases h
theorem afN {v:Value} (h:zU v=true):v= .int .u8 0:=by
 unfold zU at h;split at h
 ·rw [decide_eq_true_eq] at h;rw [h]
 ·cases h
def stR (l:List Value):Option (List Value) :=
 match Pw zI 10 l with
 | some r=>match Pw zB 6 r with
  | some r=>Pw zU 16 r
  | none=>none
 | none=>none
theorem abL {zc:Array Value} (h:stR zc.toList=some (aM (.slice none 0 0) (fun _=>0) (fun _=>0))) (v:Value):uE (jr zc 66624 (aM v (fun _=>0) (fun _=>0))) v lg:=by
 unfold stR at h;split at h
 ·rename_i r1 h1
  split at h
  ·rename_i r2 h2
   obtain ⟨p1,e1,l1,a1⟩:=vZ zI 10 _ _ h1;obtain ⟨p2,e2,l2,a2⟩:=vZ zB 6 _ _ h2;obtain ⟨p3,e3,l3,a3⟩:=vZ zU 16 _ _ h;have hz:zc.toList=p1++(p2++(p3++aM (.slice none 0 0) (fun _=>0) (fun _=>0))):=by rw [e1,e2,e3]
   simp only [Nat.reducePow] at l1 l2 l3;have hlen:zc.size=66639:=by
    rw [←Array.length_toList,hz,List.length_append,List.length_append,List.length_append,l1,l2,l3];rfl
   have hgl:∀i,zc[i]? = (p1++(p2++(p3++aM (.slice none 0 0) (fun _=>0) (fun _=>0))))[i]? := fun i=>by rw [←Array.getElem?_toList,hz]
   generalize hL:aM v (fun _=>0) (fun _=>0)=L at *;have hLl:L.length=15:=by rw [←hL];rfl
   have hg:=lU L zc 66624 (by rw [hLl];omega);refine ⟨by rw [lJ];exact hlen,fun p hp=>?_,fun p hp=>?_,fun p hp k hk=>?_,fun i hi=>?_⟩
   ·rw [hg,if_neg (by omega),hgl,List.getElem?_append_left (by omega)]
    have hl:p<p1.length:=by omega
    rw [List.getElem?_eq_getElem hl,afL (a1 _ (List.getElem_mem hl))];rfl
   ·rw [hg,if_neg (by omega),hgl,List.getElem?_append_right (by omega),List.getElem?_append_left (by omega)]
    have hl:1024+p / 16 - p1.length<p2.length:=by omega
    rw [List.getElem?_eq_getElem hl,afM (a2 _ (List.getElem_mem hl))];rfl
   ·rw [hg,if_neg (by omega),hgl,List.getElem?_append_right (by omega),List.getElem?_append_right (by omega),List.getElem?_append_left (by omega)]
    have hl:1088+p*64+k - p1.length - p2.length<p3.length:=by omega
    rw [List.getElem?_eq_getElem hl,afN (a3 _ (List.getElem_mem hl))];rfl
   ·rw [hg,if_pos (by omega),show 66624+i - 66624=i by omega,←hL];rfl
  ·cases h
 ·cases h
def rn0:Rn:=(0,0,0)
theorem wh (x:Rn):(qj x).length=3:=rfl
theorem ZK (us:List Rn):∀u∈fl qj us,u.oneCell'=true:=by
 intro u hu;simp only [fl,List.mem_flatMap,qj,List.mem_cons,List.not_mem_nil,or_false] at hu;obtain ⟨x,_,rfl|rfl|rfl⟩:=hu <;> rfl
theorem WG (g:Pg):(NR g).length=64:=by simp [NR]
theorem Px (V:Vm) (p:Nat):(tT V p).length=65:=by simp [tT,WG]
theorem SH {g:Pg}:AZ g=false↔∀k,k<64→g.iJ k=0:=by
 unfold AZ;rw [Bool.eq_false_iff,Ne,List.any_eq_true];constructor
 ·intro h k hk
  by_cases hz:g.iJ k=0
  ·exact hz
  ·exact absurd ⟨k,List.mem_range.2 hk,by simpa using hz⟩ h
 ·rintro h ⟨k,hk,hz⟩
  rw [h k (List.mem_range.1 hk)] at hz;simp at hz
def vz (n a b:Int):Bool:=decide (a≤n)&&decide (n≤b)
theorem zA {n a b:Int}:vz n a b=true↔a≤n∧n≤b:=by simp [vz]
theorem SI {n a b:Int}:vz n a b=false↔¬(a≤n∧n≤b):=by rw [←zA];simp
theorem WH (l:List Ru) (k n:Int) (i:Nat) (h:i<l.length):(l.drop i).any (fun x=>x.1==k&&qg x n)=((l.getD i oW).1==k&&qg (l.getD i oW) n||(l.drop (i+1)).any (fun x=>x.1==k&&qg x n)):=by
 rw [Go.Pol.drop_cons oW l i h,List.any_cons]
theorem ZL {x:Ru} {n:Int} (hf:x.2.1≤n) (he:x.2.2.1≠0) :
  qg x n=((x.2.1+(n - x.2.1) / x.2.2.1*x.2.2.1==n)&&(decide (x.2.2.2=0)||decide ((n - x.2.1) / x.2.2.1<x.2.2.2))):=by
 have hm:(x.2.1+(n - x.2.1) / x.2.2.1*x.2.2.1==n)=decide ((n - x.2.1) % x.2.2.1=0):=by
  rw [Bool.eq_iff_iff,beq_iff_eq,decide_eq_true_eq];have:=Int.mul_ediv_add_emod (n - x.2.1) x.2.2.1;rw [Int.mul_comm] at this;omega
 unfold qg;rw [if_neg he,hm,decide_eq_true hf,Bool.true_and]
def yX (p:Int):Bool:=decide (0≤p)&&decide (p<1024)
theorem uN {p:Int}:yX p=true↔0≤p∧p<1024:=by simp [yX]
theorem xy {p:Int}:yX p=false↔¬(0≤p∧p<1024):=by rw [←uN];simp
end Go.Pol
namespace Go.Proofs.YtjmmgoijnhnnaaaGreat
open Go Go.Proofs Go.RowKit Go.Pol Go.Shelf Tryz
theorem Pq (us:List Sp) (k:Nat) (hk:k<us.length) (p:Int):mem p (us.take (k+1))=(mem p (us.take k)||decide ((us.getD k (0,0)).1≤p∧p<(us.getD k (0,0)).1+(us.getD k (0,0)).2)):=by
 rw [wN us k hk,mem_append,mem_cons,fB,Bool.or_false];congr 1;rw [Bool.eq_iff_iff];simp
theorem SB (A:Option Addr) (n cap:Nat) (us:List Sp) (w:World) (hn:us.length=n) (hm:n≤1000000) (hr:RU w w.heap.size A us) (hv:∀x∈us,bB x=true) :
  Calls prog 197 #[.slice A n cap] w fun e w'=>∃cs,e= .returned (.agg cs)∧bC cs (fun k=>mem (k:Int) us)∧Below w.heap.size w w':=by
 obtain ⟨s,hs⟩:=aj (w.heap.size);obtain ⟨W0,hW0⟩:=aj ((w.alloc (.cells zeroCells231 231)).alloc (.cells zeroCells231 231));have hb0:Below s w W0:=by rw [←hW0,←hs];exact (aV w _).alloc (by simp) _
 have kR:ag W0 s 231 zeroCells231:=by rw [←hW0,←hs];exact (ag.new _ _ _).alloc _
 have kM:ag W0 (s+1) 231 zeroCells231:=by
  have:=ag.new (w.alloc (.cells zeroCells231 231)) 231 zeroCells231;rw [World.size_alloc,hs,hW0] at this;exact this
 have hZ:=fV;have hW1:=ae hW0;have hn':=ae hn;have hv':=ae hv;rw [hs] at hr;clear hW0 hn hv;go_enter func197,ntmps197;go_upto_region 2 with fail
 try simp only [Nat.add_assoc,Nat.reduceAdd]
 try rw [hs]
 rw [hW1.out];generalize zeroCells231=Z at *;clear hW1;go_wp2_with fail
 go_loopw [4] (fun i wr=>∃(k:Nat) (cs:Array Value),k≤n∧i= .int .i64 k∧ag wr s 231 Z∧ag wr (s+1) 231 cs∧bC cs (fun p=>mem (p:Int) (us.take k))∧Below s w wr) (fun i _=>n - (intOf i).toNat)
 case atStart=>exact ⟨0,Z,by omega,rfl,kR,kM,hZ.congr (fun k _=>by simp [fB]),hb0⟩
 case round =>
  obtain ⟨k,cs,hk,rfl,kR,kM,hM,hB⟩:=hrel;by_cases hlt:k<n
  ·have hlt':decide ((k:Int)<(n:Int))=true:=by simpa using hlt
   obtain ⟨b,o,rfl,hbl,hcw,hdw⟩:=RU.at_' hr (k:=k) (by have:=hn'.out;omega);have kZ:=av.1 (hv'.out (us.getD k (0,0)) (by rw [List.getD_eq_getElem?_getD,List.getElem?_eq_getElem (by have:=hn'.out;omega)];simp));have hst:=ae (Pq us k (by have:=hn'.out;omega));generalize us.getD k (0,0)=x at *;obtain ⟨xa,xb⟩:=x;dsimp only at hcw hdw kZ hst;have hc:=(hB.cell (p:=⟨b,o+k*2,none⟩) hbl).trans hcw;go_wp2_with fail
   go_loopw [5] (fun p wr=>∃(j:Nat) (cs:Array Value),(j:Int)≤xb∧p= .int .i64 (xa+j)∧ag wr s 231 Z∧ag wr (s+1) 231 cs∧bC cs (fun q=>mem (q:Int) (us.take k)||decide (xa≤(q:Int)∧(q:Int)<xa+j))∧Below s w wr) (fun p _=>(xa+xb - intOf p).toNat)
   case atStart=>exact ⟨0,cs,by omega,by simp,kR,kM,hM.congr (fun p _=>by rw [decide_eq_false (by omega),Bool.or_false]),hB⟩
   case round =>
    clear hM kM kR hc hB;obtain ⟨j,cs,hj,rfl,kR,kM,hM,hB⟩:=hrel;have oV:=hB.size;have hc:=(hB.cell (p:=⟨b,o+k*2,none⟩) hbl).trans hcw;have hd:=(hB.cell (p:=⟨b,o+k*2+1,none⟩) hbl).trans hdw;have e1:=fun z:Ext wr=>z.cell hc
    have e2:=fun z:Ext wr=>z.cell hd
    by_cases hjx:(j:Int)<xb
    ·have hj':decide (xa+(j:Int)<xa+xb)=true:=by simp;omega
     have hmm:=ae (hM.set (g:=fun q=>mem (q:Int) (us.take k)||decide (xa≤(q:Int)∧(q:Int)<xa+(j+1:Nat))) (xa+j).toNat (by omega) true (by
      have e:(((xa+(j:Int)).toNat:Nat):Int)=xa+j:=by omega
      simp only [e];rw [decide_eq_true (by omega),Bool.or_true]) (fun q hq=>by
      congr 1;exact decide_eq_decide.2 (by omega)))
     have hold:=hM.at_ (xa+j).toNat (by omega);generalize (mem (((xa+(j:Int)).toNat:Nat):Int) (us.take k)||decide (xa≤(((xa+(j:Int)).toNat:Nat):Int)∧(((xa+(j:Int)).toNat:Nat):Int)<xa+j))=B0 at hold;go_upto_region 6 with fail
     refine aF (by kernel_rfl) (by kernel_rfl) ?_
     repeat (go_big_quiet_step (fail))
     refine wpQuiet_nil ?_;rintro w2 ⟨⟨_,hw2⟩,rfl⟩;have DI:=kM.call hw2;have bT:=kR.call hw2;have hB2:=hB.trans (hw2.mono (by omega));have fM2:=DI.frozen;have cM2:w2.cell? ⟨s+1,(xa+(j:Int)).toNat,none⟩=some (.bool B0):=(DI.cell _).trans hold;have qB:af (fun k=>k=s+1) w2 (w2.setCell ⟨s+1,(xa+(j:Int)).toNat,none⟩ (.bool true)):=af.setCell (T:=fun k=>k=s+1) (p:=⟨s+1,(xa+(j:Int)).toNat,none⟩) (af.refl _ _) (fun _=>rfl) _;go_wp2_with fail;go_roundw
     case rel=>exact ⟨j+1,_,by omega,by go_num,qB.blk bT (by omega),DI.aO _ _,hmm.out,hB2.trans (qB.below (by have:=hB2.size;omega) (fun k hk=>by omega))⟩
     case measure=>simp [intOf];omega
    ·have hj':decide (xa+(j:Int)<xa+xb)=false:=by simp;omega
     have Za:(j:Int)=xb:=by omega
     have hM2:=hM.congr (g:=fun p=>mem (p:Int) (us.take (k+1))) (fun p _=>by rw [hst.out,Za]);go_upto_region 6 with fail
     refine aF (by kernel_rfl) (by kernel_rfl) ?_
     repeat (go_big_quiet_step (fail))
     refine wpQuiet_nil ?_;rintro w2 ⟨⟨_,hw2⟩,rfl⟩;have DI:=kM.call hw2;have bT:=kR.call hw2;have hB2:=hB.trans (hw2.mono (by omega));go_wp2_with fail;go_roundw
     case rel=>exact ⟨k+1,cs,by omega,by go_num,bT,DI,hM2,hB2⟩
     case measure=>simp [intOf];omega
  ·have hlt':decide ((k:Int)<(n:Int))=false:=by simp;omega
   have hkn:k=us.length:=by have:=hn'.out;omega
   have hMe:=hM.congr (g:=fun p=>mem (p:Int) us) (fun p _=>by rw [hkn,List.take_length]);have hsz:=hM.size;have hth:=BF kR;have hzs:=hZ.size;have hone:=hM.one
   go_wp2_with (first
    | (refine wpList_load_mid rfl 231 (.tmp 3) rfl (s+1) 0 rfl cs.toList _ (ed kM) underlying231 rfl (by rw [Array.length_toList,hsz];kernel_rfl) ?_;rw [Array.toArray_toList])
    | (refine wpList_store_mid rfl 231 (.tmp 2) (.tmp 34) rfl s 0 cs rfl rfl (by rw [hsz,←hzs];exact hth) (by rw [hsz];kernel_rfl) hone ?_))
   have hrg:=World.rangeAt_setCells_same wr s 0 cs.toList (by rw [Array.length_toList,hsz,←hzs];exact hth);have ZI:=below_setCells s (Nat.le_refl _) cs.toList 0 wr hB;generalize wr.setCells s 0 cs.toList=w9 at *;have hld:=run_loadVar_mid (P:=prog) w9 s 0 231 cs.toList _ hrg underlying231 rfl (by rw [Array.length_toList,hsz];kernel_rfl);rw [Array.toArray_toList] at hld;exact bodyPost_ret (v:=.agg cs) (vw rfl rfl hld) rfl ⟨cs,rfl,hMe,by rw [hs];exact ZI⟩
attribute [local go_sem] Oper.semAt_some aC au az ah
theorem JP:∀args w,(callFunc 158 args).run prog w= .ok (.enter 158 args) w:=enters_of func158 (by kernel_rfl) rfl
theorem JQ:∀args w,(callFunc 159 args).run prog w= .ok (.enter 159 args) w:=enters_of func159 (by kernel_rfl) rfl
theorem SC (b p:Nat) (V:Vm) (W:World) (hV:aD W b V) (hp:p<1024):Calls prog 158 #[.pointer (some ⟨b,1+p*66,none⟩)] W fun e W'=>e= .returned (.bool ((V.pg p).kind==2))∧Below W.heap.size W W':=by
 obtain ⟨cs,A,n,cap,hk,hc,_⟩:=hV.ex;have c0:=(hk.cell (1+p*66)).trans (hc.kind hp);generalize (V.pg p).kind=kd at *;clear hk hc hV;go_enter func158,ntmps158;go_wp2_with fail;go_ret;exact ⟨rfl,Below.refl _ _⟩
theorem SE (b p:Nat) (V:Vm) (W:World) (hV:aD W b V) (hp:p<1024):Calls prog 159 #[.pointer (some ⟨b,1+p*66,none⟩)] W fun e W'=>e= .returned (.tuple #[])∧aD W' b (V.iY p ((V.pg p).jh true))∧af (fun k=>k=b) W W':=by
 have hset:=ae (hV.CQ hp true);obtain ⟨cs,A,n,cap,hk,hc,_⟩:=hV.ex;have c0:=(hk.cell (1+p*66+1)).trans (hc.BZ hp);have f0:=hk.frozen;clear hk hc hV;go_enter func159,ntmps159;go_wp2_with fail
 go_end0
 exact ⟨rfl,hset.out.1,hset.out.2⟩
theorem SG (b:Nat) (p:Int) (V:Vm) (w:World) (hV:aD w b V) :
  Calls prog 92 #[.pointer (some ⟨b,0,none⟩),.int .i64 p] w fun e w'=>e= .returned (.int .i64 (Go.Pol.eO V p).1)∧dw b (Go.Pol.eO V p).2 w w':=by
 have HI:=ae (uD b V w hV);have HF:=ae (qi p w);have HM:=ae (Dm b 5 p 16 (fun g=>g.kind==2) (fun g=>g.jh true) _ _ #[] #[] V w hV (by omega) JP JQ (fun q hq V' W hW _=>SC b q V' W hW hq) (fun q hq V' W hW _=>SE b q V' W hW hq));have hV':=ae hV;obtain ⟨R,hR⟩:=aj (Go.Pol.eO V p);rw [hR];unfold Go.Pol.eO at hR;obtain ⟨re,rV⟩:=R;simp only;cases hf:lD p with
 | false =>
  rw [hf] at HF;rw [if_pos hf] at hR;simp only [Prod.mk.injEq] at hR;obtain ⟨rfl,rfl⟩:=hR;clear hf HM;go_enter func92,ntmps92;go_wp2_with fail;refine HI.out.mono ?_;rintro e9 w9 ⟨rfl,bH⟩;replace bH:=bH.symm;subst bH;go_wp2_with fail;refine HF.out.mono ?_;rintro e8 w8 ⟨rfl,hw8⟩;replace hw8:=hw8.symm;subst hw8;go_wp2_with fail;go_ret;exact ⟨rfl,hV'.out,af.refl _ _⟩
 | true =>
  rw [hf] at HF;rw [if_neg (by simp [hf])] at hR;have hp0:0≤p∧p<1024:=by
   unfold lD at hf;simp at hf;omega
  obtain ⟨q,rfl⟩:∃q:Nat,p=(q:Int):=⟨p.toNat,by omega⟩;simp only [Int.toNat_natCast] at hR;have hq:q<1024:=by omega
  have hq2:(q:Int)<1024:=by omega
  obtain ⟨cs,A,n,cap,hk,hc,_⟩:=hV.ex;have c1:=(hk.cell (1+q*66+1)).trans (hc.BZ hq);clear hk hc hf;cases hh:(V.pg q).dz with
  | true =>
   rw [hh] at c1;rw [if_pos hh] at hR;simp only [Prod.mk.injEq] at hR;obtain ⟨rfl,rfl⟩:=hR;clear hh HM;go_enter func92,ntmps92;go_wp2_with fail;refine HI.out.mono ?_;rintro e9 w9 ⟨rfl,bH⟩;replace bH:=bH.symm;subst bH;go_wp2_with fail;refine HF.out.mono ?_;rintro e8 w8 ⟨rfl,hw8⟩;replace hw8:=hw8.symm;subst hw8;go_wp2_with fail;go_ret;exact ⟨rfl,hV'.out,af.refl _ _⟩
  | false =>
   rw [hh] at c1;rw [if_neg (by simp [hh])] at hR;have hR':=ae hR;generalize gT V (q:Int) 16 5 (fun g=>g.kind==2) (fun g=>g.jh true)=M at *;obtain rfl:=hR;clear hh;unfold dw at HM;go_enter func92,ntmps92;go_wp2_with fail;refine HI.out.mono ?_;rintro e9 w9 ⟨rfl,bH⟩;replace bH:=bH.symm;subst bH;go_wp2_with fail;refine HF.out.mono ?_;rintro e8 w8 ⟨rfl,hw8⟩;replace hw8:=hw8.symm;subst hw8;go_wp2_with fail;refine HM.out.mono ?_;rintro e w1 ⟨rfl,V1,F1⟩;go_wp2_with fail;go_ret;exact ⟨rfl,V1,F1⟩
theorem Il:∀args w,(callFunc 163 args).run prog w= .ok (.enter 163 args) w:=enters_of func163 (by kernel_rfl) rfl
theorem Im:∀args w,(callFunc 164 args).run prog w= .ok (.enter 164 args) w:=enters_of func164 (by kernel_rfl) rfl
theorem Ps (b p:Nat) (V:Vm) (W:World) (hV:aD W b V) (hp:p<1024):Calls prog 163 #[.pointer (some ⟨b,1+p*66,none⟩)] W fun e W'=>e= .returned (.bool (V.pg p).dz)∧Below W.heap.size W W':=by
 obtain ⟨cs,A,n,cap,hk,hc,_⟩:=hV.ex;have c0:=(hk.cell (1+p*66+1)).trans (hc.BZ hp);generalize (V.pg p).dz=kd at *;clear hk hc hV;go_enter func163,ntmps163;go_wp2_with fail;go_ret;exact ⟨rfl,Below.refl _ _⟩
theorem Pt (b p:Nat) (V:Vm) (W:World) (hV:aD W b V) (hp:p<1024):Calls prog 164 #[.pointer (some ⟨b,1+p*66,none⟩)] W fun e W'=>e= .returned (.tuple #[])∧aD W' b (V.iY p ((V.pg p).jh false))∧af (fun k=>k=b) W W':=by
 have hset:=ae (hV.CQ hp false);obtain ⟨cs,A,n,cap,hk,hc,_⟩:=hV.ex;have c0:=(hk.cell (1+p*66+1)).trans (hc.BZ hp);have f0:=hk.frozen;clear hk hc hV;go_enter func164,ntmps164;go_wp2_with fail
 go_end0
 exact ⟨rfl,hset.out.1,hset.out.2⟩
theorem Pv (b:Nat) (p:Int) (V:Vm) (w:World) (hV:aD w b V) :
  Calls prog 94 #[.pointer (some ⟨b,0,none⟩),.int .i64 p] w fun e w'=>e= .returned (.int .i64 (lF V p).1)∧dw b (lF V p).2 w w':=by
 have HI:=ae (uD b V w hV);have HF:=ae (qi p w);have HM:=ae (Dm b 6 p 16 (fun g=>g.dz) (fun g=>g.jh false) _ _ #[] #[] V w hV (by omega) Il Im (fun q hq V' W hW _=>Ps b q V' W hW hq) (fun q hq V' W hW _=>Pt b q V' W hW hq));have hV':=ae hV;obtain ⟨R,hR⟩:=aj (lF V p);rw [hR];unfold lF at hR;obtain ⟨re,rV⟩:=R;simp only;cases hf:lD p with
 | false =>
  rw [hf] at HF;rw [if_pos hf] at hR;simp only [Prod.mk.injEq] at hR;obtain ⟨rfl,rfl⟩:=hR;clear hf HM;go_enter func94,ntmps94;go_wp2_with fail;refine HI.out.mono ?_;rintro e9 w9 ⟨rfl,bH⟩;replace bH:=bH.symm;subst bH;go_wp2_with fail;refine HF.out.mono ?_;rintro e9 w9 ⟨rfl,bH⟩;replace bH:=bH.symm;subst bH;go_wp2_with fail;go_ret;exact ⟨rfl,hV'.out,af.refl _ _⟩
 | true =>
  rw [hf] at HF;rw [if_neg (by simp [hf])] at hR;have hR':=ae hR;generalize gT V p 16 6 (fun g=>g.dz) (fun g=>g.jh false)=M at *;obtain rfl:=hR;unfold dw at HM;go_enter func94,ntmps94;go_wp2_with fail;refine HI.out.mono ?_;rintro e9 w9 ⟨rfl,bH⟩;replace bH:=bH.symm;subst bH;go_wp2_with fail;refine HF.out.mono ?_;rintro e9 w9 ⟨rfl,bH⟩;replace bH:=bH.symm;subst bH;go_wp2_with fail;refine HM.out.mono ?_;rintro e w1 ⟨rfl,V1,F1⟩;go_wp2_with fail;go_ret;exact ⟨rfl,V1,F1⟩
theorem ZJ:stR zeroCells189.toList=some (aM (.slice none 0 0) (fun _=>0) (fun _=>0)):=by kernel_rfl
theorem Ip (f:Nat→Int) (w:World):∀is:List Nat,(∀i∈is,i<7)→(Op.eqItems 9999 3 1 (fq .i64 7 f) (fq .i64 7 f) is).run prog w= .ok true w
 | [],_=>by simp [Op.eqItems]
 | i::is,h=>by
  have ih:=Ip f w is (fun j hj=>h j (by simp [hj]));have h1:=qy (k:=.i64) (f:=f) (h i (by simp));have a3:=Tryz.isAgg3;have he:=run_equalIn_int (P:=prog) w 9998 3 .i64 _ (f i) (f i) underlying3;generalize fq .i64 7 f=X at *;have p1:(part 3 X (i*1)).run prog w= .ok (.int .i64 (f i)) w:=by simp [part,a3,h1]
  rw [show (f i==f i)=true by simp] at he;simp only [Op.eqItems,Sem.run_bind,p1,he,Result.andThen_ok,Bool.not_true,Bool.false_eq_true,if_false];exact ih
theorem Py (f:Nat→Int) (w:World):(Op.equalIn 10000 67 (.agg (fq .i64 7 f)) (.agg (fq .i64 7 f))).run prog w= .ok true w:=by
 obtain ⟨i0,hi⟩:=info_of_underlying (P:=prog) underlying3;rw [run_equalIn_array w 9999 _ _ underlying67 hi];have hc:prog.cellsOf 3=1:=by kernel_rfl
 rw [hc];exact Ip f w _ (fun i hi=>List.mem_range.1 hi)
theorem zC (n a b:Int) (w:World):Calls prog 218 #[.int .i64 n,.int .i64 a,.int .i64 b] w fun e w'=>e= .returned (.bool (vz n a b))∧w=w':=by
 by_cases h1:a≤n
 ·have d1:decide (a≤n)=true:=by simpa using h1
  have hE:vz n a b=decide (n≤b):=by simp [vz,h1]
  rw [hE];clear hE h1;go_enter func218,ntmps218;go_wp2_with fail;go_ret;exact ⟨rfl,rfl⟩
 ·have d1:decide (a≤n)=false:=by simpa using h1
  have hE:vz n a b=false:=by simp [vz,h1]
  rw [hE];clear hE h1;go_enter func218,ntmps218;go_wp2_with fail;go_ret;exact ⟨rfl,rfl⟩
theorem SK (x:Ru) (w:World):Calls prog 211 #[NF x] w fun e w'=>e= .returned (.int .i64 (eT x))∧Below w.heap.size w w':=by
 obtain ⟨k,f,e,t⟩:=x;have hb0:=aV w (.cells #[.int .i64 k,.int .i64 f,.int .i64 e,.int .i64 t] 164);have k0:=ag.new w 164 #[.int .i64 k,.int .i64 f,.int .i64 e,.int .i64 t];have c0:=k0.cell;clear k0;obtain ⟨R,hR⟩:=aj (eT (k,f,e,t));rw [hR];unfold eT at hR;simp only at hR;have H1:=ae (fun W=>zC k 0 6 W);have H2:=ae (fun W=>zC f 1 10000 W);have H3:=ae (fun W=>zC e 0 12 W);have H4:=ae (fun W=>zC t 0 1000 W);have hE:Hid ((vz k 0 6=false→R=2)∧(vz k 0 6=true→(vz f 1 10000&&vz e 0 12&&vz t 0 1000)=false→R=7) ∧
   (vz k 0 6=true→vz f 1 10000=true→vz e 0 12=true→vz t 0 1000=true→R=if e=0∧t≠1 then 6 else 0)):=ae (by
  simp only [Bool.and_eq_false_iff,SI,zA];refine ⟨fun h=>?_,fun h h2=>?_,fun h h2 h3 h4=>?_⟩
  ·rw [←hR,if_pos (by omega)]
  ·rw [←hR,if_neg (by omega),if_pos (by omega)]
  ·rw [←hR,if_neg (by omega),if_neg (by omega)])
 generalize vz k 0 6=b1 at *;generalize vz f 1 10000=b2 at *;generalize vz e 0 12=b3 at *;generalize vz t 0 1000=b4 at *;clear hR;go_enter func211,ntmps211;go_wp2_with fail;refine (H1.out _).mono ?_;rintro e9 w9 ⟨rfl,rfl⟩;cases b1 with
 | false =>
  have hr:=hE.out.1 rfl;subst hr;go_wp2_with fail;go_ret;exact ⟨rfl,hb0⟩
 | true =>
  have hE2:=ae (hE.out.2.1 rfl);have hE3:=ae (hE.out.2.2 rfl);clear hE H1;go_wp2_with fail;refine (H2.out _).mono ?_;rintro e9 w9 ⟨rfl,rfl⟩;cases b2 with
  | false =>
   have hr:=hE2.out rfl;subst hr;go_wp2_with fail;go_ret;exact ⟨rfl,hb0⟩
  | true =>
   have hE4:=ae (hE3.out rfl);clear hE3 H2;go_wp2_with fail;refine (H3.out _).mono ?_;rintro e9 w9 ⟨rfl,rfl⟩;cases b3 with
   | false =>
    have hr:=hE2.out rfl;subst hr;go_wp2_with fail;go_ret;exact ⟨rfl,hb0⟩
   | true =>
    have hE5:=ae (hE4.out rfl);clear hE4 H3;go_wp2_with fail;refine (H4.out _).mono ?_;rintro e9 w9 ⟨rfl,rfl⟩;cases b4 with
    | false =>
     have hr:=hE2.out rfl;subst hr;go_wp2_with fail;go_ret;exact ⟨rfl,hb0⟩
    | true =>
     have hr:=hE5.out rfl;clear hE5 hE2 H4;by_cases c9:e=0
     ·subst c9
      by_cases c10:t=1
      ·have d10:(t != 1)=false:=by simpa using c10
       rw [if_neg (by omega)] at hr;subst hr;clear c10;go_wp2_with fail;go_ret;exact ⟨rfl,hb0⟩
      ·have d10:(t != 1)=true:=by simpa using c10
       rw [if_pos ⟨rfl,c10⟩] at hr;subst hr;clear c10;go_wp2_with fail;go_ret;exact ⟨rfl,hb0⟩
     ·have d9:(e==0)=false:=by simpa using c9
      rw [if_neg (by omega)] at hr;subst hr;clear c9;go_wp2_with fail;go_ret;exact ⟨rfl,hb0⟩
theorem xO (A:Option Addr) (n cap:Nat) (l:List Ru) (w:World) (hn:l.length=n) (hr:Rd w w.heap.size A (fl iN l)) :
  Calls prog 193 #[.agg #[.slice A n cap]] w fun e w'=>e= .returned (.tuple #[.int .i64 (ic l).1,.int .i64 (ic l).2])∧Below w.heap.size w w':=by
 have hb0:=aV w (.cells #[.slice A n cap] 28);have k0:=ag.new w 28 #[.slice A n cap];have c0:=k0.cell;have r0:=hr.fw hb0;obtain ⟨R,hR⟩:=aj (ic l);rw [hR];obtain ⟨ri,re⟩:=R;unfold ic at hR;have hn':=ae hn;by_cases h50:50<n
 ·have d1:decide (50<(n:Int))=true:=by rw [decide_eq_true_eq];omega
  have hE:Hid ((ri,re)=(0,3)):=ae (by rw [←hR,if_pos (by omega)]);clear hR hr r0 k0 hn h50;go_enter func193,ntmps193;go_wp2_with fail;go_ret2;have h:=hE.out;simp only [Prod.mk.injEq] at h;exact ⟨by rw [h.1,h.2];rfl,hb0⟩
 ·have d1:decide (50<(n:Int))=false:=by rw [decide_eq_false_iff_not];omega
  rw [if_neg (by omega)] at hR;have hR':=ae hR;clear hR hr hn;obtain ⟨s,hs⟩:=aj (w.heap.size);have HR:=ae (fun x W=>SK x W);have hs':=ae hs;go_enter func193,ntmps193;go_upto_region 3 with fail
  generalize w.alloc (.cells #[.slice A n cap] 28)=w0 at *;rw [hs] at hb0 k0 c0;try simp only [hs]
  clear hs;have SN:=ae k0;clear k0;go_wp2_with fail
  go_loopw [4] (fun u wr=>∃i:Nat,i≤n∧u= .int .i64 i∧Hid (xG i (l.drop i)=(ri,re))∧Below w0.heap.size w0 wr) (fun u _=>n - (intOf u).toNat)
  case atStart=>exact ⟨0,by omega,rfl,ae hR'.out,Below.refl _ _⟩
  case round =>
   clear hR' c0;obtain ⟨i,hi,rfl,hR,hB⟩:=hrel;have kr:=SN.out.call hB;have cr:=kr.cell;by_cases hlt:i<n
   ·have hlt':decide ((i:Int)<(n:Int))=true:=by simpa using hlt
    have hst:=FX l i (by have:=hn'.out;omega);rw [hR.out] at hst;obtain ⟨b,o,rfl,hb,hc⟩:=(r0.fw hB).elem jJ (by omega) oW (k:=i) (by have:=hn'.out;omega);generalize l.getD i oW=x at *;have hcl:=HR.out x;obtain ⟨k,f,e,t⟩:=x;have x0:=hc 0 _ rfl;have x1:=hc 1 _ rfl;have x2:=hc 2 _ rfl;have x3:=hc 3 _ rfl;simp only [Nat.add_zero] at x0;generalize eT (k,f,e,t)=er at *;have hst':=ae hst;have hcl':=ae hcl;have hin:(i:Int)<(n:Int):=by omega
    clear hc hst hcl;by_cases he:er=0
    ·subst he
     have df:Hid (xG (i+1) (l.drop (i+1))=(ri,re)):=ae (by rw [hst'.out,if_neg (by simp)]);clear hst';go_wp2_with fail;refine (hcl'.out _).mono ?_;rintro e9 w1 ⟨rfl,hb1⟩;go_wp2_with fail;go_roundw
     case rel=>exact ⟨i+1,by omega,by go_num,df,hB.trans (hb1.mono hB.size)⟩
     case measure=>simp [intOf];omega
    ·have he':(er != 0)=true:=by simpa using he
     have df:Hid ((ri,re)=((i:Int),er)):=ae (by rw [hst'.out,if_pos he]);clear hst' he;go_wp2_with fail;refine (hcl'.out _).mono ?_;rintro e9 w1 ⟨rfl,hb1⟩;go_wp2_with fail;go_ret2;have h:=df.out;simp only [Prod.mk.injEq] at h;exact ⟨by rw [h.1,h.2];rfl,by rw [hs'.out];exact hb0.trans ((hB.trans (hb1.mono hB.size)).mono (by have:=hb0.size;have:=hs'.out;omega))⟩
   ·obtain rfl:i=n:=by omega
    have hlt':decide ((i:Int)<(i:Int))=false:=by simp
    have hE:(0,0)=(ri,re):=by
     have:=hR.out;rw [List.drop_of_length_le (by have:=hn'.out;omega)] at this;exact this
    simp only [Prod.mk.injEq] at hE;obtain ⟨rfl,rfl⟩:=hE;go_wp2_with fail;go_ret2;exact ⟨rfl,by rw [hs'.out];exact hb0.trans (hB.mono (by have:=hb0.size;have:=hs'.out;omega))⟩
theorem ML (x:Ru) (k n:Int) (w:World) (hx:eT x=0) (hn:1≤n∧n≤1000000) :
  Calls prog 236 #[NF x,.int .i64 k,.int .i64 n] w fun e w'=>e= .returned (.bool (x.1==k&&qg x n))∧Below w.heap.size w w':=by
 obtain ⟨_,h1,h2,h3,h4⟩:=jv.1 hx;have hrf:=fun a b=>ZL (x:=x) (n:=n) a b
 have hlow:n<x.2.1→qg x n=false:=fun h=>by unfold qg;rw [decide_eq_false (by omega)];rfl
 have hzero:x.2.1≤n→x.2.2.1=0→qg x n=(n==x.2.1):=fun h h'=>by
  unfold qg;rw [decide_eq_true h,if_pos h',Bool.true_and];rw [Bool.eq_iff_iff];simp
 obtain ⟨xk,f,e,t⟩:=x;simp only at h1 h2 h3 h4 hrf hlow hzero;generalize qg (xk,f,e,t) n=R at *;have hb0:=aV w (.cells #[.int .i64 xk,.int .i64 f,.int .i64 e,.int .i64 t] 164);have k0:=ag.new w 164 #[.int .i64 xk,.int .i64 f,.int .i64 e,.int .i64 t];have c0:=k0.cell;by_cases c1:xk=k
 ·subst c1
  have d1:(xk != xk)=false:=by simp
  by_cases c2:n<f
  ·have d2:decide (n<f)=true:=by simpa using c2
   have hE:=ae (hlow c2);clear hrf hlow hzero hx h1 h2 h3 h4 c2 k0;go_enter func236,ntmps236;go_wp2_with fail;go_ret;exact ⟨dF (by simp [hE.out]),hb0⟩
  ·have d2:decide (n<f)=false:=by simpa using c2
   by_cases c3:e=0
   ·subst c3
    have hE:=ae (hzero (by omega) rfl);clear hrf hlow hzero hx h1 h2 h3 h4 c2 k0;go_enter func236,ntmps236;go_wp2_with fail;go_ret;exact ⟨dF (by simp [hE.out]),hb0⟩
   ·have d3:(e==0)=false:=by simpa using c3
    have hE:=hrf (by omega) c3;obtain ⟨q,hq⟩:=aj ((n - f) / e);have hq0:0≤q:=by rw [←hq];exact Int.ediv_nonneg (by omega) (by omega)
    have hqe:q*e≤n - f:=by rw [←hq];exact Int.ediv_mul_le _ c3
    have ajw:0≤q*e:=Int.mul_nonneg hq0 (by omega);have w1:IntKind.i64.wrap (n - f)=n - f:=by rw [IntKind.wrap_i64];omega
    have w1':wrap64 (n - f)=n - f:=by unfold wrap64;omega
    have tq:Int.tdiv (n - f) e=q:=by rw [Int.tdiv_eq_ediv_of_nonneg (by omega)];exact hq
    have hqn:q≤n - f:=by
     rw [←hq];exact Int.ediv_le_self _ (by omega)
    have w2:wrap64 q=q:=by unfold wrap64;omega
    have w3:IntKind.i64.wrap (q*e)=q*e:=by rw [IntKind.wrap_i64];omega
    have w3':wrap64 (q*e)=q*e:=by unfold wrap64;omega
    have w4:IntKind.i64.wrap (f+q*e)=f+q*e:=by rw [IntKind.wrap_i64];omega
    have w4':wrap64 (f+q*e)=f+q*e:=by unfold wrap64;omega
    rw [hq] at hE;have hE':=ae hE;have hne:e≠0:=c3;have anX:¬e = -1:=by omega
    clear hrf hlow hzero hx h1 h2 h3 h4 c2 k0 hq hqe ajw hqn hq0 hE c3;by_cases c5:f+q*e=n
    ·have d5:(f+q*e==n)=true:=by simpa using c5
     by_cases c4:t=0
     ·subst c4
      have hE2:Hid (true=R):=ae (by rw [hE'.out,d5];rfl);clear hE' c5;go_enter func236,ntmps236;go_wp2_with fail;go_ret;exact ⟨dF (by simp [←hE2.out]),hb0⟩
     ·have d4:(t==0)=false:=by simpa using c4
      have hE2:Hid (decide (q<t)=R):=ae (by rw [hE'.out,d5,decide_eq_false c4];rfl);clear hE' c5 c4;go_enter func236,ntmps236;go_wp2_with fail;go_ret;exact ⟨dF (by simp [←hE2.out]),hb0⟩
    ·have d5:(f+q*e==n)=false:=by simpa using c5
     have hE2:Hid (false=R):=ae (by rw [hE'.out,d5];rfl);clear hE' c5;go_enter func236,ntmps236;go_wp2_with fail;go_ret;exact ⟨dF (by simp [←hE2.out]),hb0⟩
 ·have d1:(xk != k)=true:=by simpa using c1
  have d2:(xk==k)=false:=by simpa using c1
  clear hrf hlow hzero hx h1 h2 h3 h4 k0;go_enter func236,ntmps236;go_wp2_with fail;go_ret;exact ⟨dF (by simp),hb0⟩
theorem Ag (A:Option Addr) (n cap:Nat) (l:List Ru) (k nn:Int) (w:World) (hn:l.length=n) (hm:n≤1000) (hok:∀x∈l,eT x=0) (hnn:1≤nn∧nn≤1000000) (hr:Rd w w.heap.size A (fl iN l)) :
  Calls prog 219 #[.agg #[.slice A n cap],.int .i64 k,.int .i64 nn] w fun e w'=>e= .returned (.bool (nT l k nn))∧Below w.heap.size w w':=by
 have hb0:=aV w (.cells #[.slice A n cap] 28);have k0:=ag.new w 28 #[.slice A n cap];have r0:=hr.fw hb0;have HR:=ae (fun (i:Nat) (hi:i<n) W=>ML (l.getD i oW) k nn W (hok _ (Ea (by omega))) hnn);have hst:=ae (fun i h=>WH l k nn i h);obtain ⟨R,hR⟩:=aj (nT l k nn);rw [hR];have hR':Hid (l.any (fun x=>x.1==k&&qg x nn)=R):=ae hR;have hn':=ae hn;clear hR hr hn hok;obtain ⟨s,hs⟩:=aj (w.heap.size);have hs':=ae hs;go_enter func219,ntmps219;go_upto_region 1 with fail
 generalize w.alloc (.cells #[.slice A n cap] 28)=w0 at *;rw [hs] at hb0 k0;try simp only [hs]
 have SN:=ae k0;clear k0 hs;go_wp2_with fail
 go_loopw [7] (fun u wr=>∃i:Nat,i≤n∧u= .int .i64 i∧Hid ((l.drop i).any (fun x=>x.1==k&&qg x nn)=R)∧Below w0.heap.size w0 wr) (fun u _=>n - (intOf u).toNat)
 case atStart=>exact ⟨0,by omega,rfl,hR',Below.refl _ _⟩
 case round =>
  clear hR';obtain ⟨i,hi,rfl,hR,hB⟩:=hrel;have kr:=SN.out.call hB;have cr:=kr.cell;by_cases hlt:i<n
  ·have hlt':decide ((i:Int)<(n:Int))=true:=by simpa using hlt
   have hin:(i:Int)<(n:Int):=by omega
   have hs2:=hst.out i (by have:=hn'.out;omega);rw [hR.out] at hs2;have ZM:=ae (HR.out i hlt);obtain ⟨b,o,rfl,hb,hc⟩:=(r0.fw hB).elem jJ (by omega) oW (k:=i) (by have:=hn'.out;omega);generalize l.getD i oW=x at *;obtain ⟨xk,f,e,t⟩:=x;have x0:=hc 0 _ rfl;have x1:=hc 1 _ rfl;have x2:=hc 2 _ rfl;have x3:=hc 3 _ rfl;simp only [Nat.add_zero] at x0;generalize ((xk,f,e,t).1==k&&qg (xk,f,e,t) nn)=B at *;have hs3:=ae hs2;clear hc hs2 hR;cases B with
   | true =>
    go_wp2_with fail;refine (ZM.out _).mono ?_;rintro e9 w1 ⟨rfl,hb1⟩;go_wp2_with fail;go_ret;exact ⟨dF (by rw [hs3.out];rfl),by rw [hs'.out];exact hb0.trans ((hB.trans (hb1.mono hB.size)).mono (by have:=hb0.size;have:=hs'.out;omega))⟩
   | false =>
    go_wp2_with fail;refine (ZM.out _).mono ?_;rintro e9 w1 ⟨rfl,hb1⟩;go_wp2_with fail;go_roundw
    case rel=>exact ⟨i+1,by omega,by go_num,ae (by rw [hs3.out];rfl),hB.trans (hb1.mono hB.size)⟩
    case measure=>simp [intOf];omega
  ·obtain rfl:i=n:=by omega
   have hlt':decide ((i:Int)<(i:Int))=false:=by simp
   have hE:=hR.out;rw [List.drop_of_length_le (by have:=hn'.out;omega)] at hE;have hE':Hid (false=R):=ae hE;clear hE hR;go_wp2_with fail;go_ret;exact ⟨dF hE'.out,by rw [hs'.out];exact hb0.trans (hB.mono (by have:=hb0.size;have:=hs'.out;omega))⟩
theorem SQ (A:Option Addr) (n cap:Nat) (l:List Ru) (k:Int) (lim:Nat) (w:World) (hn:l.length=n) (hn1:n≤1000) (hok:∀x∈l,eT x=0) (hl:lim≤1000000) (hr:Rd w w.heap.size A (fl iN l)) :
  Calls prog 235 #[.agg #[.slice A n cap],.int .i64 k,.int .i64 lim] w fun e w'=>e= .returned (.int .i64 (nI l k lim))∧Below w.heap.size w w':=by
 have hb0:=aV w (.cells #[.slice A n cap] 28);have k0:=ag.new w 28 #[.slice A n cap];have r0:=hr.fw hb0;have HR:=ae (fun (i:Nat) (hi:i<lim) W (h:Rd W W.heap.size A (fl iN l))=>Ag A n cap l k ((i:Int)+1) W hn hn1 hok ⟨by omega,by omega⟩ h);have hst:=ae (fun i=>show nI l k (i+1)=nI l k i+if nT l k ((i:Int)+1)=true then 1 else 0 from rfl);have hbd:=ae (fun i=>uB l k i);have h00:nI l k 0=0:=rfl;have ajx:=ae h00;clear hr hn hok h00;obtain ⟨s,hs⟩:=aj (w.heap.size);have hs':=ae hs;generalize nI l k=F at *;go_enter func235,ntmps235;go_upto_region 1 with fail
 generalize w.alloc (.cells #[.slice A n cap] 28)=w0 at *;rw [hs] at hb0 k0;try simp only [hs]
 have SN:=ae k0;clear k0 hs;go_wp2_with fail
 go_loopw [7,8] (fun u v wr=>∃(i:Nat) (c:Int),i≤lim∧u= .int .i64 c∧v= .int .i64 ((i:Int)+1)∧Hid (c=F i)∧Below w0.heap.size w0 wr) (fun _ v _=>lim+1 - (intOf v).toNat)
 case atStart=>exact ⟨0,0,by omega,rfl,rfl,ae ajx.out.symm,Below.refl _ _⟩
 case round =>
  obtain ⟨i,c,hi,rfl,rfl,hc,hB⟩:=hrel;have kr:=SN.out.call hB;have cr:=kr.cell;by_cases hlt:i<lim
  ·have hlt':decide ((i:Int)+1≤(lim:Int))=true:=by rw [decide_eq_true_eq];omega
   have ZM:=ae (HR.out i hlt wr (r0.fw hB));have hs2:=hst.out i;rw [←hc.out] at hs2;have hcb:=hbd.out i;rw [←hc.out] at hcb;generalize nT l k ((i:Int)+1)=B at *;have hs3:=ae hs2;have hwi:wrap64 ((i:Int)+1+1)=(((i+1:Nat):Int))+1:=by unfold wrap64;omega
   clear hs2 hc;cases B with
   | true =>
    have hwc:wrap64 (c+1)=c+1:=by unfold wrap64;omega
    go_wp2_with fail;refine ZM.out.mono ?_;rintro e9 w1 ⟨rfl,hb1⟩;go_wp2_with fail;go_roundw
    case rel=>exact ⟨i+1,c+1,by omega,rfl,rfl,ae (by rw [hs3.out];rfl),hB.trans (hb1.mono hB.size)⟩
    case measure=>simp [intOf];omega
   | false =>
    go_wp2_with fail;refine ZM.out.mono ?_;rintro e9 w1 ⟨rfl,hb1⟩;go_wp2_with fail;go_roundw
    case rel=>exact ⟨i+1,c,by omega,rfl,rfl,ae (by rw [hs3.out];simp),hB.trans (hb1.mono hB.size)⟩
    case measure=>simp [intOf];omega
  ·obtain rfl:i=lim:=by omega
   have hlt':decide ((i:Int)+1≤(i:Int))=false:=by rw [decide_eq_false_iff_not];omega
   go_wp2_with fail;go_ret;exact ⟨AV hc.out,by rw [hs'.out];exact hb0.trans (hB.mono (by have:=hb0.size;have:=hs'.out;omega))⟩
theorem DJ (A:Option Addr) (n cap:Nat) (S:Rf) (w:World) (hS:uC S) (hn:S.rules.length=n) (hr:Rd w w.heap.size A (fl iN S.rules)) :
  Calls prog 217 #[gK (.slice A n cap) S.calls S.hits] w fun e w'=>e= .returned (.int .i64 0)∧Below w.heap.size w w':=by
 obtain ⟨l,cs,hs⟩:=S;obtain ⟨h1,h2,h3⟩:=hS;simp only at h1 h2 h3 hn hr;simp only;obtain ⟨hlen,hok⟩:=mX.1 h1;have NM:n≤50:=by omega
 have HC:=ae (fun W h=>xO A n cap l W hn h);rw [h1] at HC;generalize (ic l).1=ci at *;have hb0:=aV w (.cells (aM (.slice A n cap) cs hs).toArray 69);have k0:=ag.new w 69 (aM (.slice A n cap) cs hs).toArray;have r0:=hr.fw hb0;obtain ⟨s,hsz⟩:=aj (w.heap.size);have hh2:=ae h2;have hh3:=ae h3;have hok':=ae hok;have hn':=ae hn;clear hr h1 h2 h3 hok hn;unfold gK aM;unfold aM at hb0 k0 r0;go_enter func217,ntmps217;go_upto_region 1 with fail
 generalize w.alloc _=w0 at *;rw [hsz] at hb0 k0;try simp only [hsz]
 have hsz':=ae hsz;clear hsz;have c0:=k0.cell;go_wp2_with fail;refine (HC.out _ r0).mono ?_;rintro e w1 ⟨rfl,hb1⟩;have k1:ag w1 s 69 (aM (.slice A n cap) cs hs).toArray:=k0.call hb1;have r1:=r0.fw hb1;have B1:=hb0.trans (hb1.mono (by have:=hb0.size;have:=hsz'.out;omega));clear c0 k0 r0 hb0 hb1 HC;go_wp2_with fail
 go_loopw [5] (fun u wr=>∃j:Nat,j≤7∧u= .int .i64 j∧wr=w1) (fun u _=>7 - (intOf u).toNat)
 case atStart=>exact ⟨0,by omega,rfl,rfl⟩
 case round =>
  obtain ⟨j,hj,rfl,hw⟩:=hrel;have hw':=hw.symm;clear hw;subst hw';by_cases hlt:j<7
  ·have hlt':decide ((j:Int)<7)=true:=by simp;omega
   have hin:(j:Int)<7:=by omega
   have AR:=hh2.out j hlt;have hcell:=(k1.cell (1+j)).trans (mZ (.slice A n cap) cs hs hlt);have HI:=zC (cs j) 0 1000000 w1;rw [zA.2 AR] at HI;have HI':=ae HI;generalize cs j=m at *;clear HI AR;go_wp2_with fail;refine HI'.out.mono ?_;rintro e9 w9 ⟨rfl,rfl⟩;go_wp2_with fail;go_roundw
   case rel=>exact ⟨j+1,by omega,by go_num,trivial⟩
   case measure=>simp [intOf];omega
  ·obtain rfl:j=7:=by omega
   have hlt':decide (((7:Nat):Int)<7)=false:=by simp
   go_wp2_with fail
   go_loopw [6] (fun u wr=>∃j:Nat,j≤7∧u= .int .i64 j∧Below w1.heap.size w1 wr) (fun u _=>7 - (intOf u).toNat)
   case atStart=>exact ⟨0,by omega,rfl,Below.refl _ _⟩
   case round =>
    clear hlt hj hlt';obtain ⟨j,hj,rfl,hB⟩:=hrel;by_cases hlt:j<7
    ·have hlt':decide ((j:Int)<7)=true:=by simp;omega
     have hin:(j:Int)<7:=by omega
     have AR:=hh2.out j hlt;have hhi:=hh3.out j hlt;have kr:=k1.call hB;have hcell:=(kr.cell (8+j)).trans (vL (.slice A n cap) cs hs hlt);rw [hhi] at hcell;have MM:=(kr.cell (1+j)).trans (mZ (.slice A n cap) cs hs hlt);obtain ⟨m,hm⟩:∃m:Nat,cs j=(m:Int):=⟨(cs j).toNat,by omega⟩;rw [hm] at hcell AR MM;simp only [Int.toNat_natCast] at hcell;have G:=ae (fun z:Ext wr=>Ext.call (x:=z) (SQ A n cap l (j:Int) m z.w hn'.out (by omega) hok'.out (by omega) ((r1.fw hB).fw z.le)));generalize nI l (j:Int) m=H at *;have d3:(H != H)=false:=by simp
     have z0:=fun z:Ext wr=>z.cell (show wr.cell? ⟨s,0,none⟩=some (.slice A n cap) from (kr.cell 0).trans rfl)
     have zh:=fun z:Ext wr=>z.cell hcell
     have zc:=fun z:Ext wr=>z.cell MM
     clear hhi hm hcell MM kr;go_upto_region 12 with fail
     refine aF (by kernel_rfl) (by kernel_rfl) ?_
     repeat (go_big_quiet_step ((go_at_call 235;exact G.out _)))
     refine wpQuiet_nil ?_;rintro w2 ⟨⟨_,hw2⟩,rfl⟩;clear z0 zh zc;go_wp2_with fail;go_roundw
     case rel=>exact ⟨j+1,by omega,by go_num,hB.trans (hw2.mono hB.size)⟩
     case measure=>simp [intOf];omega
    ·obtain rfl:j=7:=by omega
     have hlt':decide (((7:Nat):Int)<7)=false:=by simp
     go_wp2_with fail;go_ret;exact ⟨rfl,by rw [hsz'.out];exact B1.trans (hB.mono (by have:=B1.size;have:=hsz'.out;omega))⟩
def Iq (v:Value) (l:List Ru) (w:World) (e:Ending) (w':World):Prop :=
 e= .returned (.tuple #[if (ic l).2=0 then gK v (fun _=>0) (fun _=>0) else gK (.slice none 0 0) (fun _=>0) (fun _=>0),.int .i64 (ic l).2])∧Below w.heap.size w w'
theorem Pz (A:Option Addr) (n cap:Nat) (l:List Ru) (w:World) (hn:l.length=n) (hr:Rd w w.heap.size A (fl iN l)) :
  Calls prog 140 #[.agg #[.slice A n cap]] w (Iq (.slice A n cap) l w):=by
 have HC:=ae (fun W h=>xO A n cap l W hn h);have hb0:=aV w (.cells #[.slice A n cap] 28);have k0:=ag.new w 28 #[.slice A n cap];unfold Iq;generalize hR:ic l=R at *;obtain ⟨ri,re⟩:=R;simp only at HC ⊢;clear hR hn;obtain ⟨s,hs⟩:=aj (w.heap.size);have hs':=ae hs;have hb1:=hb0.alloc (by simp) (.cells (aM (.slice none 0 0) (fun _=>0) (fun _=>0)).toArray 69);have k1:=k0.alloc (.cells (aM (.slice none 0 0) (fun _=>0) (fun _=>0)).toArray 69);have b1:=ag.new (w.alloc (.cells #[.slice A n cap] 28)) 69 (aM (.slice none 0 0) (fun _=>0) (fun _=>0)).toArray;rw [World.size_alloc,hs] at b1;rw [hs] at k1;unfold aM at b1 k1 hb1;go_enter func140,ntmps140;go_upto_region 1 with fail
 generalize (w.alloc (.cells #[.slice A n cap] 28)).alloc _=w1 at *;have r1:=hr.fw hb1;have c1:=k1.cell;clear k0 hb0 hr hs;go_wp2_with fail;refine (HC.out _ r1).mono ?_;rintro e w2 ⟨rfl,hb2⟩;have k2:=k1.call hb2;have c2:=k2.cell;have b2:=b1.call hb2;have B2:=hb1.trans (hb2.mono hb1.size);clear r1 c1 k1 b1 hb1 hb2 HC;by_cases he:re=0
 ·subst he
  go_wp2_with (refine wpList_store_mid rfl 69 (.tmp 2) (.tmp 16) rfl (s+1) 0 (aM (.slice A n cap) (fun _=>0) (fun _=>0)).toArray rfl rfl (dP b2 0 15 (by simp)) dM (Go.all_oneCell_toArray (jK rfl _ _)) ?_)
  have k4:=ag.puts (g:=s+1) (t:=69) (w:=w2) (cs:=#[]) (aM (.slice A n cap) (fun _=>0) (fun _=>0)) 0 w2 _ b2;rw [eB (by rfl)] at k4;have iI:=af.puts (T:=fun k=>k=s+1) rfl (aM (.slice A n cap) (fun _=>0) (fun _=>0)) 0 w2 w2 (af.refl _ _);generalize (w2).setCells (s+1) 0 (aM (.slice A n cap) (fun _=>0) (fun _=>0))=w4 at *;have hl4:=run_loadVar_mid (P:=prog) w4 (s+1) 0 69 (aM (.slice A n cap) (fun _=>0) (fun _=>0)) _ (fun j v hj=>by rw [Nat.zero_add,k4.cell];simpa using hj) underlying69 rfl dM;have hB4:Below w.heap.size w2 w4:=iI.below (by have:=B2.size;omega) (fun k hk e=>by have:=hs'.out;omega);refine bodyPost_ret (v:=.tuple #[gK (.slice A n cap) (fun _=>0) (fun _=>0),.int .i64 0]) ?_ rfl ?_
  ·exact fZ results140 rfl hl4
  exact ⟨rfl,B2.trans hB4⟩
 ·have he':(re != 0)=true:=by simpa using he
  go_wp2_with (refine wpList_store_mid rfl 69 (.tmp 2) (.tmp 13) rfl (s+1) 0 (aM (.slice none 0 0) (fun _=>0) (fun _=>0)).toArray rfl rfl (dP b2 0 15 (by simp)) dM (Go.all_oneCell_toArray (jK rfl _ _)) ?_)
  have k4:=ag.puts (g:=s+1) (t:=69) (w:=w2) (cs:=#[]) (aM (.slice none 0 0) (fun _=>0) (fun _=>0)) 0 w2 _ b2;rw [eB (by rfl)] at k4;have iI:=af.puts (T:=fun k=>k=s+1) rfl (aM (.slice none 0 0) (fun _=>0) (fun _=>0)) 0 w2 w2 (af.refl _ _);generalize (w2).setCells (s+1) 0 (aM (.slice none 0 0) (fun _=>0) (fun _=>0))=w4 at *;have hl4:=run_loadVar_mid (P:=prog) w4 (s+1) 0 69 (aM (.slice none 0 0) (fun _=>0) (fun _=>0)) _ (fun j v hj=>by rw [Nat.zero_add,k4.cell];simpa using hj) underlying69 rfl dM;have hB4:Below w.heap.size w2 w4:=iI.below (by have:=B2.size;omega) (fun k hk e=>by have:=hs'.out;omega);refine bodyPost_ret (v:=.tuple #[gK (.slice none 0 0) (fun _=>0) (fun _=>0),.int .i64 re]) ?_ rfl ?_
  ·exact fZ results140 rfl hl4
  exact ⟨rfl,B2.trans hB4⟩
def MN (v:Value) (S:Rf) (k:Nat) (w:World) (e:Ending) (w':World):Prop :=
 (S.calls k=1000000∧e= .returned (.tuple #[gK (.slice none 0 0) (fun _=>0) (fun _=>0),.bool false,.int .i64 3])∧Below w.heap.size w w') ∨
 (S.calls k≠1000000∧e= .returned (.tuple #[gK v (fe S k).calls (fe S k).hits,.bool (qC S k),.int .i64 0])∧Below w.heap.size w w')
theorem PD (A:Option Addr) (n cap:Nat) (S:Rf) (k:Nat) (w:World) (hS:uC S) (hk:k<7) (hn:S.rules.length=n) (hr:Rd w w.heap.size A (fl iN S.rules)) :
  Calls prog 200 #[gK (.slice A n cap) S.calls S.hits,.int .i64 k] w (MN (.slice A n cap) S k w):=by
 obtain ⟨h1,h2,h3⟩:=hS;obtain ⟨hlen,hok⟩:=mX.1 h1;have NM:n≤50:=by omega
 have hck:=h2 k hk;have HC:=ae (fun W h=>DJ A n cap S W ⟨h1,h2,h3⟩ hn h);have HI:=ae (fun W=>zC (k:Int) 0 6 W);rw [zA.2 (by omega)] at HI;obtain ⟨Q,hQ⟩:=aj (MN (.slice A n cap) S k w);rw [hQ];have Jm:=ae (fun (h:S.calls k=1000000) w' (hb:Below w.heap.size w w')=>show Q (.returned (.tuple #[gK (.slice none 0 0) (fun _=>0) (fun _=>0),.bool false,.int .i64 3])) w' by rw [←hQ];exact .inl ⟨h,rfl,hb⟩);have Gc:=ae (fun (h:S.calls k≠1000000) w' (hb:Below w.heap.size w w')=>show Q (.returned (.tuple #[gK (.slice A n cap) (fe S k).calls (fe S k).hits,.bool (qC S k),.int .i64 0])) w' by rw [←hQ];exact .inr ⟨h,rfl,hb⟩);unfold fe qC at Gc;have HR:=ae (fun (hc:S.calls k≠1000000) W h=>Ag A n cap S.rules (k:Int) (S.calls k+1) W hn (by omega) hok ⟨by omega,by omega⟩ h);have hcell:=ae (mZ (.slice A n cap) S.calls S.hits hk);have hset:=ae (fun v (x:Int)=>Kr v S.calls S.hits hk x);have Gd:=ae (fun v cs (x:Int)=>Ku v cs S.hits hk x);have hhk:0≤S.hits k∧S.hits k≤1000000:=by
  have:=uB S.rules k (S.calls k).toNat;rw [←h3 k hk] at this;omega
 obtain ⟨l,cs,hs⟩:=S;simp only at hcell hset Gd Jm Gc HR HC hr hn hck hhk;clear hQ h1 h2 h3 hlen hok hn;have hb0:=(aV w (.cells (aM (.slice A n cap) cs hs).toArray 69)).alloc (by simp) (.cells (aM (.slice none 0 0) (fun _=>0) (fun _=>0)).toArray 69);have k0:=(ag.new w 69 (aM (.slice A n cap) cs hs).toArray).alloc (.cells (aM (.slice none 0 0) (fun _=>0) (fun _=>0)).toArray 69);have b0:=ag.new (w.alloc (.cells (aM (.slice A n cap) cs hs).toArray 69)) 69 (aM (.slice none 0 0) (fun _=>0) (fun _=>0)).toArray;obtain ⟨s,hsz⟩:=aj (w.heap.size);rw [World.size_alloc,hsz] at b0;rw [hsz] at k0;have hwb:∀g o,A=some ⟨g,o,none⟩→l≠[]→g<s:=fun g o e hne=>by
  cases l with
  | nil=>exact absurd rfl hne
  | cons x r =>
   obtain ⟨b,o',e',hb,_⟩:=hr 0 (by rw [lT jJ];simp);rw [e] at e';cases e';omega
 unfold gK aM at HC ⊢;simp only at HC ⊢;unfold aM at hb0 k0 b0;have r0:=hr.fw hb0;go_enter func200,ntmps200;go_upto_region 1 with fail
 generalize (w.alloc _).alloc _=w0 at *;rw [hsz] at hb0;try simp only [hsz]
 have hsz':=ae hsz;clear hsz hr;have c0:=k0.cell;go_wp2_with fail;refine (HC.out _ r0).mono ?_;rintro e w1 ⟨rfl,hb1⟩;have k1:ag w1 s 69 (aM (.slice A n cap) cs hs).toArray:=k0.call hb1;have b1:=b0.call hb1;have r1:=r0.fw hb1;have B1:=hb0.trans (hb1.mono (by have:=hb0.size;have:=hsz'.out;omega));clear c0 k0 b0 r0 hb0 hb1 HC;have hin:(k:Int)<7:=by omega
 have ck:=(k1.cell (1+k)).trans hcell.out;go_wp2_with fail;refine (HI.out _).mono ?_;rintro e9 w9 ⟨rfl,rfl⟩;by_cases hc:cs k=1000000
 ·have Dl:=ae (Jm.out hc)
  rw [hc] at ck;clear Gc HR hc;go_upto_region 7 with fail
  go_wp2_with (refine wpList_store_mid rfl 69 (.tmp 4) (.tmp 29) rfl (s+1) 0 (aM (.slice none 0 0) (fun _=>0) (fun _=>0)).toArray rfl rfl (dP b1 0 15 (by simp)) dM (Go.all_oneCell_toArray (jK rfl _ _)) ?_)
  have k4:=ag.puts (g:=s+1) (t:=69) (w:=w1) (cs:=#[]) (aM (.slice none 0 0) (fun _=>0) (fun _=>0)) 0 w1 _ b1;rw [eB (by rfl)] at k4;have iI:=af.puts (T:=fun k=>k=s+1) rfl (aM (.slice none 0 0) (fun _=>0) (fun _=>0)) 0 w1 w1 (af.refl _ _);generalize (w1).setCells (s+1) 0 (aM (.slice none 0 0) (fun _=>0) (fun _=>0))=w4 at *;have hl4:=run_loadVar_mid (P:=prog) w4 (s+1) 0 69 (aM (.slice none 0 0) (fun _=>0) (fun _=>0)) _ (fun j v hj=>by rw [Nat.zero_add,k4.cell];simpa using hj) underlying69 rfl dM;have hB4:Below w.heap.size w1 w4:=iI.below (by have:=B1.size;have:=hsz'.out;omega) (fun k hk e=>by have:=hsz'.out;omega);refine bodyPost_ret (v:=.tuple #[gK (.slice none 0 0) (fun _=>0) (fun _=>0),.bool false,.int .i64 3]) ?_ rfl ?_
  ·exact fC results200 rfl hl4
  rw [←hsz'.out] at B1;exact Dl.out _ (B1.trans hB4)
 ·have d3:(cs k==1000000)=false:=by simpa using hc
  have Dl:=ae (Gc.out hc);have XX:=ae (HR.out hc);have hw1:IntKind.i64.wrap (cs k+1)=cs k+1:=by rw [IntKind.wrap_i64];omega
  have hw2:IntKind.i64.wrap (hs k+1)=hs k+1:=by rw [IntKind.wrap_i64];omega
  have hup:∀(f:Nat→Int) x,qh f k x k=x:=fun f x=>by simp [qh]
  have XY:=ae hup;have f1:=k1.frozen;clear Gc Jm HR hup hc;go_upto_region 9 with fail
  have k4:=k1.aO (1+k) (.int .i64 (cs k+1));rw [hset.out] at k4;have iI:af (fun k=>k=s) w1 (w1.setCell ⟨s,1+k,none⟩ (.int .i64 (cs k+1))):=af.setCell (T:=fun k=>k=s) (p:=⟨s,1+k,none⟩) (af.refl _ _) (fun _=>rfl) _;generalize w1.setCell ⟨s,1+k,none⟩ (.int .i64 (cs k+1))=w4 at *;have c4:=(k4.cell (1+k)).trans (mZ (.slice A n cap) (qh cs k (cs k+1)) hs hk);rw [XY.out] at c4;have c40:w4.cell? ⟨s,0,none⟩=some (.slice A n cap):=(k4.cell 0).trans rfl;have r4:Rd w4 w4.heap.size A (fl iN l):=(r1.keepR iI (fun b o e hne=>by have:=hwb b o e hne;show ¬b=s;omega)).more iI.size;have z0:=fun z:Ext w4=>z.cell c40
  have z1:=fun z:Ext w4=>z.cell c4
  have G:=ae (fun z:Ext w4=>Ext.call (x:=z) (XX.out z.w (r4.fw z.le)));have b4:=iI.blk b1 (by show ¬s+1=s;omega);generalize nT l (k:Int) (cs k+1)=bb at *;clear c4 c40 XX k1 b1 r1 r4 f1 ck;refine aF (by kernel_rfl) (by kernel_rfl) ?_
  repeat (go_big_quiet_step ((go_at_call 219;exact G.out _)))
  refine wpQuiet_nil ?_;rintro w5 ⟨⟨_,mf⟩,rfl⟩;have k5:=k4.call mf;have b5:=b4.call mf;have QW:af (fun k=>k=s) w1 w5:=iI.trans (.of_below mf);clear z0 z1 G k4 b4 mf iI;cases bb with
  | true =>
   simp only [if_true] at Dl;have c5:=(k5.cell (8+k)).trans (vL (.slice A n cap) (qh cs k (cs k+1)) hs hk);have f5:=k5.frozen;go_upto_region 12 with fail
   have k6:=k5.aO (8+k) (.int .i64 (hs k+1));rw [Gd.out] at k6;have b6:=b5.far (p:=⟨s,8+k,none⟩) (by show s+1≠s;omega) (.int .i64 (hs k+1));have Gf:af (fun k=>k=s) w1 (w5.setCell ⟨s,8+k,none⟩ (.int .i64 (hs k+1))):=QW.setCell (p:=⟨s,8+k,none⟩) (fun _=>rfl) _;generalize w5.setCell ⟨s,8+k,none⟩ (.int .i64 (hs k+1))=w6 at *;clear c5 f5 k5 b5 QW;generalize qh hs k (hs k+1)=hs2 at *;generalize qh cs k (cs k+1)=cs2 at *;have oK:World.rangeAt w6 s 0 (aM (.slice A n cap) cs2 hs2):=fun j v hj=>by rw [Nat.zero_add,(k6).cell];simpa using hj
   go_wp2_with (first
    | (refine wpList_load_mid rfl 69 (.tmp 2) rfl s 0 rfl (aM (.slice A n cap) cs2 hs2) _ oK underlying69 rfl dM ?_)
    | (refine wpList_store_mid rfl 69 (.tmp 4) (.tmp 54) rfl (s+1) 0 (aM (.slice A n cap) cs2 hs2).toArray rfl rfl (dP b6 0 15 (by simp)) dM (Go.all_oneCell_toArray (jK rfl _ _)) ?_))
   have k7:=ag.puts (g:=s+1) (t:=69) (w:=w6) (cs:=#[]) (aM (.slice A n cap) cs2 hs2) 0 w6 _ b6;rw [eB (by rfl)] at k7;have rq:=af.puts (T:=fun k=>k=s∨k=s+1) (.inr rfl) (aM (.slice A n cap) cs2 hs2) 0 w1 w6 ((Gf).mono (fun _ _ h=>.inl h));generalize (w6).setCells (s+1) 0 (aM (.slice A n cap) cs2 hs2)=w7 at *;have LG:=run_loadVar_mid (P:=prog) w7 (s+1) 0 69 (aM (.slice A n cap) cs2 hs2) _ (fun j v hj=>by rw [Nat.zero_add,k7.cell];simpa using hj) underlying69 rfl dM;have BV:Below w.heap.size w1 w7:=rq.below (by have:=B1.size;have:=hsz'.out;omega) (fun k hk e=>by have:=hsz'.out;omega);rw [←hsz'.out] at B1;refine bodyPost_ret (v:=.tuple #[gK (.slice A n cap) cs2 hs2,.bool true,.int .i64 0]) ?_ rfl ?_
   ·exact fC results200 rfl LG
   exact Dl.out _ (B1.trans BV)
  | false =>
   simp only [Bool.false_eq_true,if_false] at Dl;generalize qh cs k (cs k+1)=cs2 at *;have oK:World.rangeAt w5 s 0 (aM (.slice A n cap) cs2 hs):=fun j v hj=>by rw [Nat.zero_add,(k5).cell];simpa using hj
   go_wp2_with (first
    | (refine wpList_load_mid rfl 69 (.tmp 2) rfl s 0 rfl (aM (.slice A n cap) cs2 hs) _ oK underlying69 rfl dM ?_)
    | (refine wpList_store_mid rfl 69 (.tmp 4) (.tmp 54) rfl (s+1) 0 (aM (.slice A n cap) cs2 hs).toArray rfl rfl (dP b5 0 15 (by simp)) dM (Go.all_oneCell_toArray (jK rfl _ _)) ?_))
   have k7:=ag.puts (g:=s+1) (t:=69) (w:=w5) (cs:=#[]) (aM (.slice A n cap) cs2 hs) 0 w5 _ b5;rw [eB (by rfl)] at k7;have rq:=af.puts (T:=fun k=>k=s∨k=s+1) (.inr rfl) (aM (.slice A n cap) cs2 hs) 0 w1 w5 ((QW).mono (fun _ _ h=>.inl h));generalize (w5).setCells (s+1) 0 (aM (.slice A n cap) cs2 hs)=w7 at *;have LG:=run_loadVar_mid (P:=prog) w7 (s+1) 0 69 (aM (.slice A n cap) cs2 hs) _ (fun j v hj=>by rw [Nat.zero_add,k7.cell];simpa using hj) underlying69 rfl dM;have BV:Below w.heap.size w1 w7:=rq.below (by have:=B1.size;have:=hsz'.out;omega) (fun k hk e=>by have:=hsz'.out;omega);rw [←hsz'.out] at B1;refine bodyPost_ret (v:=.tuple #[gK (.slice A n cap) cs2 hs,.bool false,.int .i64 0]) ?_ rfl ?_
   ·exact fC results200 rfl LG
   exact Dl.out _ (B1.trans BV)
theorem JR {P:Program} {ops:Array Oper} {rest:List Oper} {op:Oper} {a:Act} {w:World} {Q:Exit→Act→World→Prop} {v:Value} (d:Nat) (hgd:op.guard=none) (hd:op.dst=some d)
  (hr:(execOp a.eval op).run P w= .ok (.value v) w) (h:wpList P ops Q rest (a.put (some d) v) w):wpList P ops Q (op::rest) a w :=
 wpList_plain hgd fun K hK=>by
  unfold Oper.wp;rw [hr];show K (a.put op.dst v) w;rw [hd];exact hK _ _ h
theorem DK (p:Int) (w:World):Calls prog 160 #[.int .i64 p] w fun e w'=>e= .returned (.bool (yX p))∧w=w':=by
 by_cases h1:0≤p
 ·have d1:decide (0≤p)=true:=by simpa using h1
  have hE:yX p=decide (p<1024):=by simp [yX,h1]
  rw [hE];clear hE h1;go_enter func160,ntmps160;go_wp2_with fail;go_ret;exact ⟨rfl,rfl⟩
 ·have d1:decide (0≤p)=false:=by simpa using h1
  have hE:yX p=false:=by simp [yX,h1]
  rw [hE];clear hE h1;go_enter func160,ntmps160;go_wp2_with fail;go_ret;exact ⟨rfl,rfl⟩
theorem Ir (B b a n:Nat) (kd:Int) (V:Vm) (w:World) (hV:bq w B b V) (hn:a+n≤1024) :
  Calls prog 161 #[.pointer (some ⟨b,0,none⟩),.int .i64 a,.int .i64 n,.int .i64 kd] w fun e w'=>e= .returned (.bool (qN V a n (fun g=>g.kind==kd)))∧w=w':=by
 obtain ⟨R,hR⟩:=aj (qN V a n (fun g=>g.kind==kd));rw [hR];have hR':=ae hR;obtain ⟨cs,A,m,cap,hk,hc,_⟩:=hV.ex;have hkd:=ae (fun p h=>(hk.cell p).trans (hc.kind p h));clear hR hk hc hV;have hwn:wrap64 ((a:Int)+(n:Int))=((a+n:Nat):Int):=by unfold wrap64;omega
 go_enter func161,ntmps161;go_wp2_with fail
 go_loopw [9] (fun u wr=>∃i:Nat,i≤n∧u= .int .i64 ((a+i:Nat):Int)∧Hid (∀q,a≤q→q<a+i→((V.pg q).kind==kd)=true)∧wr=w) (fun u _=>a+n - (intOf u).toNat)
 case atStart=>exact ⟨0,by omega,rfl,ae (fun _ _ _=>by omega),rfl⟩
 case round =>
  obtain ⟨i,hi,rfl,hA,hw⟩:=hrel;have hw':=hw.symm;clear hw;subst hw';by_cases hlt:i<n
  ·obtain ⟨p,hp⟩:=aj (a+i)
   have hlt':decide ((p:Int)<(a:Int)+(n:Int))=true:=by rw [decide_eq_true_eq];omega
   have hpl:(p:Int)<1024:=by omega
   have hcell:=hkd.out p (by omega);have hws:wrap64 ((p:Int)+1)=((p+1:Nat):Int):=by unfold wrap64;omega
   rw [hp];have hp':=ae hp;clear hp;by_cases hv:(V.pg p).kind=kd
   ·have hv':((V.pg p).kind != kd)=false:=by simpa using hv
    have hA2:Hid (∀q,a≤q→q<a+(i+1)→((V.pg q).kind==kd)=true):=ae (fun q h1 h2=>by
     by_cases e:q=p
     ·subst e;simpa using hv
     ·exact hA.out q h1 (by have:=hp'.out;omega))
    clear hA hv;go_wp2_with fail;go_roundw
    case rel=>exact ⟨i+1,by omega,by rw [show ((p:Int)+1)=((a+(i+1):Nat):Int) by have:=hp'.out;omega],hA2,trivial⟩
    case measure=>have:=hp'.out;simp [intOf];omega
   ·have hv':((V.pg p).kind != kd)=true:=by simpa using hv
    have hRf:Hid (false=R):=ae (by
     rw [←hR'.out];symm;rw [Bool.eq_false_iff];intro h;have:=jb.1 h p (by have:=hp'.out;omega) (by have:=hp'.out;omega);exact hv (by simpa using this))
    clear hA hv;go_wp2_with fail;go_ret;exact ⟨dF hRf.out,rfl⟩
  ·obtain rfl:i=n:=by omega
   have hlt':decide (((a+i:Nat):Int)<(a:Int)+(i:Int))=false:=by simp
   have ZN:Hid (true=R):=ae (by rw [←hR'.out];exact (jb.2 hA.out).symm);clear hA;go_wp2_with fail;go_ret;exact ⟨dF ZN.out,rfl⟩
theorem ZO (B b a n:Nat) (kd:Int) (V:Vm) (w:World) (hV:bq w B b V) (hn:a+n≤1024) (hh:∀q,a≤q→q<a+n→(V.pg q).dz=false) :
  Calls prog 212 #[.pointer (some ⟨b,0,none⟩),.int .i64 a,.int .i64 n,.int .i64 kd] w fun e w'=>e= .returned (.tuple #[])∧bq w' B b (V.gH a n (fun _=>iB kd))∧af (fun k=>k=b) w w':=by
 have hV':=ae hV;have hh':=ae hh;have hwn:wrap64 ((a:Int)+(n:Int))=((a+n:Nat):Int):=by unfold wrap64;omega
 clear hV hh;go_enter func212,ntmps212;go_wp2_with fail
 go_loopw [8] (fun u wr=>∃i:Nat,i≤n∧u= .int .i64 ((a+i:Nat):Int)∧Hid (bq wr B b (V.gH a i (fun _=>iB kd)))∧af (fun k=>k=b) w wr) (fun u _=>a+n - (intOf u).toNat)
 case atStart=>exact ⟨0,by omega,rfl,ae (by rw [Vm.Eb];exact hV'.out),af.refl _ _⟩
 case round =>
  obtain ⟨i,hi,rfl,hR,hF⟩:=hrel;by_cases hlt:i<n
  ·obtain ⟨p,hp⟩:=aj (a+i)
   have hlt':decide ((p:Int)<(a:Int)+(n:Int))=true:=by rw [decide_eq_true_eq];omega
   have hpl:(p:Int)<1024:=by omega
   have hws:wrap64 ((p:Int)+1)=((p+1:Nat):Int):=by unfold wrap64;omega
   have hput:=ae (hR.out.put (p:=p) (by omega) (by
    show (if a≤p∧p<a+i then iB kd else V.pg p).dz=false;rw [if_neg (by omega)];exact hh'.out p (by omega) (by omega)) kd)
   have hes:Hid (V.gH a (i+1) (fun _=>iB kd)=(V.gH a i (fun _=>iB kd)).iY p (iB kd)):=ae (by rw [Vm.Ec,hp]);rw [hp];have hp':=ae hp;clear hp;obtain ⟨cs,A,m,cap,hk,hc,_⟩:=hR.out.ex;have hcell:=(hk.cell p).trans (hc.kind p (by omega));have hfr:=hk.frozen;have hcs:=hc.size;have k2:=hk.aO p (.int .i64 kd);obtain ⟨Z,hZ⟩:=aj ((List.replicate 64 (Value.int .u8 0)).toArray);have hZl:List.replicate 64 (Value.int .u8 0)=Z.toList:=by rw [←hZ]
   have hZs:Z.size=64:=by rw [←hZ];simp
   rw [hZl] at hput;have ht:(wr.setCell ⟨b,p,none⟩ (.int .i64 kd)).there b (1088+p*64) Z.size:=dP k2 (1088+p*64) Z.size (by rw [Array.size_setIfInBounds];omega);have jL:(prog.info? 63).map (·.size)=some Z.size:=by rw [hZs];exact pI
   have hone:Z.all (·.oneCell')=true:=by rw [←hZ];exact Go.all_oneCell_toArray (fun x hx=>by rw [List.eq_of_mem_replicate hx];rfl)
   have hZ':=ae hZ;clear hR hk hc k2 hZl hZs hZ;go_upto_region 4 with fail
   generalize wr.setCell ⟨b,p,none⟩ _=w2 at *
   go_wp2_with (first
    | (refine JR (v:=.agg Z) 25 rfl rfl ?hbb ?_)
    | (refine wpList_store_mid rfl 63 (.tmp 28) (.tmp 25) rfl b (1088+p*64) Z rfl rfl ht jL hone ?_))
   case hbb =>
    rw [←hZ'.out];rfl
   generalize w2.setCells b (1088+p*64) _=w3 at *;go_roundw
   case rel=>exact ⟨i+1,by omega,by rw [show ((p:Int)+1)=((a+(i+1):Nat):Int) by have:=hp'.out;omega],ae (by rw [hes.out];exact hput.out.1),hF.trans hput.out.2⟩
   case measure=>have:=hp'.out;simp [intOf];omega
  ·obtain rfl:i=n:=by omega
   have hlt':decide (((a+i:Nat):Int)<(a:Int)+(i:Int))=false:=by simp
   go_wp2_with fail
   go_end0
   exact ⟨rfl,hR.out,hF⟩
end Go.Proofs.YtjmmgoijnhnnaaaGreat
