/- Texts RWalkE, RWalkF, CWalkP, CLibE, CSpecK, CWalkW, CWalkO. -/
import Derived.Maps.OwnIn
import Derived.Maps.OwnSet
import Derived.Maps.OwnOps
import Derived.Test.YtlgcpjhimomiaaaGreatO11
set_option maxRecDepth 100000
set_option maxHeartbeats 12800000
namespace Go.Pol
open Go Go.RowKit Go.Proofs.Tryz
structure uI (cs:Array Value) (f:Nat->Int):Prop where
 size:cs.size=5
 at_:∀j,j<5->cs[j]? = some (zI (f j))
theorem uI.set {cs:Array Value} {g f:Nat->Int} (h:uI cs g) (i:Nat) (z:Int) (hz:f i=z) (ho:∀j,j≠i->f j=g j):uI (cs.setIfInBounds i (zI z)) f:=by
 refine ⟨by simp [h.size],λj hj=>?_⟩;rw [Array.getElem?_setIfInBounds];by_cases e:i=j
 ·subst e
  rw [if_pos rfl,if_pos (by rw [h.size];omega),hz]
 ·rw [if_neg e,ho j (λh=>e h.symm)]
  exact h.at_ j hj
theorem uI.one {cs:Array Value} {f:Nat->Int} (h:uI cs f):∀x∈cs.toList,x.oneCell'=true:=by
 intro x hx;obtain ⟨i,hi,rfl⟩:=List.mem_iff_getElem.1 hx;have hz:=h.at_ i (by rw [<-h.size];simpa using hi);exact ac3
theorem uI.eq {cs ds:Array Value} {f:Nat->Int} (h:uI cs f) (k:uI ds f):cs=ds:=by
 apply Array.ext_getElem?;intro i;by_cases hi:i<5
 ·rw [h.at_ i hi,k.at_ i hi]
 ·rw [Array.getElem?_eq_none (by have:=h.size;omega),Array.getElem?_eq_none (by have:=k.size;omega)]
def fq (V:Vm):Nat->Nat->Int
 | 0,_=>0
 | i+1,j=>fq V i j+(if j<4 then (if (V.pg i).kind=j then 1 else 0) else if j=4/\(V.pg i).bP=true/\jJ (i:Int)=true then 1 else 0)
abbrev PX (V:Vm) (i:Nat):Array Value:=#[zI (fq V i 0),zI (fq V i 1),zI (fq V i 2),zI (fq V i 3),zI (fq V i 4)]
theorem Xt (V:Vm) (i:Nat):uI (PX V i) (fq V i):=⟨rfl,λj hj=>by
 rcases (show j=0\/j=1\/j=2\/j=3\/j=4 by omega) with rfl|rfl|rfl|rfl|rfl <;> rfl⟩
theorem Cb (V:Vm):∀(i j:Nat),0<=fq V i j/\fq V i j<=i
 | 0,j=>by simp [fq]
 | i+1,j=>by
  have:=Cb V i j;rw [fq];split
  ·split <;> omega
  ·split <;> omega
theorem PY (V:Vm) (i:Nat) (hi:i<1024:=by assumption):∀j,0<=fq V i j/\fq V i j<=1024:=λj=>by
 have:=Cb V i j;omega
def rT (f:Nat->Int) (d:Nat):Nat->Int:=λj=>if j=d then f j+1 else f j
def Zh (V:Vm) (i:Nat) (d:Nat):Prop :=
 (((V.pg i).bP=false\/jJ (i:Int)=false)->fq V (i+1)=rT (fq V i) d) /\
 ((V.pg i).bP=true->jJ (i:Int)=true->fq V (i+1)=rT (rT (fq V i) d) 4)
theorem aeN {P:Prop} (h:P:=by
 by_cases e:j=(V.pg i).kind.toNat
 ·rw [if_pos zo,if_pos e]
 ·rw [if_neg zo,if_neg e];omega):P:=h
theorem TH (V:Vm) (i:Nat) (hk:0<=(V.pg i).kind:=by assumption) (hk3:(V.pg i).kind<=3:=by assumption):Zh V i (V.pg i).kind.toNat:=by
 refine ⟨λh=>?_,λh1 h2=>?_⟩ <;> funext j <;> rw [fq] <;> unfold rT
 ·by_cases h4:j<4
  ·rw [if_pos h4]
   exact aeN
  ·rw [if_neg h4,if_neg (by rintro ⟨_,a,b⟩;rcases h with h|h;rw [h] at a;cases a;rw [h] at b;cases b),if_neg zo];omega
 ·by_cases h4:j<4
  ·rw [if_pos h4,if_neg (by omega:¬j=4)]
   exact aeN
  ·rw [if_neg h4]
   by_cases e:j=4
   ·rw [if_pos ⟨e,h1,h2⟩,if_pos e,if_neg zo]
   ·rw [if_neg (by rintro ⟨a,_⟩;exact e a),if_neg e,if_neg zo];omega
def gH (P:Program) (ti:TypeId) (W:World) (B n:Nat) (f:Int->Option Int):Prop :=
 ∃D:DataW Unit,W.ownsMap P ti (plainElem P ti) B n D/\Maps.IsMap D/\∀p,(f p=none->Maps.has D (.int .i64 p)=false)/\(∀c,f p=some c->Maps.has D (.int .i64 p)=true/\∀z,D.atKey (.int .i64 p) z= .lit (.int .i64 c))
def PZ (f:Int->Option Int) (p c:Int):Int->Option Int:=λq=>if q=p then some c else f q
section
variable {P:Program} {ti:TypeId} {W W':World} {B n:Nat} {f:Int->Option Int}
theorem gH.made (W:World):gH P ti (W.alloc (.map #[] 0)) W.heap.size 0 (λ_=>none) :=
 ⟨.map [],World.ownsMap_made _ _ _ _,⟨[],rfl⟩,λ_=>⟨λ_=>rfl,λ_ h=>by cases h⟩⟩
theorem gH.mono (h:gH P ti W B n f) {m:Nat} (hm:n<=m):gH P ti W B m f:=by
 obtain ⟨D,h1,h2,h3⟩:=h;exact ⟨D,h1.mono hm,h2,h3⟩
theorem gH.lt (h:gH P ti W B n f):B<W.heap.size:=by
 obtain ⟨D,h1,_⟩:=h;exact h1.lt
theorem gH.far {T:Nat->Prop} (h:gH P ti W B n f) (hF:ag T W W') (hT:¬T B):gH P ti W' B n f:=by
 have hl:=h.lt;obtain ⟨D,⟨es,clock,hb,F,hs,hD⟩,h2,h3⟩:=h;exact ⟨D,⟨es,clock,(hF.block B hl hT).trans hb,F,hs,hD⟩,h2,h3⟩
theorem gH.call (h:gH P ti W B n f) (hb:Below W.heap.size W W'):gH P ti W' B n f:=h.far (T:=λ_=>False) (ag.of_below hb) id
instance :ZC W W' (gH P ti W B n f) (gH P ti W' B n f):=⟨λh k=>k.call h⟩
instance {A B C:World} {T:Nat->Prop}:ZC B C (ag T A B) (ag T A C):=⟨λh k=>k.call h⟩
theorem gH.put {D:DataW Unit} (h2:Maps.IsMap D) (h3:∀p,(f p=none->Maps.has D (.int .i64 p)=false)/\(∀c,f p=some c->Maps.has D (.int .i64 p)=true/\∀z,D.atKey (.int .i64 p) z= .lit (.int .i64 c)))
  {p c:Int} (h:W'.ownsMap P ti (plainElem P ti) B n (D.put (.int .i64 p) (.lit (.int .i64 c)))):gH P ti W' B n (PZ f p c):=by
 have hk:WideAt.IsKeyLit (.int .i64 p):=trivial;refine ⟨_,h,?_,λq=>?_⟩
 ·obtain ⟨es,rfl⟩:=h2
  exact ⟨_,rfl⟩
 ·unfold PZ
  by_cases e:q=p
  ·subst e
   rw [if_pos rfl];refine ⟨λh=>(by cases h),λd hd=>?_⟩;cases hd;exact ⟨Maps.has_put_same h2 hk _,λz=>Maps.atKey_put_same h2 hk _ z⟩
  ·rw [if_neg e]
   have hne:(Lit.int .i64 q)≠Lit.int .i64 p:=λh=>e (by cases h;rfl)
   refine ⟨λh=>by rw [Maps.has_put_other hne];exact (h3 q).1 h,λd hd=>?_⟩;rw [Maps.has_put_other hne];exact ⟨((h3 q).2 d hd).1,λz=>by rw [Maps.atKey_put_other hne];exact ((h3 q).2 d hd).2 z⟩
theorem gH.look {D:DataW Unit} {p c:Int} (h3:(f p=none->Maps.has D (.int .i64 p)=false)/\(∀c,f p=some c->Maps.has D (.int .i64 p)=true/\∀z,D.atKey (.int .i64 p) z= .lit (.int .i64 c)))
  (hc:D.atKey (.int .i64 p) (.lit (.int .i64 0))= .lit (.int .i64 c)):(f p=none/\Maps.has D (.int .i64 p)=false)\/(f p=some c/\Maps.has D (.int .i64 p)=true):=by
 cases hf:f p with
 | none=>exact .inl ⟨rfl,h3.1 hf⟩
 | some d =>
  obtain ⟨a,b⟩:=h3.2 d hf;have e:=(b (.lit (.int .i64 0))).symm.trans hc
  injection e with e
  injection e with _ e
  subst e;exact .inr ⟨rfl,a⟩
end
abbrev yf (r:Cr):List Sp:=ay r.pg r.n r.f r.bk r.ev
def jD (r:Cr) (p:Int):Int:=if mem p (yf r)=true then (if GL r (fZ p 0 (yf r)).1=true then 2 else 1) else 3
def Od (V:Vm) (r:Cr) (p:Int):Bool:=if r.cl=true then (kd V p.toNat != 1&&kd V p.toNat != 3) else kd V p.toNat != jD r p
def Ag (V:Vm) (r:Cr):Nat->Int->Bool×Int
 | 0,_=>(true,-1)
 | k+1,p=>if Od V r p=true then (false,p) else Ag V r k (p+1)
def mW (V:Vm) (r:Cr):Bool×Int×Int:=if bq r≠0 then (false,0,bq r) else ((Ag V r r.n.toNat r.pg).1,(Ag V r r.n.toNat r.pg).2,0)
def qw (r:Cr):List Int->Int->(Int->Option Int)->Int->Option Int
 | [],_,f=>f
 | x::l,j,f=>qw r l (j+1) (PZ f x (if GL r j=true then 2 else 1))
theorem GM (r:Cr) (x:Int):∀(l:List Int) (j:Int) (f:Int->Option Int),qw r (l++[x]) j f=PZ (qw r l j f) x (if GL r (j+l.length)=true then 2 else 1)
 | [],j,f=>by simp [qw]
 | y::l,j,f=>by
  rw [List.cons_append,qw,qw,GM r x l];rw [show j+1+(l.length:Int)=j+((y::l).length:Int) by simp only [List.length_cons];omega]
theorem Oe (r:Cr) (ix:Int->Int) (p:Int):∀(l:List Int) (j:Int) (f:Int->Option Int),(∀k,k<l.length->ix (l.getD k 0)=j+k)->qw r l j f p=if p∈l then some (if GL r (ix p)=true then 2 else 1) else f p
 | [],_,_,_=>by simp [qw]
 | x::l,j,f,h=>by
  rw [qw,Oe r ix p l (j+1) _ (λk hk=>by
   have:=h (k+1) (by simp;omega);rw [List.getD_cons_succ] at this;rw [this];omega)]
  by_cases hp:p∈l
  ·rw [if_pos hp,if_pos (List.mem_cons_of_mem _ hp)]
  ·rw [if_neg hp]
   unfold PZ;by_cases e:p=x
   ·subst e
    rw [if_pos (show p=p from rfl),if_pos (show p∈p::l by simp)];have:=h 0 zs;rw [List.getD_cons_zero] at this;rw [this];simp
   ·rw [if_neg e,if_neg (by simp [e,hp])]
theorem Xu {r:Cr} (hp:dO r.pg r.n r.f r.bk r.ev) (p:Int):qw r (bA (yf r)) 0 (λ_=>none) p=if mem p (yf r)=true then some (jD r p) else none:=by
 rw [Oe r (λq=>(fZ q 0 (yf r)).1) p _ 0 _ (λk hk=>by
  have h1:((bA (yf r)).length:Int)=aG (ay r.pg r.n r.f r.bk r.ev):=iB (yf r) (λx hx=>by have:=mi hp x hx;omega);have:=(CF hp k zo).2.1;unfold mh at this;rw [this];simp)]
 by_cases hm:mem p (yf r)=true
 ·rw [if_pos (xM.2 hm),if_pos hm]
  unfold jD;rw [if_pos hm]
 ·rw [if_neg (λh=>hm (xM.1 h)),if_neg hm]
theorem TI {r:Cr} {p:Int} (h:¬mem p (yf r)=true):jD r p=3:=by unfold jD;rw [if_neg h]
theorem ahn (t1 t2 t3 t4 t5:TypeId) (c1 c2 c3 c4 c5:Array Value) (w:World):∃w0:World,w0=((((w.alloc (.cells c1 t1)).alloc (.cells c2 t2)).alloc (.cells c3 t3)).alloc (.cells c4 t4)).alloc (.cells c5 t5) /\
  Below w.heap.size w w0/\af w0 w.heap.size t1 c1/\af w0 (w.heap.size+1) t2 c2/\af w0 (w.heap.size+2) t3 c3/\af w0 (w.heap.size+3) t4 c4/\af w0 (w.heap.size+4) t5 c5:=by
 obtain ⟨w1,hw1,hs,hb,k1,k2,k3,k4⟩:=PN t1 t2 t3 t4 c1 c2 c3 c4 w;have k5:=af.new w1 t5 c5;rw [hs] at k5;exact ⟨w1.alloc (.cells c5 t5),by rw [hw1],below_alloc2 hb _,k1.dV _,k2.dV _,k3.dV _,k4.dV _,k5⟩
end Go.Pol
namespace Go.Proofs.YtlgcpjhimomiaaaGreat
open Go Go.Proofs Go.RowKit Go.Pol Go.Shelf Tryz
attribute [local go_sem] Oper.semAt_some aC au aB ai
theorem aaK (N:Nat) (w:World) (hN:N<=w.heap.size) :
  Calls prog 30 #[zI 4096] w λe w'=>∃b,e= .returned (.tuple #[zP b,zI 0])/\ed w' N b (fK 4096)/\w.heap.size<=b/\Below w.heap.size w w':=by
 have hfr:=uu 4096 0 4096;obtain ⟨i0,hi0,hi1,hi2,hi3⟩:=qE;go_enter func30,ntmps30;go_wp2_with fail;refine (hfr w).zr λw2 hw2=>?_
 replace hw2:=hw2.symm;subst hw2;go_wp2_with fail;obtain ⟨s,hs⟩:=ah (w.heap.size);have hb0:=(aQ w (.cells (iW ⟨-1,4096,0,0,false,0⟩).toArray 140)).alloc zs (.cells #[.slice (some ⟨s,0,none⟩) 1 1] 180);have k0:=(af.new w 140 (iW ⟨-1,4096,0,0,false,0⟩).toArray).alloc (.cells #[.slice (some ⟨s,0,none⟩) 1 1] 180);have k1:=af.new (w.alloc (.cells (iW ⟨-1,4096,0,0,false,0⟩).toArray 140)) 180 #[.slice (some ⟨s,0,none⟩) 1 1];rw [World.size_alloc] at k1;rw [hs] at hb0 k0 k1 hN;simp only [hs];change bodyPost _ _ _ _ _ ((w.alloc (.cells (iW ⟨-1,4096,0,0,false,0⟩).toArray 140)).alloc (.cells #[.slice (some ⟨s,0,none⟩) 1 1] 180));generalize (w.alloc (.cells (iW ⟨-1,4096,0,0,false,0⟩).toArray 140)).alloc (.cells #[.slice (some ⟨s,0,none⟩) 1 1] 180)=w2 at *;go_ret2;exact ⟨s+1,rfl,⟨_,1,k1,rfl,.inr ⟨s,1,_,rfl,hN,k0,Nat.le_refl _,by unfold maxLen;omega,rfl,rfl⟩⟩,zo,hb0⟩
theorem TF (N b:Nat) (L:List Nd) (l:Int) (w:World) (hB:ed w N b L) (hO:bf L) (hL:L.length=1) :
  Calls prog 32 #[zP b,zI 0,zI l] w λe w'=>e= .returned (.tuple #[zI (if (gB L l).1=0 then 1 else 0),zI (gB L l).1])/\ed w' N b (gB L l).2/\ag (λk=>zV N w k\/k=b) w w':=by
 have hfr:=uu l 0 4096;have HO:=ae (λ(k:Int)=>l6 N b k L w hB (Bc hO));rw [hL] at HO;have qV:=ae hB;obtain ⟨A,cap,k,r⟩:=hB.ex;rw [hL] at k r;have cb:=k.cell;obtain ⟨kk,hkk⟩:=ah ((if (gB L l).1=0 then (1:Int) else 0));rw [hkk];obtain ⟨C,hC⟩:=ah (gB L l);rw [hC] at hkk ⊢;have hNs:N<=w.heap.size:=by
  obtain ⟨g,_,_,_,_,hg,hgl,_⟩:=hB.node (i:=0) zo;have:=hg.1;omega
 obtain ⟨i0,hi0,hi1,hi2,hi3⟩:=qE;have hob:some b≠(Value.slice A 1 cap).ownBlock:=by
  rcases r.2 with ⟨hv,h0⟩|⟨g,cap',cur,hv,hbs,hk,_⟩
  ·omega
  ·cases hv
   intro e;have e':b=g:=by injection e
   exact af.vN k (show af w g 140 cur from hk) zd e'
 go_enter func32,ntmps32;go_wp2_with fail;refine (HO.out 0).zr λw1 hw1=>?_
 replace hw1:=hw1.symm;subst hw1;go_wp2_with fail;refine (hfr w).zr λw1 hw1=>?_
 replace hw1:=hw1.symm;subst hw1;by_cases hp:l<0\/4096<l
 ·have hcb:C=(7,L):=by rw [<-hC];unfold gB;rw [if_pos hp]
  clear hC;subst hcb;rw [if_neg (show ¬(7:Int)=0 by decide)] at hkk;subst hkk;have d1:decide (0<=l/\l<=4096)=false:=by rw [decide_eq_false_iff_not];omega
  rw [d1];clear hp d1;go_wp2_with fail;go_ret2;exact ⟨rfl,qV.out,ag.refl _ _⟩
 ·have hcb:C=(0,L++[⟨(L.length:Int) - 1,l,0,0,false,0⟩]):=by rw [<-hC];unfold gB;rw [if_neg hp]
  clear hC;subst hcb;rw [if_pos rfl] at hkk;subst hkk;have d1:decide (0<=l/\l<=4096)=true:=by rw [decide_eq_true_eq];omega
  rw [d1];clear hp d1;go_upto_region 6 with fail
  go_loopw [8] (λu8 wr=>∃i:Nat,u8 = zI i/\i<=1/\wr=w) (λu8 _=>1 - (intOf u8).toNat)
  case atStart=>exact ⟨0,rfl,zo,rfl⟩
  case round =>
   obtain ⟨i,rfl,hi,rfl⟩:=hrel;rcases (by omega:i=0\/i=1) with rfl|rfl
   ·go_wp2_with fail
    refine (HO.out 0).zr λw1 hw1=>?_
    replace hw1:=hw1.symm;subst hw1;go_wp2_with fail;go_roundw
    case rel=>exact ⟨1,by go_num,zs⟩
    case measure=>simp [intOf]
   ·have kN:=af.new wr 140 (iW ⟨0,0,0,0,false,0⟩).toArray
    go_upto_region 12 with (at_builtin;refine wpList_append_own _ rfl (.tmp 43) (.tmp 45) 178 rfl N 140 i0 (.agg #[zI 0,zI 0,zI 0,zI 0,.bool false]) 5 40 underlying178 hi0 hi1 hi2 hi3 rfl zd (.slice A 1 cap) 1 (fl iW L) rfl (r.alloc _) ⟨wr.heap.size,0,none⟩ 1 1 (iW ⟨0,0,0,0,false,0⟩) rfl rfl (xS kN) (λu hu=>by simp only [iW,List.mem_cons,List.not_mem_nil,or_false] at hu;rcases hu with rfl|rfl|rfl|rfl|rfl <;> rfl) (by unfold maxLen;omega) zo (by simp;omega) ?_;intro v' w3 hown' hgrow _;rw [<-QJ] at hown';obtain ⟨A',cap',rfl,adQ,hn',hm',_,_⟩:=dH hown';have rP:=(k.alloc (.cells (iW ⟨0,0,0,0,false,0⟩).toArray 140)).grown hgrow hob;have cb3:=rP.cell;have fb3:=rP.frozen)
    obtain ⟨w4,hw4⟩:=ah (w3.setCell ⟨b,0,none⟩ (.slice A' 2 cap'));have F4:ag (λk=>k=b) w3 w4:=by rw [<-hw4];exact ag.setCell (T:=λk=>k=b) (p:=⟨b,0,none⟩) (ag.refl _ w3) (λ_=>rfl) _
    have kb4:af w4 b 180 #[.slice A' 2 cap']:=by rw [<-hw4];exact rP.aM 0 (.slice A' 2 cap')
    have aqO:(Value.slice A' 2 cap').ownBlock≠some b:=by
     rcases hown'.2 with ⟨hv,h0⟩|⟨g,cap',cur,hv,hbs,hk,_⟩
     ·omega
     ·cases hv
      intro e;have e':g=b:=by injection e
      exact af.vN rP (show af w3 g 140 cur from hk) zd e'.symm
    have D7:=aN hown' F4 (λg hg e=>aqO (by rw [hg,e]));have hl2:(L++[(⟨0,0,0,0,false,0⟩:Nd)]).length=2:=by simp [hL]
    have hB4:ed w4 N b (L++[⟨0,0,0,0,false,0⟩]):=⟨A',cap',by rw [hl2];exact kb4,by rw [hl2];exact D7⟩;rw [hw4];obtain ⟨g,cap2,hc1,hc2,qg,hgT,hgl,hcell,hput⟩:=hB4.put (i:=1) zo;rw [hl2] at hc1 qg;have hg1:(L++[(⟨0,0,0,0,false,0⟩:Nd)]).getD 1 nd0=⟨0,0,0,0,false,0⟩:=by rw [<-hL];simp
    rw [hg1] at hcell;have p0:=hcell 0 _ rfl;have p1:=hcell 1 _ rfl;have p2:=hcell 2 _ rfl;have p3:=hcell 3 _ rfl;have p4:=hcell 4 _ rfl;have ck2:=qg.cell;have fz:=(hput w4 (Below.refl _ _)).1;clear hcell hput;go_wp2_with fail;go_ret2;have e2:=(qg.cell 0).symm.trans (kb4.cell 0);simp at e2;obtain ⟨hA2,rfl⟩:=e2;subst hA2;have F0:ag (λk=>zV N wr k\/k=b) wr w4:=(((ag.refl _ wr).alloc _).grown hgrow (λg0 hg0 _=>.inl (by
     rcases r.2 with ⟨hv,h0⟩|⟨g1,cap',cur,hv,hbs,hk,_⟩
     ·omega
     ·cases hv
      have e':g1=g0:=by injection hg0
      subst e';exact ⟨hbs,cur,hk⟩))).trans (F4.mono (λk _ e=>.inr e))
    have hbg:b≠g:=λe=>hgT.2.elim λcs hcs=>af.vN qg hcs zd e
    have r5:=il (i:=9) (v:=.bool false) (il (i:=8) (v:=zI 0) (il (i:=7) (v:=zI 0) (il (i:=6) (v:=zI l) (il (i:=5) (v:=zI 0) D7))));have F5:ag (λk=>k=g) w4 (((((w4.setCell ⟨g,5,none⟩ (zI 0)).setCell ⟨g,6,none⟩ (zI l)).setCell ⟨g,7,none⟩ (zI 0)).setCell ⟨g,8,none⟩ (zI 0)).setCell ⟨g,9,none⟩ (.bool false)):=ag.setCell (T:=λk=>k=g) (p:=⟨g,9,none⟩) (ag.setCell (T:=λk=>k=g) (p:=⟨g,8,none⟩) (ag.setCell (T:=λk=>k=g) (p:=⟨g,7,none⟩) (ag.setCell (T:=λk=>k=g) (p:=⟨g,6,none⟩) (ag.setCell (T:=λk=>k=g) (p:=⟨g,5,none⟩) (ag.refl _ w4) (λ_=>rfl) _) (λ_=>rfl) _) (λ_=>rfl) _) (λ_=>rfl) _) (λ_=>rfl) _;obtain ⟨x,rfl⟩:∃x,L=[x]:=List.length_eq_one_iff.1 hL;refine ⟨rfl,⟨_,_,F5.blk qg hbg,r5⟩,F0.trans' F5 (λk hk e=>?_)⟩;subst e;by_cases h:zV N wr k\/k=b
    ·exact h
    ·have hs:=F0.block k hk h
     obtain ⟨h1,cs,h2⟩:=hgT;exact .inl ⟨h1,cs,by unfold af at h2 ⊢;rw [<-hs];exact h2⟩
theorem Xr (N b:Nat) (L:List Nd) (w:World) (hB:ed w N b L) (hO:L.length<=64) (h1:1<=L.length) :
  Calls prog 106 #[zP b] w λe w'=>(∃(A:Option Addr) (cap:Nat),e= .returned (.agg #[.slice A L.length cap])/\Rd w' w'.heap.size A (fl iW L)/\L.length<=cap/\cap<=maxLen)/\Below w.heap.size w w':=by
 obtain ⟨A,cap,k,r⟩:=hB.ex;have cb:=k.cell;obtain ⟨i0,hi0,hi1,hi2,hi3⟩:=qE;have hb0:=(aQ w (.cells #[zN] 187)).alloc zs (.cells #[] 140);have k0:=(af.new w 187 #[zN]).alloc (.cells #[] 140);have k1:=af.new (w.alloc (.cells #[zN] 187)) 140 #[];rw [World.size_alloc] at k1;have hkb:=k.call hb0;have kb:=hkb.cell;have hr2:=aI r hb0;obtain ⟨s,hs⟩:=ah (w.heap.size);have hz2:((w.alloc (.cells #[zN] 187)).alloc (.cells #[] 140)).heap.size=s+2:=by simp [hs]
 obtain ⟨g,hg,hA,hcell⟩:∃g,A=some ⟨g,0,none⟩/\g<w.heap.size/\(∀(j:Nat) (u:Value),(fl iW L)[j]? = some u->((w.alloc (.cells #[zN] 187)).alloc (.cells #[] 140)).cell? ((⟨g,0,none⟩:Addr).add j)=some u):=by
  rcases hr2.2 with ⟨hv,h0⟩|⟨g,cap',cur,hv,hbs,hk,hn,hm,_,ht⟩
  ·omega
  ·cases hv
   refine ⟨g,rfl,?_,λj u hu=>?_⟩
   ·rcases r.2 with ⟨hv,_⟩|⟨g2,_,_,hv,_,hk2,_⟩
    ·cases hv
    ·cases hv;exact af.lt hk2
   ·exact hr2.cells (g:=g) rfl j u hu
 subst hg;have hlen:(fl iW L).length=L.length*5:=hr2.1;have CE:((w.alloc (.cells #[zN] 187)).alloc (.cells #[] 140)).ownsRow (s+1) 140 5 (.slice (some ⟨s+1,0,none⟩) 0 0) 0 (fl iW []):=⟨rfl,.inr ⟨s+1,0,_,rfl,Nat.le_refl _,by rw [<-hs];exact k1,Nat.le_refl _,by unfold maxLen;omega,rfl,rfl⟩⟩;have hone:∀u∈fl iW L,u.oneCell'=true:=λu hu=>by
  unfold fl at hu;obtain ⟨x,_,hx⟩:=List.mem_flatMap.1 hu;simp only [iW,List.mem_cons,List.not_mem_nil,or_false] at hx;rcases hx with rfl|rfl|rfl|rfl|rfl <;> rfl
 clear r hB hr2 k;rw [hs] at k0 k1 hb0;go_enter func106,ntmps106;simp only [hs]
 go_wp2_with (at_builtin;refine wpList_append_own _ rfl (.tmp 3) (.tmp 7) 178 rfl (s+1) 140 i0 (.agg #[zI 0,zI 0,zI 0,zI 0,.bool false]) 5 40 underlying178 hi0 hi1 hi2 hi3 rfl zd _ 0 (fl iW []) rfl CE ⟨g,0,none⟩ L.length cap (fl iW L) rfl hlen hcell hone (by unfold maxLen;omega) zo (by simp;omega) ?_;intro v' w3 hown' hgrow _;have k03:=k0.grown hgrow (λe=>by have:=(CE.lt s e.symm).1;omega);obtain ⟨A',cap',rfl,adQ,hn',hm',_,_⟩:=dH hown';have ck3:=k03.cell;have fk3:=k03.frozen)
 have k05:=k03.aM 0 (.slice A' L.length cap');have B3:=hb0.grown hgrow (by rw [hz2];omega) (λk hk=>by have:=(CE.lt k hk).1;omega);have F5:ag (λk=>k=s) w3 (w3.setCell ⟨s,0,none⟩ (.slice A' L.length cap')):=ag.setCell (T:=λk=>k=s) (p:=⟨s,0,none⟩) (ag.refl _ w3) (λ_=>rfl) _;have hz3:=hgrow.size;rw [hz2] at hz3;have B5:=B3.trans (F5.below zo (λk hk e=>by omega));rw [Nat.zero_add] at hown';have adS:=aN hown' F5 (λg hg=>by have:=(hown'.lt g hg).1;omega);generalize w3.setCell _ _=w5 at *;have c5:=k05.cell;refine bodyPost_ret (v:=.agg #[.slice A' L.length cap']) (by simp [results,results106,go_sem,c5]) rfl ?_;obtain ⟨A2,cap2,he,Y0,hn2,hm2,_,_⟩:=dH adS;cases he;exact ⟨⟨A',cap',rfl,Y0,hn2,hm2⟩,B5⟩
theorem aqP (a b c d:Int) (e:Bool) (w:World):(Op.equalIn 10000 140 (.agg #[zI a,zI b,zI c,zI d,.bool e]) (.agg #[zI a,zI b,zI c,zI d,.bool e])).run prog w= .ok true w:=by
 have u3:=underlying3;have a3:=Tryz.isAgg3;have z3:=Tryz.sizeOf3;have u4:=underlying4;have a4:=Tryz.isAgg4;have z4:=Tryz.sizeOf4;rw [show (10000:Nat)=9999+1 from rfl];go_simp;try simp
theorem aeL {P:Prop} (h:P:=by
 go_upto_region 6 with fail
 clear cr;refine aD zk zk ?_
 repeat (go_big_quiet_step (fail))
 refine wpQuiet_nil ?_;rintro w2 ⟨⟨_,hw2⟩,rfl⟩;go_wp2_with fail;go_roundw
 case rel=>exact ⟨i+1,zo,by go_num,hB.zt hw2⟩
 case measure=>exact zm):P:=h
theorem aeM {P:Prop} (h:P:=by
 obtain rfl:i=n:=zo;have hlt':decide ((i:Int)<(i:Int))=false:=by simp
 go_wp2_with fail;go_ret;exact ⟨rfl,hb0.zt hB⟩):P:=h
theorem TG (A B:Option Addr) (n cap cap':Nat) (L:List Nd) (w:World) (hn:L.length=n) (hm:n<=64) (hr:Rd w w.heap.size A (fl iW L)) (hs:Rd w w.heap.size B (fl iW L)) :
  zK 104 #[.agg #[.slice A n cap],.agg #[.slice B n cap']] w (.bool true):=by
 have hb0:=(aQ w (.cells #[.slice A n cap] 187)).alloc zs (.cells #[.slice B n cap'] 187);have k0:=(af.new w 187 #[.slice A n cap]).alloc (.cells #[.slice B n cap'] 187);have k1:=af.new (w.alloc (.cells #[.slice A n cap] 187)) 187 #[.slice B n cap'];obtain ⟨s,hs0⟩:=ah (w.heap.size);rw [World.size_alloc,hs0] at k1;rw [hs0] at k0;have R1:=ae (And.intro (hr.fB hb0) (hs.fB hb0));have Sr:=ae hn;have e1:((n:Int) != (n:Int))=false:=by simp
 clear hr hs hn;go_enter func104,ntmps104;go_upto_region 1 with fail
 generalize (w.alloc _).alloc _=w0 at *;try simp only [hs0]
 obtain ⟨c0,c1⟩:=bB k0 k1;go_wp2_with fail
 go_loopw [5] (λu wr=>∃i:Nat,i<=n/\u = zI i/\Below w0.heap.size w0 wr) (λu _=>n - (intOf u).toNat)
 case atStart=>exact ⟨0,zo,rfl,Below.refl _ _⟩
 case round =>
  obtain ⟨i,hi,rfl,hB⟩:=hrel;obtain ⟨kr,kq⟩:=bY hB k0 k1;have cr:=kr.cell;by_cases hlt:i<n
  ·have hlt':decide ((i:Int)<(n:Int))=true:=by simpa using hlt
   have hin:(i:Int)<(n:Int):=zo;obtain ⟨b,o,rfl,hb,hc⟩:=(R1.out.1.fB hB).elem uo zo nd0 (k:=i) (by have:=Sr.out;omega);obtain ⟨b',o',rfl,hb',hc'⟩:=(R1.out.2.fB hB).elem uo zo nd0 (k:=i) (by have:=Sr.out;omega);generalize L.getD i nd0=x at *;have hq:=λW=>aqP x.par x.lim x.own x.jk x.cl W
   obtain ⟨xp,xl,xo,xk,xc,xa⟩:=x;have x0:=hc 0 _ rfl;have x1:=hc 1 _ rfl;have x2:=hc 2 _ rfl;have x3:=hc 3 _ rfl;have x4:=hc 4 _ rfl;have y0:=hc' 0 _ rfl;have y1:=hc' 1 _ rfl;have y2:=hc' 2 _ rfl;have y3:=hc' 3 _ rfl;have y4:=hc' 4 _ rfl;simp only [Nat.add_zero] at x0 y0;have e0:=λz:Ext wr=>(z.blk kr).cell
   have e1:=λz:Ext wr=>(z.blk kq).cell
   have a0:=λz:Ext wr=>z.cell x0
   have a1:=λz:Ext wr=>z.cell x1
   have a2:=λz:Ext wr=>z.cell x2
   have a3:=λz:Ext wr=>z.cell x3
   have a4:=λz:Ext wr=>z.cell x4
   have b0:=λz:Ext wr=>z.cell y0
   have b1:=λz:Ext wr=>z.cell y1
   have b2:=λz:Ext wr=>z.cell y2
   have b3:=λz:Ext wr=>z.cell y3
   have b4:=λz:Ext wr=>z.cell y4
   clear hc hc' x0 x1 x2 x3 x4 y0 y1 y2 y3 y4;exact aeL
  ·exact aeM
theorem aeO {P:Prop} (h:P:=by
 go_wp2_with fail;go_roundw
 case rel=>exact ⟨i+1,zo,by go_num,B3,h03,h53,_,by rw [hs2.out];exact hcs',ES⟩
 case measure=>exact zm):P:=h
theorem yc (b:Nat) (V:Vm) (w:World) (hV:aA w b V) (hk:aO V) :
  zK 22 #[zP b] w (.tuple #[.agg (PX V 1024),zI 0]):=by
 have hb0:=aQ w (.cells #[zI 0,zI 0,zI 0,zI 0,zI 0] 77);have k0:=af.new w 77 #[zI 0,zI 0,zI 0,zI 0,zI 0];have HI:=ae (λW h=>vC b V W h);have HF:=ae (λ(p:Int) W=>ou p W);have V0:=hV.call hb0;have hbs:=hV.lt;have hk':=ae hk;have hV':=ae hV;obtain ⟨s,hs⟩:=ah (w.heap.size);have hsz0:(w.alloc (.cells #[zI 0,zI 0,zI 0,zI 0,zI 0] 77)).heap.size=s+1:=by rw [World.size_alloc,hs]
 rw [hs] at k0 hbs;clear hk hV;go_enter func22,ntmps22;go_upto_region 1 with fail
 generalize w.alloc _=w0 at *;go_wp2_with fail;refine (HI.out _ V0).zr λw9 cZ=>?_
 replace cZ:=cZ.symm;subst cZ;go_upto_region 4 with fail
 have hb1:=hb0.alloc zo (.cells #[zI 0,zI 0,zI 0,zI 0,zI 0] 77);have EY:=k0.alloc (.cells #[zI 0,zI 0,zI 0,zI 0,zI 0] 77);have k4:=af.new w0 77 #[zI 0,zI 0,zI 0,zI 0,zI 0];have hsz1:(w0.alloc (.cells #[zI 0,zI 0,zI 0,zI 0,zI 0] 77)).heap.size=s+2:=by rw [World.size_alloc,hsz0]
 rw [hsz0] at k4;clear V0 hb0 k0;generalize w0.alloc _=w1 at *;have k5:=af.new w1 164 #[Value.pointer (some ⟨s+1,0,none⟩),Value.pointer (some ⟨s+1,1,none⟩),Value.pointer (some ⟨s+1,2,none⟩),Value.pointer (some ⟨s+1,3,none⟩)];rw [hsz1] at k5;have k24:=k4.alloc (.cells #[Value.pointer (some ⟨s+1,0,none⟩),Value.pointer (some ⟨s+1,1,none⟩),Value.pointer (some ⟨s+1,2,none⟩),Value.pointer (some ⟨s+1,3,none⟩)] 164);have k20:=EY.alloc (.cells #[Value.pointer (some ⟨s+1,0,none⟩),Value.pointer (some ⟨s+1,1,none⟩),Value.pointer (some ⟨s+1,2,none⟩),Value.pointer (some ⟨s+1,3,none⟩)] 164);have B2:=hb1.alloc zo (.cells #[Value.pointer (some ⟨s+1,0,none⟩),Value.pointer (some ⟨s+1,1,none⟩),Value.pointer (some ⟨s+1,2,none⟩),Value.pointer (some ⟨s+1,3,none⟩)] 164);go_wp2_with fail;generalize w1.alloc _=w2 at *;have hint:uI #[zI 0,zI 0,zI 0,zI 0,zI 0] (fq V 0):=⟨rfl,λj hj=>by
  rcases (show j=0\/j=1\/j=2\/j=3\/j=4 by omega) with rfl|rfl|rfl|rfl|rfl <;> rfl⟩
 clear k4 EY hb1 hsz0 hsz1
 go_loopw [16] (λu wr=>∃i:Nat,i<=1024/\u = zI i/\Below w.heap.size w wr/\af wr s 77 #[zI 0,zI 0,zI 0,zI 0,zI 0]/\af wr (s+2) 164 ([Value.pointer (some ⟨s+1,0,none⟩),Value.pointer (some ⟨s+1,1,none⟩),Value.pointer (some ⟨s+1,2,none⟩),Value.pointer (some ⟨s+1,3,none⟩)]).toArray/\∃cs,uI cs (fq V i)/\af wr (s+1) 77 cs) (λu _=>1024 - (intOf u).toNat)
 case atStart=>exact ⟨0,zo,rfl,B2,k20,k5,_,hint,k24⟩
 case round =>
  clear k24 k20 B2 k5 hint;obtain ⟨i,hi,rfl,hB,h0,h5,cs,hcs,h4⟩:=hrel;by_cases hlt:i<1024
  ·have hil:(i:Int)<1024:=zo
   have hlt':decide ((i:Int)<1024)=true:=by simpa using hil
   obtain ⟨cv,A,n,cap,DV,hcv,_⟩:=(hV'.out.call hB).ex;obtain ⟨hk0,hk3⟩:=hk'.out i hlt;have hb5:=PY V i;have hstep:=TH V i;unfold Zh at hstep;have e0:=(DV.cell (1+i*66)).trans (hcv.kind hlt);generalize (V.pg i).kind=kd at *;obtain ⟨d,rfl⟩:∃d:Nat,kd=(d:Int):=⟨kd.toNat,zo⟩;rw [Int.toNat_natCast] at hstep;have hd4:(d:Int)<4:=zo;have e1:wr.cell? ⟨s+2,d,none⟩=some (.pointer (some ⟨s+1,d,none⟩)):=by
    exact ac6
   have hz:=hcs.at_ d zo;obtain ⟨z,hz0⟩:=ah (fq V i d);have hzb:=hb5 d;have hzr:0<=z/\z<=1024:=by rw [<-hz0];exact hzb
   rw [hz0] at hz;have e2:=(h4.cell d).trans hz;have f2:=h4.frozen d;have ES:=h4.aM d (zI (z+1));have hcs':=hcs.set (f:=rT (fq V i) d) d (z+1) (by simp [rT,hz0]) (λj hj=>by simp [rT,hj]);have F4:=ag.setCell (T:=λk=>k=s+1) (p:=⟨s+1,d,none⟩) (ag.refl _ wr) (λ_=>rfl) (zI (z+1));go_upto_region 9 with fail
   generalize wr.setCell ⟨s+1,d,none⟩ _=w3 at *;clear e0 e1 e2 f2 DV hcv hcs h4 hz hzr;obtain ⟨f5,Bi⟩:∃f5:Nat->Int,rT (fq V i) d=f5:=⟨_,rfl⟩;have aj4:0<=f5 4/\f5 4<=2000:=by rw [<-Bi];have:=hb5 4;unfold rT;split <;> omega
   rw [Bi] at hcs' hstep;clear Bi hz0 hb5 hzb;have B3:=hB.trans (F4.below (by have:=hB.size;omega) (λk hk e=>by omega));have h03:=F4.blk h0 (by show ¬s=s+1;omega);have h53:=F4.blk h5 (by show ¬s+2=s+1;omega);clear h0 h5 F4 hB;generalize cs.setIfInBounds d _=cs at *;obtain ⟨cv,A,n,cap,DV,hcv,_⟩:=(hV'.out.call B3).ex;have e0:=(DV.cell (1+i*66+1)).trans (hcv.Bo hlt);have RQ:=hcs'.at_ 4 zo;obtain ⟨z4,Zi⟩:=ah (f5 4);have axm:0<=z4/\z4<=2000:=by rw [<-Zi];exact aj4
   rw [Zi] at RQ;have e2:=(ES.cell 4).trans RQ;have f2:=ES.frozen 4;have ac7:=ES.aM 4 (zI (z4+1));have VX:=hcs'.set (f:=rT f5 4) 4 (z4+1) (by simp [rT,Zi]) (λj hj=>by simp [rT,hj]);have hs1:=ae hstep;clear hstep Zi aj4;have F4:=ag.setCell (T:=λk=>k=s+1) (p:=⟨s+1,4,none⟩) (ag.refl _ w3) (λ_=>rfl) (zI (z4+1));clear DV hcv;cases hh:(V.pg i).bP with
   | false =>
    rw [hh] at e0;have hs2:=ae (hs1.out.1 (.inl hh));clear hh;exact aeO
   | true =>
    rw [hh] at e0;have Ph:=ae (HF.out (i:Int) w3);cases hf:jJ (i:Int) with
    | false =>
     rw [hf] at Ph;have hs2:=ae (hs1.out.1 (.inr hf));clear hf hh;go_wp2_with fail;refine Ph.out.zr λw9 cZ=>?_
     replace cZ:=cZ.symm;subst cZ;exact aeO
    | true =>
     rw [hf] at Ph;have hs2:=ae (hs1.out.2 hh hf);clear hf hh;go_wp2_with fail;refine Ph.out.zr λw9 cZ=>?_
     replace cZ:=cZ.symm;subst cZ;have B4:=B3.trans (F4.below (by have:=B3.size;omega) (λk hk e=>by omega));have h04:=F4.blk h03 (by show ¬s=s+1;omega);have h54:=F4.blk h53 (by show ¬s+2=s+1;omega);go_wp2_with fail;go_roundw
     case rel=>exact ⟨i+1,zo,by go_num,B4,h04,h54,_,by rw [hs2.out];exact VX,ac7⟩
     case measure=>exact zm
  ·obtain rfl:i=1024:=zo
   have hlt':decide (((1024:Nat):Int)<1024)=false:=by simp
   have hra:wr.rangeAt (s+1) 0 cs.toList:=λj v hj=>by
    rw [Nat.zero_add,h4.cell];simpa using hj
   have hsz:=hcs.size;have zg:=ae (hcs.eq (Xt V 1024));have ht:wr.there s 0 cs.size:=by rw [hsz];exact dL h0 0 5 zs
   have oV:=af.puts (g:=s) (t:=77) (w:=wr) (cs:=#[]) cs.toList 0 wr _ h0;rw [eH (by rw [Array.length_toList,hsz];rfl),Array.toArray_toList] at oV;have hF9:=ag.puts (T:=λk=>k=s) rfl cs.toList 0 wr wr (ag.refl _ _);have hone:=Go.all_oneCell_toArray (hcs.one);rw [Array.toArray_toList] at hone;have lU:(prog.info? 77).map (·.size)=some cs.size:=by rw [hsz];exact Pf
   go_wp2_with (first
    | (refine wpList_load_mid rfl 77 (.tmp 4) rfl (s+1) 0 rfl cs.toList _ hra underlying77 rfl (by rw [Array.length_toList,hsz];kernel_rfl) ?_;rw [Array.toArray_toList])
    | (refine wpList_store_mid rfl 77 (.tmp 2) (.tmp 48) rfl s 0 cs rfl rfl ht lU hone ?_))
   generalize World.setCells wr s 0 _=w9 at *;have zF:w9.rangeAt s 0 cs.toList:=λj v hj=>by
    rw [Nat.zero_add,oV.cell];simpa using hj
   have Ht:=run_loadVar_mid (P:=prog) w9 s 0 77 cs.toList _ zF underlying77 rfl (by rw [Array.length_toList,hsz];kernel_rfl);rw [Array.toArray_toList] at Ht;refine bodyPost_ret (v:=.tuple #[.agg cs,zI 0]) ?_ rfl ?_
   ·exact gQ results22 rfl Ht
   exact ⟨by rw [zg.out],hB.trans (hF9.below (by have:=hB.size;omega) (λk hk e=>by omega))⟩
theorem oI:Maps.Keyed prog 3:=Maps.int_keyed underlying3
theorem aeP (w:World):(zeroValue 3).run prog w= .ok (zI 0) w:=zk
theorem Og {K:List Sp} (hK:Go.Pol.Can K) {j:Nat} (hj:j<1024):jR K ((j:Int),1)=0/\(decide (jR K ((j:Int),1)=0)&&(aZ K ((j:Int),1)).isEmpty)=mem (j:Int) K:=by
 have hv:bF ((j:Int),1)=true:=av.2 ⟨by show (0:Int)<=j;omega,by show (j:Int)<1024;omega,by show (1:Int)<=1;omega,by show (1:Int)<=1024 - j;omega⟩;have ha:jR K ((j:Int),1)=0:=by
  unfold jR;rw [if_pos (bI.2 hK),if_pos hv]
 exact ⟨ha,by rw [ha,I8 hK hv];rfl⟩
theorem KE (f:Int->Option Int) (p c d:Int):PZ (PZ f p c) p d=PZ f p d:=by
 funext q;unfold PZ;split <;> rfl
theorem zT8 {P:Prop} (h:P:=by
 obtain ⟨aqR,aqS,aqT⟩:=mM KF Et KG;have aqU:=Et.frozen;obtain ⟨Dw4,aqV,aqW,aqX⟩:=Mw3
 gi_upto_region 18 with (gi_at_mapUpdate;refine wpListIn_mapUpdate_own _ rfl _ _ _ 124 rfl 3 3 oI underlying124 _ bm _ _ rfl aqV (by unfold maxLen;omega) _ _ _ rfl rfl hkey _ [] hv2 ?_;intro w4 ahl aeR)
 have Mw4:=gH.put aqW aqX ahl;have Fw4:ag (λk=>k=bm) w3 w4:=(ag.refl _ w3).grown aeR (λr hr _=>by cases hr;rfl);have aqY:=TJ.trans' Fw4 (λi _ h=>.inl h);have aj5:=Fw4.blk KF zo;have aeT:=Fw4.blk Et zo;have aj6:=Fw4.blk KG zo;have Bw4:=Xv.trans (Fw4.below (by have:=Xv.size;omega) (λk hk=>by omega));obtain ⟨axn,axo,axp⟩:=mM aj5 aeT aj6;have axq:=aeT.frozen
 gi_wp2_with fail
 have FZ:=aqY.setCell (p:=⟨gn,0,none⟩) (λ_=>.inr rfl) (zI ((j:Int)+1));have F1:ag (λk=>k=gn) w4 (w4.setCell ⟨gn,0,none⟩ (zI ((j:Int)+1))):=ag.setCell (T:=λk=>k=gn) (p:=⟨gn,0,none⟩) (ag.refl _ _) (λ_=>rfl) _;have M5:=(Mw4.far F1 zo).mono (m:=3*(pre++[x]).length) (by rw [hn1];omega);have kG5:=F1.blk aj5 zo;have kS5:=F1.blk aj6 zo;have kN5:=aeT.aM 0 (zI ((j:Int)+1));have B5:=Bw4.trans (F1.below (by have:=Bw4.size;omega) (λk hk=>by omega));refine ⟨FZ.mono λk _ h=>?_,?_,nM,kG5,nG,?_,nN,kS5,nS,B5,hX⟩
 ·rintro (h'|h'|h'|h')
  ·have:=TK k h';omega
  ·rcases h with h|h
   ·exact nM (h ▸ h')
   ·exact nN (h ▸ h')
  ·omega
  ·omega
 ·rw [hw]
  simpa [KE] using M5
 ·rw [hn1]
  exact kN5):P:=h
theorem aj7 {P:Prop} (h:P:=by
 cases e1:(kk != 1) with
 | false =>
  simp only [e1,if_true,Bool.false_and,Bool.false_eq_true,if_false] at rz;have hN:=ae rz;clear rz;go_wp2_with fail;go_roundw
  case rel=>exact ⟨k+1,by go_num,zo,by rw [hN.out];rw [show pg+((k+1:Nat):Int)=pg+(k:Int)+1 by omega],hM1,Ig,kS1,V1,B1,hd1⟩
  case measure=>exact zm
 | true =>
  cases e3:(kk != 3) with
  | false =>
   simp only [e1,e3,if_true,Bool.true_and,Bool.false_eq_true,if_false] at rz;have hN:=ae rz;clear rz;go_wp2_with fail;go_roundw
   case rel=>exact ⟨k+1,by go_num,zo,by rw [hN.out];rw [show pg+((k+1:Nat):Int)=pg+(k:Int)+1 by omega],hM1,Ig,kS1,V1,B1,hd1⟩
   case measure=>exact zm
  | true =>
   simp only [e1,e3,if_true,Bool.true_and] at rz;have hN:=ae rz;clear rz;go_wp2_with fail;exact dF (v:=.tuple #[.bool false,zI (pg+(k:Int)),zI 0]) hd1 (by simp [results,results12,go_sem]) ⟨by rw [<-hR,hN.out],xA B1 (D:=d0) (by rw [hsH.out];omega) (.deferred none)⟩):P:=h
theorem aj8 {P:Prop} (h:P:=by
 obtain ⟨aqR,aqS,aqT⟩:=mM KF Et KG;have aqU:=Et.frozen
 gi_wp2_with fail
 have FZ:=TJ.setCell (p:=⟨gn,0,none⟩) (λ_=>.inr rfl) (zI ((j:Int)+1));have F1:ag (λk=>k=gn) w3 (w3.setCell ⟨gn,0,none⟩ (zI ((j:Int)+1))):=ag.setCell (T:=λk=>k=gn) (p:=⟨gn,0,none⟩) (ag.refl _ _) (λ_=>rfl) _;have M5:=(Mw3.far F1 zo).mono (m:=3*(pre++[x]).length) (by rw [hn1];omega);have kG5:=F1.blk KF zo;have kS5:=F1.blk KG zo;have kN5:=Et.aM 0 (zI ((j:Int)+1));have B5:=Xv.trans (F1.below (by have:=Xv.size;omega) (λk hk=>by omega));refine ⟨FZ.mono λk _ h=>?_,?_,nM,kG5,nG,?_,nN,kS5,nS,B5,hX⟩
 ·rintro (h'|h'|h'|h')
  ·have:=TK k h';omega
  ·rcases h with h|h
   ·exact nM (h ▸ h')
   ·exact nN (h ▸ h')
  ·omega
  ·omega
 ·rw [hw]
  simpa [KE] using M5
 ·rw [hn1]
  exact kN5):P:=h
theorem aj9 {P:Prop} (h:P:=by
 simp only [et,if_true,Bool.false_eq_true,if_false] at rz;have hN:=ae rz;clear rz;go_wp2_with fail;exact dF (v:=.tuple #[.bool false,zI (pg+(k:Int)),zI 0]) hd1 (by simp [results,results12,go_sem]) ⟨by rw [<-hR,hN.out],xA B1 (D:=d0) (by rw [hsH.out];omega) (.deferred none)⟩):P:=h
theorem aka {P:Prop} (h:P:=by
 simp only [et,Bool.false_eq_true,if_false] at rz;have hN:=ae rz;clear rz;go_wp2_with fail;go_roundw
 case rel=>exact ⟨k+1,by go_num,zo,by rw [hN.out];rw [show pg+((k+1:Nat):Int)=pg+(k:Int)+1 by omega],hM1,Ig,kS1,V1,B1,hd1⟩
 case measure=>exact zm):P:=h
theorem KH (bs:Nat) (V:Vm) (r:Cr) (A:Option Addr) (cap:Nat) (w:World) (hV:aA w bs V) (uS:aO V) (hcap:r.kept.length<=cap) (hcm:cap<=maxLen) (hr:RU w w.heap.size A r.kept) :
  zK 12 #[zP bs,.agg (aj r (.slice A r.kept.length cap))] w (.tuple #[.bool (mW V r).1,zI (mW V r).2.1,zI (mW V r).2.2]):=by
 have Xw:=ae (λW h=>yc bs V W h uS);have Bv:=ae (λW h=>o6 r A cap W hcap hcm h);have hmm:=@run_makeMap prog;obtain ⟨R,hR⟩:=ah (mW V r);rw [hR];unfold mW at hR;have Zj:=ae (@fw r);obtain ⟨ck,hck⟩:=ah (bq r);rw [hck] at hR Bv Zj;obtain ⟨pg,n,f,bk,ev,node,live,K,cl⟩:=r;dsimp only [aj] at Bv hcap hr hR ⊢;obtain ⟨nk,aeV⟩:=ah (K.length);have hnk:=ae aeV;rw [aeV] at Bv hcap ⊢;clear aeV;have hb0:=aQ w (.cells #[zI pg,zI n,zI f,zI bk,zI ev,zI node,zI live,.slice A nk cap,.bool cl] 28);have k0:=af.new w 28 #[zI pg,zI n,zI f,zI bk,zI ev,zI node,zI live,.slice A nk cap,.bool cl];have RF:=hV.call hb0;have hrw:=ae hr;have hVH:=ae hV;obtain ⟨s,hs⟩:=ah (w.heap.size);have hsH:=ae hs;rw [hs] at k0;clear hV hr hck;refine bL func12 rfl ?_;simp only [ntmps12,List.size_toArray,List.length_cons,List.length_nil,Nat.reduceAdd,Nat.reduceSub,Array.replicate_succ,Array.replicate_zero,List.push_toArray,List.append_toArray,List.nil_append,List.cons_append];go_upto_region 1 with fail
 generalize w.alloc _=w0 at *;try simp only [hs]
 go_wp2_with fail;refine (Xw.out _ RF).zr λw1 hb1=>?_
 have B1:=hb0.zt hb1;obtain ⟨V1,k1⟩:=bY hb1 RF k0;clear hb0 RF k0 hb1 Xw;go_upto_region 2 with fail
 have gN:=aQ w1 (.cells (PX V 1024) 77);obtain ⟨k2,V2⟩:=bY gN k1 V1;have B2:=B1.zt gN;generalize w1.alloc _=w2 at *;have c2:=k2.cell;clear k1 V1 B1 gN;go_wp2_with fail;refine (Bv.out _ (hrw.out.on B2)).zr λw3 hb3=>?_
 have B3:=B2.zt hb3;obtain ⟨k3,V3⟩:=bY hb3 k2 V2;have c3:=k3.cell;clear k2 V2 B2 hb3 c2 Bv;by_cases h0:ck=0
 case neg =>
  have d0:=gJ h0;rw [if_pos h0] at hR;subst hR;clear h0 Zj;go_wp2_with fail;exact iH (v:=.tuple #[.bool false,zI 0,zI ck]) (by simp [results,results12,go_sem]) ⟨rfl,by have q:=B3;rw [hsH.out] at q;exact q⟩
 subst h0;rw [if_neg zs] at hR;have uG:=Zj.out.1 rfl;have hp:=uG.plan;have jC:=uG.can;simp only at hp jC;have HU:=ae (λW=>Ed pg n f bk ev W (bR.2 hp));unfold ek at HU;have hLC:=bN hp;have hpo:=ae (Rt hLC);have hpm:(bA (ay pg n f bk ev)).length<=1024:=by
  have h1:=iB (ay pg n f bk ev) (λx hx=>by have:=mi hp x hx;omega);have:=(lL hp).2;omega
 have aq0:Hid (∀p∈bA (ay pg n f bk ev),0<=p/\p<1024):=ae (λp h=>hLC.range (xM.1 h));have hfin:Hid (∀p,qw ⟨pg,n,f,bk,ev,node,live,K,cl⟩ (bA (ay pg n f bk ev)) 0 (λ_=>none) p=if mem p (ay pg n f bk ev)=true then some (jD ⟨pg,n,f,bk,ev,node,live,K,cl⟩ p) else none):=ae (Xu (r:=⟨pg,n,f,bk,ev,node,live,K,cl⟩) hp);have hwn:Hid (∀p,¬mem p (ay pg n f bk ev)=true->jD ⟨pg,n,f,bk,ev,node,live,K,cl⟩ p=3):=ae (λp h=>TI (r:=⟨pg,n,f,bk,ev,node,live,K,cl⟩) h);have avD:=hLC.len;have M4:=gH.made (P:=prog) (ti:=3) w3;have EZ:=aQ w3 (.map #[] 0);obtain ⟨k4,V4⟩:=bY EZ k3 V3;have B4:=B3.zt EZ;obtain ⟨bm,hbm⟩:=ah (w3.heap.size);have hsm:s<bm:=by rw [<-hbm];exact k3.lt
 rw [hbm] at M4;clear k3 V3 B3 Zj uG c3 EZ;go_upto_region 8 with fail
 have RQ:(w3.alloc (.map #[] 0)).heap.size=bm+1:=by simp [hbm]
 generalize w3.alloc _=w4 at *;obtain ⟨gm,hgm⟩:=ah (bm+1);rw [hgm] at RQ;try simp only [hgm]
 have hbB:=aQ w4 (.cells #[.map (some bm)] 124);have kG:=af.new w4 124 #[.map (some bm)];obtain ⟨k5,V5,M5⟩:=mY hbB k4 V4 M4;have B5:=B4.zt hbB;have hmg:bm<gm:=zo;rw [RQ] at kG;generalize w4.alloc _=w5 at *;clear hgm;have c5:=k5.cell;clear k4 V4 B4 M4 hbB;go_wp2_with fail;refine (HU.out w5).mono ?_;rintro e w6 ⟨A2,cu,rfl,Bt,hlu,Cz,hb6⟩;obtain ⟨k6,V6,M6,kG6⟩:=vO hb6 k5 V5 M5 kG;have B6:=B5.zt hb6;clear k5 V5 B5 M5 kG hb6 HU c5;go_upto_region 10 with fail
 have hbN:=aQ w6 (.cells #[zI 0] 3);have kN:=af.new w6 3 #[zI 0];obtain ⟨k7,V7,M7,kG7,akb⟩:=lM hbN k6 V6 M6 kG6 Bt;have B7:=B6.zt hbN;obtain ⟨gn,hgn⟩:=ah (w6.heap.size);have hgg:gm<gn:=by rw [<-hgn];exact kG6.lt
 rw [hgn] at kN;generalize w6.alloc _=w7 at *;try simp only [hgn]
 clear k6 V6 B6 M6 kG6 Bt hbN;have HPg:=ae (Ma A2 (ay pg n f bk ev).length cu (ay pg n f bk ev) w7 rfl (by unfold maxLen at Cz;omega) akb.ru);generalize ay pg n f bk ev=LL at *;go_wp2_with fail;refine HPg.out.mono ?_;rintro e w8 ⟨lb,Kk,rfl,hseq,TK,rU⟩;obtain ⟨k8,V8,M8,kG8,kN8⟩:=lM rU k7 V7 M7 kG7 kN;have B8:=B7.zt rU;have h78:=rU.size;have hlN:=kN.lt;unfold qQ at hseq;rw [hpo.out] at hseq;clear k7 V7 B7 M7 kG7 kN akb rU HPg;generalize hxs:bA LL=xs at *;obtain ⟨d0,hd0⟩:∃d,w8.heap.size=d:=⟨_,rfl⟩;have hgd:gn<d0:=zo;have hlen:∀(pre:List Int) (x:Int),pre++[x] <+: xs->pre.length<1024/\0<=x/\x<1024:=λpre x h=>by
  have h1:=h.length_le;have h2:=aq0.out x (h.subset zs);simp at h1;exact ⟨zo,h2.1,h2.2⟩
 go_wp2_with fail;refine acB 14 45 (gf:=130) (lb:=lb) rfl L9 hseq rfl (λ_ h=>h.elim) (λk h=>(TK k h).2)
  (λX pre W=>gH prog 3 W bm (3*pre.length) (qw ⟨pg,n,f,bk,ev,node,live,K,cl⟩ pre 0 (λ_=>none))/\¬X bm/\af W gm 124 #[.map (some bm)]/\¬X gm/\af W gn 3 #[zI pre.length]/\¬X gn/\af W s 28 #[zI pg,zI n,zI f,zI bk,zI ev,zI node,zI live,.slice A nk cap,.bool cl]/\¬X s/\Below w.heap.size w W/\∀k,X k->s<=k)
  (λ_ _ _ _=>False)
  ?hI (λ_ _ _ _ _ h _=>h.elim) ?hnew ⟨M8,id,kG8,id,kN8,id,k8,id,B8,λ_ h=>h.elim⟩ ?assign ?body ?done (λ_ _ _ _ _ _ h _=>h.elim)
 case hI =>
  rintro X pre W W' ⟨hM,nM,kG,nG,kN,nN,kS,nS,hB,hX⟩ hf;rw [hd0] at hf;exact ⟨hM.far hf (by rintro (h|h|h|h) <;> first|exact h|exact nM h|omega),nM,hf.blk kG (by rintro (h|h|h|h) <;> first|exact h|exact nG h|omega),nG,hf.blk kN (by rintro (h|h|h|h) <;> first|exact h|exact nN h|omega),nN,
   hf.blk kS (by rintro (h|h|h|h) <;> first|exact h|exact nS h|omega),nS,hB.trans (hf.below hB.size (λk hk=>by rintro (h|h|h|h) <;> first|exact h|(have:=hX k h;omega)|omega)),hX⟩
 case hnew =>
  rintro X X' pre W ⟨hM,nM,kG,nG,kN,nN,kS,nS,hB,hX⟩ Pn;exact ⟨hM,λh'=>(Pn _ h').elim nM (λh'=>by have:=hM.lt;omega),kG,λh'=>(Pn _ h').elim nG (λh'=>by have:=kG.lt;omega),kN,λh'=>(Pn _ h').elim nN (λh'=>by have:=kN.lt;omega),kS,λh'=>(Pn _ h').elim nS (λh'=>by have:=kS.lt;omega),hB,
   λk hk=>(Pn _ hk).elim (hX k) (λh'=>by have:=kS.lt;omega)⟩
 case assign =>
  exact OM
 case body =>
  rintro m l X pre x Wa W hsz hXlt ⟨hM,nM,kG,nG,kN,nN,kS,nS,hB,hX⟩ hpre hBa;simp only [List.setIfInBounds_toArray,List.set_cons_succ,List.set_cons_zero];rw [hd0] at hXlt hsz ⊢;obtain ⟨hj,hx0,hx1⟩:=hlen pre x hpre;have hn1:(pre++[x]).length=pre.length+1:=by simp
  have hw:=GM ⟨pg,n,f,bk,ev,node,live,K,cl⟩ x pre 0 (λ_=>none);obtain ⟨j,hjj⟩:=ah (pre.length);rw [hjj] at hM kN hj hn1 hw;generalize qw ⟨pg,n,f,bk,ev,node,live,K,cl⟩ pre 0 (λ_=>none)=ff at *;have L8:=hrw.out.on hB;have HH:=ae (λW h=>Q7 A nk cap K (j:Int) 1 W hnk.out hcap hcm h);rw [(Og jC hj).2,(Og jC hj).1] at HH;have hkey:keyOf prog 3 (.int .i64 x)=some (.int .i64 x):=Maps.keyOf_int_mk underlying3 (WalkArith.wf_i64 zo);have hv1:=plainElem_int (H:=Unit) (P:=prog) underlying3 (a:=1) (q:=.i64) zd;have hv2:=plainElem_int (H:=Unit) (P:=prog) underlying3 (a:=2) (q:=.i64) zd;obtain ⟨cG,cN,cS⟩:=mM kG kN kS;have fN:=kN.frozen;have FA:ag (λk=>k=bm\/k=gn) W W:=ag.refl _ W;have akc:GL ⟨pg,n,f,bk,ev,node,live,K,cl⟩ (0+(j:Int))=(decide ((j:Int)<live)||mem (j:Int) K):=by unfold GL;simp
  rw [akc] at hw;clear akc hpo hfin;by_cases hl:(j:Int)<live
  ·have d1:=bU hl
   rw [d1] at hw;cases hmk:mem (j:Int) K with
   | true =>
    rw [hmk] at HH;obtain ⟨Dw1,KI,KJ,KL⟩:=hM
    gi_upto_region 13 with (gi_at_mapUpdate;refine wpListIn_mapUpdate_own _ rfl _ _ _ 124 rfl 3 3 oI underlying124 _ bm _ _ rfl KI (by unfold maxLen;omega) _ _ _ rfl rfl hkey _ [] hv1 ?_;intro w1 yg uJ)
    have Xx:=gH.put KJ KL yg;have uK:ag (λk=>k=bm) W w1:=(ag.refl _ W).grown uJ (λr hr _=>by cases hr;rfl);have KM:=FA.trans' uK (λi _ h=>.inl h);have Ah:=uK.blk kG zo;have uL:=uK.blk kN zo;have Aj:=uK.blk kS zo;have KN:=hB.trans (uK.below (by have:=hB.size;omega) (λk hk=>by omega));obtain ⟨aeW,aeX,aeY⟩:=mM Ah uL Aj;have aeZ:=uL.frozen;obtain ⟨Dw2,ae0,ae1,ae2⟩:=Xx
    gi_upto_region 15 with (gi_at_mapUpdate;refine wpListIn_mapUpdate_own _ rfl _ _ _ 124 rfl 3 3 oI underlying124 _ bm _ _ rfl ae0 (by unfold maxLen;omega) _ _ _ rfl rfl hkey _ [] hv2 ?_;intro w2 Qa KO)
    have Mw2:=gH.put ae1 ae2 Qa;have KP:ag (λk=>k=bm) w1 w2:=(ag.refl _ w1).grown KO (λr hr _=>by cases hr;rfl);have ae3:=KM.trans' KP (λi _ h=>.inl h);have TL:=KP.blk Ah zo;have KQ:=KP.blk uL zo;have TM:=KP.blk Aj zo;have Bw2:=KN.trans (KP.below (by have:=KN.size;omega) (λk hk=>by omega));obtain ⟨aq5,aq6,aq7⟩:=mM TL KQ TM;have aq8:=KQ.frozen
    gi_upto_region 16 with (gi_at_call 57;refine (CallsIn.inRound l (callsIn_wide.2 (HH.out _ (hrw.out.on Bw2)))).mono ?_;rintro e w3 ⟨rfl,Ak⟩)
    obtain ⟨Mw3,TJ,KF,Et,KG⟩:=lM Ak Mw2 ae3 TL KQ TM;have Xv:=Bw2.zt Ak;exact zT8
   | false =>
    rw [hmk] at HH;rw [hmk] at hw;obtain ⟨Dw1,KI,KJ,KL⟩:=hM
    gi_upto_region 13 with (gi_at_mapUpdate;refine wpListIn_mapUpdate_own _ rfl _ _ _ 124 rfl 3 3 oI underlying124 _ bm _ _ rfl KI (by unfold maxLen;omega) _ _ _ rfl rfl hkey _ [] hv1 ?_;intro w1 yg uJ)
    have Xx:=gH.put KJ KL yg;have uK:ag (λk=>k=bm) W w1:=(ag.refl _ W).grown uJ (λr hr _=>by cases hr;rfl);have KM:=FA.trans' uK (λi _ h=>.inl h);have Ah:=uK.blk kG zo;have uL:=uK.blk kN zo;have Aj:=uK.blk kS zo;have KN:=hB.trans (uK.below (by have:=hB.size;omega) (λk hk=>by omega));obtain ⟨aeW,aeX,aeY⟩:=mM Ah uL Aj;have aeZ:=uL.frozen;obtain ⟨Dw2,ae0,ae1,ae2⟩:=Xx
    gi_upto_region 15 with (gi_at_mapUpdate;refine wpListIn_mapUpdate_own _ rfl _ _ _ 124 rfl 3 3 oI underlying124 _ bm _ _ rfl ae0 (by unfold maxLen;omega) _ _ _ rfl rfl hkey _ [] hv2 ?_;intro w2 Qa KO)
    have Mw2:=gH.put ae1 ae2 Qa;have KP:ag (λk=>k=bm) w1 w2:=(ag.refl _ w1).grown KO (λr hr _=>by cases hr;rfl);have ae3:=KM.trans' KP (λi _ h=>.inl h);have TL:=KP.blk Ah zo;have KQ:=KP.blk uL zo;have TM:=KP.blk Aj zo;have Bw2:=KN.trans (KP.below (by have:=KN.size;omega) (λk hk=>by omega));obtain ⟨aq5,aq6,aq7⟩:=mM TL KQ TM;have aq8:=KQ.frozen
    gi_upto_region 16 with (gi_at_call 57;refine (CallsIn.inRound l (callsIn_wide.2 (HH.out _ (hrw.out.on Bw2)))).mono ?_;rintro e w3 ⟨rfl,Ak⟩)
    obtain ⟨Mw3,TJ,KF,Et,KG⟩:=lM Ak Mw2 ae3 TL KQ TM;have Xv:=Bw2.zt Ak;exact aj8
  ·have d1:=bV hl
   rw [d1] at hw;cases hmk:mem (j:Int) K with
   | true =>
    rw [hmk] at HH;rw [hmk] at hw;obtain ⟨Dw1,KI,KJ,KL⟩:=hM
    gi_upto_region 13 with (gi_at_mapUpdate;refine wpListIn_mapUpdate_own _ rfl _ _ _ 124 rfl 3 3 oI underlying124 _ bm _ _ rfl KI (by unfold maxLen;omega) _ _ _ rfl rfl hkey _ [] hv1 ?_;intro w1 yg uJ)
    have Xx:=gH.put KJ KL yg;have uK:ag (λk=>k=bm) W w1:=(ag.refl _ W).grown uJ (λr hr _=>by cases hr;rfl);have KM:=FA.trans' uK (λi _ h=>.inl h);have Ah:=uK.blk kG zo;have uL:=uK.blk kN zo;have Aj:=uK.blk kS zo;have KN:=hB.trans (uK.below (by have:=hB.size;omega) (λk hk=>by omega));obtain ⟨aeW,aeX,aeY⟩:=mM Ah uL Aj;have aeZ:=uL.frozen
    gi_upto_region 16 with (gi_at_call 57;refine (CallsIn.inRound l (callsIn_wide.2 (HH.out _ (hrw.out.on KN)))).mono ?_;rintro e w3 ⟨rfl,Ak⟩)
    obtain ⟨Mw3,TJ,KF,Et,KG⟩:=lM Ak Xx KM Ah uL Aj;have Xv:=KN.zt Ak;exact zT8
   | false =>
    rw [hmk] at HH;rw [hmk] at hw;obtain ⟨Dw1,KI,KJ,KL⟩:=hM
    gi_upto_region 13 with (gi_at_mapUpdate;refine wpListIn_mapUpdate_own _ rfl _ _ _ 124 rfl 3 3 oI underlying124 _ bm _ _ rfl KI (by unfold maxLen;omega) _ _ _ rfl rfl hkey _ [] hv1 ?_;intro w1 yg uJ)
    have Xx:=gH.put KJ KL yg;have uK:ag (λk=>k=bm) W w1:=(ag.refl _ W).grown uJ (λr hr _=>by cases hr;rfl);have KM:=FA.trans' uK (λi _ h=>.inl h);have Ah:=uK.blk kG zo;have uL:=uK.blk kN zo;have Aj:=uK.blk kS zo;have KN:=hB.trans (uK.below (by have:=hB.size;omega) (λk hk=>by omega));obtain ⟨aeW,aeX,aeY⟩:=mM Ah uL Aj;have aeZ:=uL.frozen
    gi_upto_region 16 with (gi_at_call 57;refine (CallsIn.inRound l (callsIn_wide.2 (HH.out _ (hrw.out.on KN)))).mono ?_;rintro e w3 ⟨rfl,Ak⟩)
    obtain ⟨Mw3,TJ,KF,Et,KG⟩:=lM Ak Xx KM Ah uL Aj;have Xv:=KN.zt Ak;exact aj8
 case done =>
  rintro X W hsz ⟨hM,nM,kG,nG,kN,nN,kS,nS,hB,hX⟩ hd;rw [hd0] at hsz hd ⊢;rw [funext hfin.out] at hM;have hV9:=hVH.out.call hB;have hp0:=hp.Cv;have hpn:=hp.n1;have axr:=hp.n0;have cS:=kS.cell;clear V8 M8 kG8 kN8 k8 B8 nM nG nN nS hX kN TK hseq hfin hp;obtain ⟨nn,rfl⟩:∃nn:Nat,n=nn:=⟨n.toNat,zo⟩;rw [Int.toNat_natCast] at hR;go_upto_region 20 with fail
  go_loopw [17] (λu wr=>∃k:Nat,u = zI (pg+(k:Int))/\k<=nn/\Ag V ⟨pg,nn,f,bk,ev,node,live,K,cl⟩ nn pg=Ag V ⟨pg,nn,f,bk,ev,node,live,K,cl⟩ (nn - k) (pg+(k:Int))/\gH prog 3 wr bm (3*xs.length) (λq=>if mem q LL=true then some (jD ⟨pg,nn,f,bk,ev,node,live,K,cl⟩ q) else none) /\
   af wr gm 124 #[.map (some bm)]/\af wr s 28 #[zI pg,zI nn,zI f,zI bk,zI ev,zI node,zI live,.slice A nk cap,.bool cl]/\aA wr bs V/\Below w.heap.size w wr/\wr.heap[d0]? = some (.deferred (some []))) (λu _=>(pg+(nn:Int)).toNat - (intOf u).toNat)
  case atStart=>exact ⟨0,zs,zo,zs,hM,kG,kS,hV9,hB,hd⟩
  case round =>
   clear hM kG kS hV9 hB hd cS;obtain ⟨k,rfl,hkn,EO,ML,kG9,kS9,hV9,Rq,R5⟩:=hrel;obtain ⟨cG9,cS9⟩:=bB kG9 kS9;by_cases hlt:k<nn
   ·have dlt:decide (pg+(k:Int)<pg+(nn:Int))=true:=by simp;omega
    have HK:=ae (λW h=>Ju bs (pg+(k:Int)) V W h);rw [if_pos (show 0<=pg+(k:Int)/\pg+(k:Int)<1024 by omega),if_pos (show 0<=pg+(k:Int)/\pg+(k:Int)<1024 by omega),if_pos (show 0<=pg+(k:Int)/\pg+(k:Int)<1024 by omega)] at HK;have hkd:Hid ((V.pg (pg+(k:Int)).toNat).kind=Go.Pol.kd V (pg+(k:Int)).toNat):=ae rfl;rw [hkd.out] at HK;have rz:=EO;rw [show nn - k=(nn - (k+1))+1 by omega,Ag] at rz;have hkey:keyOf prog 3 (.int .i64 (pg+(k:Int)))=some (.int .i64 (pg+(k:Int))):=Maps.keyOf_int_mk underlying3 (WalkArith.wf_i64 zo);have hcw:∀(D:DataW Unit) (c:Int),((if mem (pg+(k:Int)) LL=true then some (jD ⟨pg,nn,f,bk,ev,node,live,K,cl⟩ (pg+(k:Int))) else none)=none/\Maps.has D (.int .i64 (pg+(k:Int)))=false)\/((if mem (pg+(k:Int)) LL=true then some (jD ⟨pg,nn,f,bk,ev,node,live,K,cl⟩ (pg+(k:Int))) else none)=some c/\Maps.has D (.int .i64 (pg+(k:Int)))=true)->(Maps.has D (.int .i64 (pg+(k:Int)))=false/\jD ⟨pg,nn,f,bk,ev,node,live,K,cl⟩ (pg+(k:Int))=3)\/(Maps.has D (.int .i64 (pg+(k:Int)))=true/\jD ⟨pg,nn,f,bk,ev,node,live,K,cl⟩ (pg+(k:Int))=c):=by
     intro D c h;by_cases hm:mem (pg+(k:Int)) LL=true
     ·rw [if_pos hm] at h
      rcases h with ⟨h,_⟩|⟨h,h2⟩
      ·cases h
      ·exact .inr ⟨h2,by injection h⟩
     ·rw [if_neg hm] at h
      rcases h with ⟨_,h2⟩|⟨h,_⟩
      ·exact .inl ⟨h2,hwn.out _ hm⟩
      ·cases h
    go_wp2_with fail;refine (HK.out _ hV9).zr λw1 hb1=>?_
    obtain ⟨hM1,Ig,kS1,V1⟩:=vO hb1 ML kG9 kS9 hV9;have B1:=Rq.zt hb1;have hd1:w1.heap[d0]? = some (.deferred (some [])):=(hb1.block d0 (Array.getElem?_eq_some_iff.1 R5).1).trans R5;obtain ⟨cG1,cS1⟩:=bB Ig kS1;obtain ⟨D,ho,hi,hh⟩:=hM1;have hM1:gH prog 3 w1 bm (3*xs.length) (λq=>if mem q LL=true then some (jD ⟨pg,nn,f,bk,ev,node,live,K,cl⟩ q) else none):=⟨D,ho,hi,hh⟩;clear ML kG9 kS9 hV9 Rq R5 cG9 cS9 hb1 HK;go_upto_region 24 with (at_lookup;refine wpList_lookup_own_ok_int _ rfl _ _ 124 rfl 3 3 .i64 oI underlying124 underlying3 (aeP _) bm _ _ rfl ho _ _ rfl hkey ?_;intro c hat hwc)
    have hW:=ae (hcw D c (gH.look (f:=λq=>if mem q LL=true then some (jD ⟨pg,nn,f,bk,ev,node,live,K,cl⟩ q) else none) (p:=pg+(k:Int)) (hh _) hat));clear hcw hh hi ho hat hwc hkey;generalize Maps.has D (.int .i64 (pg+(k:Int)))=hb at *;generalize hto:jD ⟨pg,nn,f,bk,ev,node,live,K,cl⟩ (pg+(k:Int))=tq at *;generalize hkk:Go.Pol.kd V (pg+(k:Int)).toNat=kk at *;have hbd:Od V ⟨pg,nn,f,bk,ev,node,live,K,cl⟩ (pg+(k:Int))=(if cl=true then (kk != 1&&kk != 3) else kk != tq):=by unfold Od;rw [hto,hkk]
    rw [hbd] at rz;clear hto hkk hkd hbd;have hW':=hW.out;clear hW;rcases hW' with ⟨rfl,rfl⟩|⟨rfl,rfl⟩
    ·cases cl with
     | true =>
      exact aj7
     | false =>
      cases et:(kk != 3) with
      | false =>
       exact aka
      | true =>
       exact aj9
    ·cases cl with
     | true =>
      exact aj7
     | false =>
      cases et:(kk != tq) with
      | false =>
       exact aka
      | true =>
       exact aj9
   ·obtain rfl:k=nn:=zo
    have dlt:decide (pg+(k:Int)<pg+(k:Int))=false:=by simp
    rw [Nat.sub_self,Ag] at EO;rw [EO] at hR;go_wp2_with fail;exact dF (v:=.tuple #[.bool true,zI (-1),zI 0]) R5 (by simp [results,results12,go_sem]) ⟨by rw [<-hR],by have q:=xA Rq (D:=d0) (by rw [hsH.out];omega) (.deferred none);rw [hsH.out] at q;exact q⟩
theorem aaO (bs:Nat) (V:Vm) (r:Cr) (A:Option Addr) (cap:Nat) (w:World) (hV:aA w bs V) (uS:aO V) (hcap:r.kept.length<=cap) (hcm:cap<=maxLen) (hk:KeptAt w A r.kept) :
  Calls prog 12 #[zP bs,.agg (aj r (.slice A r.kept.length cap))] w λe w'=>e= .returned (.tuple #[.bool (mW V r).1,zI (mW V r).2.1,zI (mW V r).2.2])/\Below w.heap.size w w' :=
 KH bs V r A cap w hV uS hcap hcm hk.ru
end Go.Proofs.YtlgcpjhimomiaaaGreat
