/- Texts ZWalkQ, ZWalkR, QSpecA, QSpecB, QWalkJ, QWalkK, ZLibU, QWalkL, QWalkM. -/
import Derived.DeepKeys
import Derived.Test.YtlgcpjhimomiaaaGreatO5
set_option maxRecDepth 100000
set_option maxHeartbeats 12800000
namespace Go.Pol
open Go Go.RowKit Go.Proofs.Tryz
def jU (V:Vm) (p:Int):Int×Vm:=if jJ p=false then (7,V) else gX V p 16 6 (λg=>g.bP) (λg=>g.dQ false)
structure vU (cs:Array Value) (n:Nat):Prop where
 size:cs.size=n
 at_:∀j,j<n->∃z:Int,cs[j]? = some (zI z)
theorem vU.set {cs:Array Value} {n:Nat} (h:vU cs n) (i:Nat) (z:Int):vU (cs.setIfInBounds i (zI z)) n:=by
 refine ⟨by simp [h.size],λj hj=>?_⟩;rw [Array.getElem?_setIfInBounds];by_cases e:i=j
 ·rw [if_pos e,if_pos (by rw [h.size];omega)]
  exact ⟨z,rfl⟩
 ·rw [if_neg e]
  exact h.at_ j hj
theorem ac3 {P:Prop} (h:P:=by
 rw [Array.getElem?_eq_getElem (by simpa using hi)] at hz;simp only [Option.some.injEq] at hz;rw [Array.getElem_toList,hz];rfl):P:=h
theorem vU.one {cs:Array Value} {n:Nat} (h:vU cs n):∀x∈cs.toList,x.oneCell'=true:=by
 intro x hx;obtain ⟨i,hi,rfl⟩:=List.mem_iff_getElem.1 hx;obtain ⟨z,hz⟩:=h.at_ i (by rw [<-h.size];simpa using hi);exact ac3
def xP (V:Vm) (a:Int):Int:=if a<0\/65536<=a then 7 else if (V.pg (a / 64).toNat).kind≠2 then 61 else 0
def Pg.mP (g:Pg) (k:Nat) (v:Int):Pg:={ g with fe:=λj=>if j=k then v else g.fe j }
def kT (V:Vm) (a:Int) (v:Int):Vm:=if xP V a=0 then V.gq (a / 64).toNat ((V.pg (a / 64).toNat).mP (a % 64).toNat v) else V
theorem iA.Jz {cs:Array Value} {v:Value} {V:Vm} (h:iA cs v V) {p k:Nat} (hp:p<1024) (hk:k<64) (x:Int):iA (cs.setIfInBounds (1+p*66+2+k) (.int .u8 x)) v (V.gq p ((V.pg p).mP k x)):=by
 have hs:=h.size;have hg:∀i,(cs.setIfInBounds (1+p*66+2+k) (.int .u8 x))[i]? = if 1+p*66+2+k=i then some (.int .u8 x) else cs[i]? := λi=>by
  rw [Array.getElem?_setIfInBounds];by_cases e:1+p*66+2+k=i
  ·rw [if_pos e,if_pos e,if_pos zo]
  ·rw [if_neg e,if_neg e]
 refine ⟨by simp [hs],?_,λq hq i hi=>?_,λi hi=>?_⟩
 ·rw [hg,if_neg zo];exact h.made
 ·rw [hg]
  by_cases e:q=p
  ·subst e
   have rF:(V.gq q ((V.pg q).mP k x)).pg q=(V.pg q).mP k x:=by simp [Vm.gq]
   rw [rF]
   match i with
   | 0=>rw [if_neg zo,h.page q hq 0 hi];rfl
   | 1=>rw [if_neg zo,h.page q hq 1 hi];rfl
   | j+2 =>
    have hj:j<64:=zo;have e2:∀g:Pg,(qd g)[j+2]? = some (.int .u8 (g.fe j)):=λg=>by
     unfold qd;simp [hj]
    rw [e2];by_cases e1:j=k
    ·subst e1
     rw [if_pos zo];simp [Pg.mP]
    ·rw [if_neg zo,h.page q hq (j+2) hi,e2]
     simp [Pg.mP,e1]
  ·exact Jt
 ·rw [hg,if_neg zo];exact h.rf i hi
theorem aA.Jz {w:World} {b:Nat} {V:Vm} (h:aA w b V) {p k:Nat} (hp:p<1024) (hk:k<64) (x:Int):aA (w.setCell ⟨b,1+p*66+2+k,none⟩ (.int .u8 x)) b (V.gq p ((V.pg p).mP k x))/\ag (λk=>k=b) w (w.setCell ⟨b,1+p*66+2+k,none⟩ (.int .u8 x)):=by
 obtain ⟨cs,A,n,cap,h1,h2,h3,h4,h5,h6,h7,h8⟩:=h.ex;have hF:ag (λk=>k=b) w (w.setCell ⟨b,1+p*66+2+k,none⟩ (.int .u8 x)):=ag.setCell (T:=λk=>k=b) (p:=⟨b,1+p*66+2+k,none⟩) (ag.refl _ _) (λ_=>rfl) _;exact ⟨⟨_,A,n,cap,h1.aM _ _,h2.Jz hp hk x,h3,(h4.keepR hF (λg' o e h=>h6 g' o e h)).more hF.size,h5,h6,h7,λg o e h=>(h8 g o e h).imp λcr hc=>hF.blk hc (h6 g o e h)⟩,hF⟩
theorem aO.dD {V:Vm} (h:aO V) (a n:Nat) {f:Pg->Pg} (hf:∀g:Pg,(0<=g.kind/\g.kind<=3)->0<=(f g).kind/\(f g).kind<=3):aO (V.dD a n f):=λq hq=>by
 show 0<=(if a<=q/\q<a+n then f (V.pg q) else V.pg q).kind/\(if a<=q/\q<a+n then f (V.pg q) else V.pg q).kind<=3;split
 ·exact hf _ (h q hq)
 ·exact h q hq
theorem Vm.agQ (V:Vm) (call:Nat):(V.ref call).pg=V.pg:=by
 unfold Vm.ref
 repeat (first|rfl|split)
theorem aO.ref {V:Vm} (h:aO V) (call:Nat):aO (V.ref call):=λq hq=>by rw [Vm.agQ];exact h q hq
theorem aO.gX {V:Vm} (h:aO V) (a n:Int) (call:Nat) (pr:Pg->Bool) {f:Pg->Pg} (hf:∀g:Pg,(0<=g.kind/\g.kind<=3)->0<=(f g).kind/\(f g).kind<=3):aO (gX V a n call pr f).2:=by
 unfold Go.Pol.gX;split
 ·exact h
 ·split
  ·exact h
  ·split
   ·exact h.ref call
   ·exact (h.ref call).dD _ _ hf
theorem aO.bK {V:Vm} (h:aO V) (a n:Int) (call:Nat) (fr:Int) {tk:Int} (hk:0<=tk/\tk<=3):aO (bK V a n call fr tk).2:=h.gX _ _ _ _ (λ_ _=>hk)
structure vD (cs:Array Value) (v:Value) (V:Vm):Prop where
 size:cs.size=66639
 kind:∀p,p<1024->cs[p]? = some (zI (V.pg p).kind)
 bP:∀p,p<1024->cs[1024+p / 16]? = some (.bool (V.pg p).bP)
 fe:∀p,p<1024->∀k,k<64->cs[1088+p*64+k]? = some (.int .u8 ((V.pg p).fe k))
 rf:∀i,i<15->cs[66624+i]? = (aH v V.rf.calls V.rf.hits)[i]?
structure bn (w:World) (B b:Nat) (V:Vm):Prop where
 ex:∃(cs:Array Value) (A:Option Addr) (n cap:Nat),af w b 123 cs/\vD cs (.slice A n cap) V/\(V.rf.rules.length=n/\(A=none->cap=0))/\Rd w B A (fl iU V.rf.rules)/\B<=b/\uf V.rf
theorem bn.lt {w:World} {B b:Nat} {V:Vm} (h:bn w B b V):b<w.heap.size:=by
 obtain ⟨cs,A,n,cap,hk,_⟩:=h.ex;exact hk.lt
theorem bn.base {w:World} {B b:Nat} {V:Vm} (h:bn w B b V):B<=b:=by
 obtain ⟨cs,A,n,cap,_,_,_,_,h,_⟩:=h.ex;exact h
theorem Rd.vV {T:Nat->Prop} {w w':World} {B:Nat} {A:Option Addr} {xs:List Value} (h:Rd w B A xs) (hF:ag T w w') (hT:∀k,T k->B<=k):Rd w' B A xs:=λk hk=>by
 obtain ⟨b,o,e,hb,hc⟩:=h k hk;exact ⟨b,o,e,hb,hF.cell hc (λht=>by have:=hT _ ht;simp only at this;omega)⟩
theorem bn.far {w w':World} {B b:Nat} {V:Vm} {T:Nat->Prop} (h:bn w B b V) (hF:ag T w w') (hT:∀k,T k->B<=k/\k≠b):bn w' B b V:=by
 obtain ⟨cs,A,n,cap,h1,h2,h3,h4,h5,h6⟩:=h.ex;exact ⟨cs,A,n,cap,hF.blk h1 (λht=>(hT _ ht).2 rfl),h2,h3,h4.vV hF (λk hk=>(hT k hk).1),h5,h6⟩
theorem bn.call {w w':World} {B b:Nat} {V:Vm} (h:bn w B b V) (hb:Below w.heap.size w w'):bn w' B b V :=
 h.far (T:=λ_=>False) (ag.of_below hb) (λ_ h=>h.elim)
instance {w w':World} {B b:Nat} {V:Vm}:ZC w w' (bn w B b V) (bn w' B b V):=⟨λh k=>k.call h⟩
theorem vD.put {cs:Array Value} {v:Value} {V:Vm} (h:vD cs v V) {p:Nat} (hp:p<1024) (hh:(V.pg p).bP=false) (tk:Int) :
  vD (eX (cs.setIfInBounds p (zI tk)) (1088+p*64) (List.replicate 64 (.int .u8 0))) v (V.gq p (gW tk)):=by
 have hs:=h.size;have hl:(List.replicate 64 (Value.int .u8 0)).length=64:=by simp
 have hg:=jG (List.replicate 64 (Value.int .u8 0)) (cs.setIfInBounds p (zI tk)) (1088+p*64) (by rw [hl,Array.size_setIfInBounds];omega);have hg2:∀i,(cs.setIfInBounds p (zI tk))[i]? = if p=i then some (zI tk) else cs[i]? := λi=>by
  rw [Array.getElem?_setIfInBounds];by_cases e:p=i
  ·subst e;rw [if_pos rfl,if_pos rfl,if_pos zo]
  ·rw [if_neg e,if_neg e]
 have rF:∀q,(V.gq p (gW tk)).pg q=if q=p then gW tk else V.pg q:=λq=>rfl
 refine ⟨by rw [jq,Array.size_setIfInBounds];exact hs,λq hq=>?_,λq hq=>?_,λq hq k hk=>?_,λi hi=>?_⟩
 ·rw [hg,if_neg zo,hg2,rF]
  by_cases e:q=p
  ·subst e;rw [if_pos rfl,if_pos rfl];rfl
  ·rw [if_neg (λh=>e h.symm),if_neg e];exact h.kind q hq
 ·rw [hg,if_neg zo,hg2,if_neg zo,h.bP q hq,rF]
  by_cases e:q=p
  ·subst e;rw [if_pos rfl,hh];rfl
  ·rw [if_neg e]
 ·rw [hg,hl,rF]
  by_cases e:q=p
  ·subst e
   rw [if_pos zo,if_pos rfl,List.getElem?_replicate,if_pos zo];rfl
  ·rw [if_neg zo,hg2,if_neg zo,if_neg e];exact h.fe q hq k hk
 ·rw [hg,if_neg (by rw [hl];omega),hg2,if_neg zo];exact h.rf i hi
theorem vD.YW {cs:Array Value} {v:Value} {V:Vm} (h:vD cs v V) {g:Nat} (hg:g<64) (x:Bool) :
  vD (cs.setIfInBounds (1024+g) (.bool x)) v (V.dD (g*16) 16 (λp=>p.dQ x)):=by
 have hs:=h.size;have hg2:∀i,(cs.setIfInBounds (1024+g) (.bool x))[i]? = if 1024+g=i then some (.bool x) else cs[i]? := λi=>by
  rw [Array.getElem?_setIfInBounds];by_cases e:1024+g=i
  ·subst e;rw [if_pos rfl,if_pos rfl,if_pos zo]
  ·rw [if_neg e,if_neg e]
 have rF:∀q,(V.dD (g*16) 16 (λp=>p.dQ x)).pg q=if g*16<=q/\q<g*16+16 then (V.pg q).dQ x else V.pg q:=λq=>rfl
 refine ⟨by rw [Array.size_setIfInBounds];exact hs,λq hq=>?_,λq hq=>?_,λq hq k hk=>?_,λi hi=>?_⟩
 ·rw [hg2,if_neg zo,h.kind q hq,rF]
  split <;> rfl
 ·rw [hg2,rF]
  by_cases e:g*16<=q/\q<g*16+16
  ·rw [if_pos zo,if_pos e];rfl
  ·rw [if_neg zo,if_neg e];exact h.bP q hq
 ·rw [hg2,if_neg zo,h.fe q hq k hk,rF]
  split <;> rfl
 ·rw [hg2,if_neg zo];exact h.rf i hi
theorem vD.JA {cs:Array Value} {v:Value} {V:Vm} (h:vD cs v V) {p k:Nat} (hp:p<1024) (hk:k<64) (x:Int) :
  vD (cs.setIfInBounds (1088+p*64+k) (.int .u8 x)) v (V.gq p ((V.pg p).mP k x)):=by
 have hs:=h.size;have hg2:∀i,(cs.setIfInBounds (1088+p*64+k) (.int .u8 x))[i]? = if 1088+p*64+k=i then some (.int .u8 x) else cs[i]? := λi=>by
  rw [Array.getElem?_setIfInBounds];by_cases e:1088+p*64+k=i
  ·rw [if_pos e,if_pos e,if_pos zo]
  ·rw [if_neg e,if_neg e]
 have rF:∀q,(V.gq p ((V.pg p).mP k x)).pg q=if q=p then (V.pg p).mP k x else V.pg q:=λq=>rfl
 refine ⟨by rw [Array.size_setIfInBounds];exact hs,λq hq=>?_,λq hq=>?_,λq hq j hj=>?_,λi hi=>?_⟩
 ·rw [hg2,if_neg zo,h.kind q hq,rF]
  by_cases e:q=p
  ·subst e;rw [if_pos rfl];rfl
  ·rw [if_neg e]
 ·rw [hg2,if_neg zo,h.bP q hq,rF]
  by_cases e:q=p
  ·subst e;rw [if_pos rfl];rfl
  ·rw [if_neg e]
 ·rw [hg2,rF]
  by_cases e:q=p
  ·subst e
   rw [if_pos rfl];by_cases e2:j=k
   ·subst e2;rw [if_pos rfl];simp [Pg.mP]
   ·rw [if_neg zo,h.fe q hq j hj];simp [Pg.mP,e2]
  ·rw [if_neg zo,if_neg e];exact h.fe q hq j hj
 ·rw [hg2,if_neg zo];exact h.rf i hi
theorem vD.CR {cs:Array Value} {v:Value} {V:Vm} (h:vD cs v V) (u:Value) (S:Rf):vD (eX cs 66624 (aH u S.calls S.hits)) u { V with rf:=S }:=by
 have hs:=h.size;have hl:(aH u S.calls S.hits).length=15:=rfl;have hg:=jG (aH u S.calls S.hits) cs 66624 (by rw [hl];omega);refine ⟨by rw [jq];exact hs,λq hq=>?_,λq hq=>?_,λq hq k hk=>?_,λi hi=>?_⟩
 ·rw [hg,if_neg zo];exact h.kind q hq
 ·rw [hg,if_neg zo];exact h.bP q hq
 ·rw [hg,if_neg zo];exact h.fe q hq k hk
 ·rw [hg,if_pos zo,show 66624+i - 66624=i by omega]
theorem bn.put {w:World} {B b:Nat} {V:Vm} (h:bn w B b V) {p:Nat} (hp:p<1024) (hh:(V.pg p).bP=false) (tk:Int) :
  bn ((w.setCell ⟨b,p,none⟩ (zI tk)).setCells b (1088+p*64) (List.replicate 64 (.int .u8 0))) B b (V.gq p (gW tk))/\ag (λk=>k=b) w ((w.setCell ⟨b,p,none⟩ (zI tk)).setCells b (1088+p*64) (List.replicate 64 (.int .u8 0))):=by
 obtain ⟨cs,A,n,cap,h1,h2,h3,h4,h5,h6⟩:=h.ex;have hF1:ag (λk=>k=b) w (w.setCell ⟨b,p,none⟩ (zI tk)):=ag.setCell (T:=λk=>k=b) (p:=⟨b,p,none⟩) (ag.refl _ _) (λ_=>rfl) _;have hF:=ag.puts (T:=λk=>k=b) rfl (List.replicate 64 (Value.int .u8 0)) (1088+p*64) w _ hF1;exact ⟨⟨_,A,n,cap,af.puts (w:=w) (cs:=#[]) (List.replicate 64 (Value.int .u8 0)) (1088+p*64) _ _ (h1.aM _ _),h2.put hp hh tk,h3,h4.vV hF (λk e=>by omega),h5,h6⟩,hF⟩
theorem bn.YW {w:World} {B b:Nat} {V:Vm} (h:bn w B b V) {g:Nat} (hg:g<64) (x:Bool) :
  bn (w.setCell ⟨b,1024+g,none⟩ (.bool x)) B b (V.dD (g*16) 16 (λp=>p.dQ x))/\ag (λk=>k=b) w (w.setCell ⟨b,1024+g,none⟩ (.bool x)):=by
 obtain ⟨cs,A,n,cap,h1,h2,h3,h4,h5,h6⟩:=h.ex;have hF:ag (λk=>k=b) w (w.setCell ⟨b,1024+g,none⟩ (.bool x)):=ag.setCell (T:=λk=>k=b) (p:=⟨b,1024+g,none⟩) (ag.refl _ _) (λ_=>rfl) _;exact ⟨⟨_,A,n,cap,h1.aM _ _,h2.YW hg x,h3,h4.vV hF (λk e=>by omega),h5,h6⟩,hF⟩
theorem bn.JA {w:World} {B b:Nat} {V:Vm} (h:bn w B b V) {p k:Nat} (hp:p<1024) (hk:k<64) (x:Int) :
  bn (w.setCell ⟨b,1088+p*64+k,none⟩ (.int .u8 x)) B b (V.gq p ((V.pg p).mP k x))/\ag (λk=>k=b) w (w.setCell ⟨b,1088+p*64+k,none⟩ (.int .u8 x)):=by
 obtain ⟨cs,A,n,cap,h1,h2,h3,h4,h5,h6⟩:=h.ex;have hF:ag (λk=>k=b) w (w.setCell ⟨b,1088+p*64+k,none⟩ (.int .u8 x)):=ag.setCell (T:=λk=>k=b) (p:=⟨b,1088+p*64+k,none⟩) (ag.refl _ _) (λ_=>rfl) _;exact ⟨⟨_,A,n,cap,h1.aM _ _,h2.JA hp hk x,h3,h4.vV hF (λk e=>by omega),h5,h6⟩,hF⟩
theorem bn.CR {w w':World} {B b:Nat} {V:Vm} (h:bn w B b V) (S:Rf) (A:Option Addr) (n cap:Nat) (hB:Below w.heap.size w w') (hn:S.rules.length=n) (hz:A=none->cap=0) (hr:Rd w' B A (fl iU S.rules)) (hS:uf S) :
  bn (w'.setCells b 66624 (aH (.slice A n cap) S.calls S.hits)) B b { V with rf:=S }/\ag (λk=>k=b) w (w'.setCells b 66624 (aH (.slice A n cap) S.calls S.hits)):=by
 have hlt:=h.lt;obtain ⟨cs,A0,n0,cap0,h1,h2,_,_,h5,_⟩:=h.ex;have k1:=h1.call hB;have hF:=ag.puts (T:=λk=>k=b) rfl (aH (.slice A n cap) S.calls S.hits) 66624 w' w' (ag.refl _ _);exact ⟨⟨_,A,n,cap,af.puts (w:=w) (cs:=#[]) (aH (.slice A n cap) S.calls S.hits) 66624 w' cs k1,h2.CR _ S,⟨hn,hz⟩,hr.vV hF (λk e=>by omega),h5,hS⟩,(ag.of_below hB).trans hF⟩
def RS (z:Value->Bool):Nat->List Value->Option (List Value)
 | 0,v::r=>if z v=true then some r else none
 | 0,[]=>none
 | d+1,l=>match RS z d l with
  | some r=>RS z d r
  | none=>none
theorem wO (z:Value->Bool):∀(d:Nat) (l r:List Value),RS z d l=some r->∃pre,l=pre++r/\pre.length=2 ^ d/\∀v∈pre,z v=true
 | 0,[],r,h=>by cases h
 | 0,v::l,r,h=>by
  rw [RS] at h;by_cases hz:z v=true
  ·rw [if_pos hz] at h
   cases h;exact ⟨[v],rfl,rfl,by simpa using hz⟩
  ·rw [if_neg hz] at h;cases h
 | d+1,l,r,h=>by
  rw [RS] at h;split at h
  ·rename_i r' h'
   obtain ⟨p1,e1,l1,a1⟩:=wO z d l r' h';obtain ⟨p2,e2,l2,a2⟩:=wO z d r' r h;refine ⟨p1++p2,by rw [e1,e2,List.append_assoc],by rw [List.length_append,l1,l2,Nat.pow_succ];omega,λv hv=>?_⟩;rcases List.mem_append.1 hv with h|h
   ·exact a1 v h
   ·exact a2 v h
  ·cases h
def zQ:Value->Bool
 | .int .i64 k=>decide (k=0)
 | _=>false
def zB:Value->Bool
 | .bool b=>!b
 | _=>false
def zU:Value->Bool
 | .int .u8 k=>decide (k=0)
 | _=>false
theorem alZ {v:Value} (h:zQ v=true):v = zI 0:=by
 unfold zQ at h;split at h
 ·rw [decide_eq_true_eq] at h;rw [h]
 ·cases h
theorem al0 {v:Value} (h:zB v=true):v= .bool false:=by
 unfold zB at h;split at h
 ·rename_i b;cases b with
  | false=>rfl
  | true=>cases h
 ·cases h
theorem al1 {v:Value} (h:zU v=true):v= .int .u8 0:=by
 unfold zU at h;split at h
 ·rw [decide_eq_true_eq] at h;rw [h]
 ·cases h
def stR (l:List Value):Option (List Value) :=
 match RS zQ 10 l with
 | some r=>match RS zB 6 r with
  | some r=>RS zU 16 r
  | none=>none
 | none=>none
theorem agR {zc:Array Value} (h:stR zc.toList=some (aH zN (λ_=>0) (λ_=>0))) (v:Value):vD (eX zc 66624 (aH v (λ_=>0) (λ_=>0))) v iM:=by
 unfold stR at h;split at h
 ·rename_i r1 h1
  split at h
  ·rename_i r2 h2
   obtain ⟨p1,e1,l1,a1⟩:=wO zQ 10 _ _ h1;obtain ⟨p2,e2,l2,a2⟩:=wO zB 6 _ _ h2;obtain ⟨p3,e3,l3,a3⟩:=wO zU 16 _ _ h;have hz:zc.toList=p1++(p2++(p3++aH zN (λ_=>0) (λ_=>0))):=by rw [e1,e2,e3]
   simp only [Nat.reducePow] at l1 l2 l3;have hlen:zc.size=66639:=by
    rw [<-Array.length_toList,hz,List.length_append,List.length_append,List.length_append,l1,l2,l3];rfl
   have hgl:∀i,zc[i]? = (p1++(p2++(p3++aH zN (λ_=>0) (λ_=>0))))[i]? := λi=>by rw [<-Array.getElem?_toList,hz]
   generalize hL:aH v (λ_=>0) (λ_=>0)=L at *;have hLl:L.length=15:=by rw [<-hL];rfl
   have hg:=jG L zc 66624 (by rw [hLl];omega);refine ⟨by rw [jq];exact hlen,λp hp=>?_,λp hp=>?_,λp hp k hk=>?_,λi hi=>?_⟩
   ·rw [hg,if_neg zo,hgl,List.getElem?_append_left zo]
    have hl:p<p1.length:=zo;rw [List.getElem?_eq_getElem hl,alZ (a1 _ (List.getElem_mem hl))];rfl
   ·rw [hg,if_neg zo,hgl,List.getElem?_append_right zo,List.getElem?_append_left zo]
    have hl:1024+p / 16 - p1.length<p2.length:=zo;rw [List.getElem?_eq_getElem hl,al0 (a2 _ (List.getElem_mem hl))];rfl
   ·rw [hg,if_neg zo,hgl,List.getElem?_append_right zo,List.getElem?_append_right zo,List.getElem?_append_left zo]
    have hl:1088+p*64+k - p1.length - p2.length<p3.length:=zo;rw [List.getElem?_eq_getElem hl,al1 (a3 _ (List.getElem_mem hl))];rfl
   ·rw [hg,if_pos zo,show 66624+i - 66624=i by omega,<-hL];rfl
  ·cases h
 ·cases h
abbrev Rn:=Int×Int×Int
def DW:Rn:=(0,0,0)
def rG (x:Rn):List Value:=[zI x.1,zI x.2.1,zI x.2.2]
theorem uh (x:Rn):(rG x).length=3:=rfl
abbrev V9 (x:Rn):Value:=.agg #[zI x.1,zI x.2.1,zI x.2.2]
abbrev rnA (x:Rn):Array Value:=#[V9 x]
theorem ada (us:List Rn):∀u∈fl rG us,u.oneCell'=true:=by
 intro u hu;simp only [fl,List.mem_flatMap,rG,List.mem_cons,List.not_mem_nil,or_false] at hu;obtain ⟨x,_,rfl|rfl|rfl⟩:=hu <;> rfl
def vW (l:List Rn):List Rn:=match l.reverse with
 | []=>[]
 | x::r=>r.reverse++[(x.1,x.2.1+1,x.2.2)]
theorem oz (l:List Rn) (x:Rn):vW (l++[x])=l++[(x.1,x.2.1+1,x.2.2)]:=by simp [vW]
theorem We (l:List Rn):(vW l).length=l.length:=by
 unfold vW;split
 ·rename_i h;rw [List.reverse_eq_nil_iff] at h;rw [h]
 ·rename_i x r h
  have:l=r.reverse++[x]:=by rw [<-List.reverse_reverse l,h,List.reverse_cons]
  rw [this];simp
theorem Wh (a t:List Rn) (ht:t≠[]):vW (a++t)=a++vW t/\vW t≠[]:=by
 obtain ⟨l,x,rfl⟩:∃l x,t=l++[x]:=⟨t.dropLast,t.getLast ht,(List.dropLast_concat_getLast ht).symm⟩;rw [<-List.append_assoc,oz,oz,List.append_assoc];exact ⟨rfl,zs⟩
def aF (V:Vm):Nat->List Rn
 | 0=>[]
 | k+1=>if (V.pg k).kind=0 then aF V k else if 0<k/\(V.pg (k - 1)).kind=(V.pg k).kind then vW (aF V k) else aF V k++[((k:Int),1,(V.pg k).kind)]
theorem jc (V:Vm) (k:Nat):aF V (k+1)=if (V.pg k).kind=0 then aF V k else if 0<k/\(V.pg (k - 1)).kind=(V.pg k).kind then vW (aF V k) else aF V k++[((k:Int),1,(V.pg k).kind)]:=rfl
theorem qU (V:Vm):∀k,(aF V k).length<=k
 | 0=>Nat.le_refl _
 | k+1=>by
  have:=qU V k;unfold aF;split
  ·omega
  ·split
   ·rw [We];omega
   ·rw [List.length_append,List.length_singleton];omega
def bdy (V:Vm) (p:Nat):Prop:=p=0\/(V.pg (p - 1)).kind≠(V.pg p).kind\/1024<=p
theorem zG {V:Vm} {p:Nat} {c:Int} (hb:p=0\/(V.pg (p - 1)).kind≠(V.pg p).kind) (hc:c≠0):∀m,(∀q,p<=q->q<p+(m+1)->(V.pg q).kind=c)->aF V (p+(m+1))=aF V p++[((p:Int),((m+1:Nat):Int),c)]
 | 0,h=>by
  have h0:=h p zo zo;rw [Nat.zero_add,jc,if_neg (by rw [h0];exact hc),if_neg (by
   rintro ⟨h1,h2⟩;rcases hb with h3|h3
   ·omega
   ·exact h3 h2),h0]
  rfl
 | m+1,h=>by
  have ih:=zG hb hc m (λq h1 h2=>h q h1 zo);have h0:=h (p+(m+1)) zo zo;have h1:=h (p+(m+1) - 1) zo zo;rw [show p+(m+1+1)=p+(m+1)+1 by omega,jc,if_neg (by rw [h0];exact hc),if_pos ⟨zo,by rw [h0,h1]⟩,ih,oz];have e:((m+1:Nat):Int)+1=((m+1+1:Nat):Int):=zo;rw [<-e]
theorem zH {V:Vm} {p:Nat}:∀m,(∀q,p<=q->q<p+m->(V.pg q).kind=0)->aF V (p+m)=aF V p
 | 0,_=>rfl
 | m+1,h=>by
  rw [<-Nat.add_assoc,jc,if_pos (h (p+m) zo zo)];exact zH m (λq h1 h2=>h q h1 zo)
theorem CU {V:Vm} {q:Nat} (hb:q=0\/(V.pg (q - 1)).kind≠(V.pg q).kind):∀m,∃t,aF V (q+m)=aF V q++t/\(0<m->(V.pg (q+m - 1)).kind≠0->t≠[])
 | 0=>⟨[],zs,λh=>absurd h zo⟩
 | m+1=>by
  obtain ⟨t,h1,h2⟩:=CU hb m;have e:q+(m+1) - 1=q+m:=zo;rw [e];rw [<-Nat.add_assoc,jc];by_cases hk:(V.pg (q+m)).kind=0
  ·rw [if_pos hk]
   exact ⟨t,h1,λ_ h=>absurd hk h⟩
  ·rw [if_neg hk]
   by_cases hs:0<q+m/\(V.pg (q+m - 1)).kind=(V.pg (q+m)).kind
   ·rw [if_pos hs]
    have hm:0<m:=by
     rcases Nat.eq_zero_or_pos m with h|h
     ·subst h
      rcases hb with h3|h3
      ·omega
      ·exact absurd hs.2 h3
     ·exact h
    have ht:=h2 hm (by rw [hs.2];exact hk);obtain ⟨b1,b2⟩:=Wh (aF V q) t ht;exact ⟨vW t,by rw [h1,b1],λ_ _=>b2⟩
   ·rw [if_neg hs]
    exact ⟨t++[(((q+m:Nat):Int),1,(V.pg (q+m)).kind)],by rw [h1,List.append_assoc],λ_ _=>by simp⟩
theorem BL {V:Vm} {q:Nat} (hb:bdy V q) (hq:q<=1024):aF V q <+: aF V 1024:=by
 by_cases h:q=1024
 ·rw [h];exact List.prefix_refl _
 ·obtain ⟨t,ht,_⟩:=CU (V:=V) (q:=q) (hb.elim .inl (λh=>h.elim .inr (λh=>by omega))) (1024 - q)
  rw [show q+(1024 - q)=1024 by omega] at ht;exact ⟨t,ht.symm⟩
def dC (V:Vm):Nat->List Int
 | 0=>[]
 | k+1=>if k % 16=0/\(V.pg k).bP=true then dC V k++[(k:Int)] else dC V k
theorem wP (V:Vm):∀k,(dC V k).length<=k
 | 0=>Nat.le_refl _
 | k+1=>by
  have:=wP V k;unfold dC;split
  ·rw [List.length_append,List.length_singleton];omega
  ·omega
def zJ (g:Pg):Bool:=(List.range 64).any λk=>g.fe k != 0
def dS (V:Vm):Nat->List Nat
 | 0=>[]
 | k+1=>if zJ (V.pg k)=true then dS V k++[k] else dS V k
theorem wQ (V:Vm):∀k,(dS V k).length<=k
 | 0=>Nat.le_refl _
 | k+1=>by
  have:=wQ V k;unfold dS;split
  ·rw [List.length_append,List.length_singleton];omega
  ·omega
def wR (g:Pg):List Value:=(List.range 64).map λk=>.int .u8 (g.fe k)
theorem NM (g:Pg):(wR g).length=64:=by simp [wR]
def rJ (V:Vm) (p:Nat):List Value:=zI p::wR (V.pg p)
theorem zL (V:Vm) (p:Nat):(rJ V p).length=65:=by simp [rJ,NM]
theorem aal (g:Pg):∀x∈wR g,x.oneCell'=true:=by
 intro x hx;simp only [wR,List.mem_map] at hx;obtain ⟨k,_,rfl⟩:=hx;rfl
theorem JB (V:Vm) (us:List Nat):∀u∈fl (rJ V) us,u.oneCell'=true:=by
 intro u hu;simp only [fl,List.mem_flatMap,rJ,List.mem_cons] at hu;obtain ⟨x,_,rfl|h⟩:=hu
 ·rfl
 ·exact aal _ u h
theorem Wi {g:Pg}:zJ g=false↔∀k,k<64->g.fe k=0:=by
 unfold zJ;rw [Bool.eq_false_iff,Ne,List.any_eq_true];constructor
 ·intro h k hk
  by_cases hz:g.fe k=0
  ·exact hz
  ·exact absurd ⟨k,List.mem_range.2 hk,by simpa using hz⟩ h
 ·rintro h ⟨k,hk,hz⟩
  rw [h k (List.mem_range.1 hk)] at hz;simp at hz
theorem aan (bs:List Rn) (x:Rn):fl rG (bs++[x])=fl rG bs++[zI x.1,zI x.2.1,zI x.2.2]:=by rw [kC];simp [fl,rG]
theorem adg {w:World} {g:Nat} {t:TypeId} {a b c:Int} (h:af w g t #[zI a,zI b,zI c]):∀(j:Nat) (u:Value),[zI a,zI b,zI c][j]? = some u->w.cell? ((⟨g,0,none⟩:Addr).add j)=some u:=by
 intro j u hu;rw [dM,Nat.zero_add];rw [h.cell];simpa using hu
theorem Wl {a b c:Int}:∀u∈[zI a,zI b,zI c],u.oneCell'=true:=by
 intro u hu;simp only [List.mem_cons,List.not_mem_nil,or_false] at hu;rcases hu with rfl|rfl|rfl <;> rfl
theorem adh {P:Program} {g:Operand} {ps:Array Tmp} {assign body:Code} {Q:Exit->Act->World->Prop} {a:Act} {w:World} (ib pb:Nat) (tE:TypeId)
  {gf:Nat} {lb:Array Value} (hg:a.eval g= .func (.func gf) #[] lb) (eg:∀args w,(callFunc gf args).run P w= .ok (.enter gf args) w)
  {T K:Nat->Prop} {xs:List Rn} (hseq:yS P gf lb rnA T K xs w) (hps:ps=#[pb])
  (hT:∀k,T k->k<w.heap.size) (hK:∀k,K k->k<w.heap.size)
  (I:(Nat->Prop)->List Rn->World->Prop) (Ix:Code->(Nat->Prop)->List Rn->World->Prop)
  (hI:∀X pre A B,I X pre A->ag (λk=>T k\/X k\/k=w.heap.size\/k=w.heap.size+1) A B->I X pre B)
  (hIx:∀c X pre A B,Ix c X pre A->ag (λk=>T k\/X k\/k=w.heap.size\/k=w.heap.size+1) A B->Ix c X pre B)
  (hnew:∀X X' pre A,I X pre A->(∀k,X' k->X k\/A.heap.size<=k)->I X' pre A)
  (h0:I (λ_=>False) [] w)
  (hassign:∀(m l:Nat) (x:Rn) (W:World) (C:Act->World->Prop),
   C { tmps:=(a.tmps.setIfInBounds pb (V9 x)).setIfInBounds ib (zP W.heap.size),defers:=[] } (W.alloc (.cells #[zI x.1,zI x.2.1,zI x.2.2] tE)) ->
   assign.wpIn (Fence.wide.inRound l) m P (Exit.then C (λ_ _ _=>False)) { tmps:=a.tmps.setIfInBounds pb (V9 x),defers:=[] } W)
  (hbody:∀(m l:Nat) (X:Nat->Prop) (pre:List Rn) (x:Rn) (Bx:Nat) (Wa W:World),w.heap.size+2<=W.heap.size->(∀k,X k->k<Wa.heap.size/\k≠w.heap.size/\k≠w.heap.size+1)->I X pre W->pre++[x] <+: xs->w.heap.size+2<=Bx->af W Bx tE #[zI x.1,zI x.2.1,zI x.2.2]->Wa.heap.size<=Bx ->
   body.wpIn (Fence.wide.inRound l) m P (UI w.heap.size K X I Ix (pre++[x]) W) { tmps:=(a.tmps.setIfInBounds pb (V9 x)).setIfInBounds ib (zP Bx),defers:=[] } W)
  (hdone:∀(X:Nat->Prop) (W:World),w.heap.size+2<=W.heap.size->I X xs W->W.heap[w.heap.size]? = some (.deferred (some []))->Q .normal { a with defers:=dB w.heap.size::a.defers } W)
  (hstop:∀(c:Code) (X:Nat->Prop) (pre:List Rn) (W:World),w.heap.size+2<=W.heap.size->pre <+: xs->Ix c X pre W->W.heap[w.heap.size]? = some (.deferred (some []))->c.wp P Q { a with defers:=dB w.heap.size::a.defers } W) :
  (Code.rangeFunc g ps assign body).wp P Q a w:=by
 subst hps;refine YE hg eg hseq (λ_=>rfl) hT hK I Ix hI hIx hnew h0
  (λN x a' W=>∃Bx,N<=Bx/\w.heap.size+2<=Bx/\af W Bx tE #[zI x.1,zI x.2.1,zI x.2.2]/\a'={ tmps:=(a.tmps.setIfInBounds pb (V9 x)).setIfInBounds ib (zP Bx),defers:=[] })
  (λN x a' A B ⟨Bx,h0,h1,h2,h3⟩ hf=>⟨Bx,h0,h1,hf.blk h2 zo,h3⟩) ?_ ?_ hdone hstop
 ·intro m l x W C hs hC
  have e:(#[pb].zip (rnA x)).foldl (λt (p,v)=>t.setIfInBounds p v) a.tmps=a.tmps.setIfInBounds pb (V9 x):=by simp [rnA]
  rw [e];exact hassign m l x W C (hC _ _ ((ag.refl _ W).alloc _) ⟨W.heap.size,Nat.le_refl _,hs,af.new _ _ _,rfl⟩)
 ·exact abB
def gG (v1 v2 v3 v4:Value) (cs hs:Nat->Int):List Value:=v1::v2::v3::aH v4 cs hs
theorem JE {v1 v2 v3 v4:Value} (h1:v1.oneCell'=true) (h2:v2.oneCell'=true) (h3:v3.oneCell'=true) (h4:v4.oneCell'=true) (cs hs:Nat->Int):∀x∈gG v1 v2 v3 v4 cs hs,x.oneCell'=true:=by
 intro x hx;simp only [gG,List.mem_cons] at hx;rcases hx with rfl|rfl|rfl|hx
 ·exact h1
 ·exact h2
 ·exact h3
 ·exact j3 h4 cs hs x hx
end Go.Pol
namespace Go.Proofs.YtlgcpjhimomiaaaGreat
open Go Go.Proofs Go.RowKit Go.Pol Go.Shelf Tryz
attribute [local go_sem] Oper.semAt_some aC au aB ai
theorem Jw:∀args w,(callFunc 124 args).run prog w= .ok (.enter 124 args) w:=enters_of func124 zk rfl
theorem Jy:∀args w,(callFunc 125 args).run prog w= .ok (.enter 125 args) w:=enters_of func125 zk rfl
theorem RN (b p:Nat) (V:Vm) (W:World) (hV:aA W b V) (hp:p<1024):Calls prog 124 #[.pointer (some ⟨b,1+p*66,none⟩)] W λe W'=>e= .returned (.bool (V.pg p).bP)/\Below W.heap.size W W':=by
 obtain ⟨cs,A,n,cap,hk,hc,_⟩:=hV.ex;have c0:=(hk.cell (1+p*66+1)).trans (hc.Bo hp);generalize (V.pg p).bP=kd at *;clear hk hc hV;go_enter func124,ntmps124;exact VS
theorem RO (b p:Nat) (V:Vm) (W:World) (hV:aA W b V) (hp:p<1024):Calls prog 125 #[.pointer (some ⟨b,1+p*66,none⟩)] W λe W'=>e= .returned (.tuple #[])/\aA W' b (V.gq p ((V.pg p).dQ false))/\ag (λk=>k=b) W W':=by
 have hset:=ae (hV.zD hp false);obtain ⟨cs,A,n,cap,hk,hc,_⟩:=hV.ex;have c0:=(hk.cell (1+p*66+1)).trans (hc.Bo hp);have f0:=hk.frozen;clear hk hc hV;go_enter func125,ntmps125;exact VU
theorem ac4 {P:Prop} (h:P:=by
 replace cZ:=cZ.symm;subst cZ;go_wp2_with fail;go_ret;exact ⟨rfl,hV'.out,ag.refl _ _⟩):P:=h
theorem RP (b:Nat) (p:Int) (V:Vm) (w:World) (hV:aA w b V) :
  Calls prog 43 #[zP b,zI p] w λe w'=>e= .returned (zI (jU V p).1)/\dw b (jU V p).2 w w':=by
 have HI:=ae (vC b V w hV);have HF:=ae (ou p w);have HM:=ae (EW b 6 p 16 (λg=>g.bP) (λg=>g.dQ false) _ _ #[] #[] V w hV zo Jw Jy (λq hq V' W hW _=>RN b q V' W hW hq) (λq hq V' W hW _=>RO b q V' W hW hq));have hV':=ae hV;obtain ⟨R,hR⟩:=ah (jU V p);rw [hR];unfold jU at hR;obtain ⟨re,rV⟩:=R;simp only;cases hf:jJ p with
 | false =>
  rw [hf] at HF;rw [if_pos hf] at hR;simp only [Prod.mk.injEq] at hR;obtain ⟨rfl,rfl⟩:=hR;clear hf HM;go_enter func43,ntmps43;go_wp2_with fail;refine HI.out.zr λw9 cZ=>?_
  replace cZ:=cZ.symm;subst cZ;go_wp2_with fail;refine HF.out.zr λw9 cZ=>?_
  exact ac4
 | true =>
  rw [hf] at HF;rw [if_neg (by simp [hf])] at hR;have hR':=ae hR;generalize gX V p 16 6 (λg=>g.bP) (λg=>g.dQ false)=M at *;obtain rfl:=hR;unfold dw at HM;go_enter func43,ntmps43;go_wp2_with fail;refine HI.out.zr λw9 cZ=>?_
  replace cZ:=cZ.symm;subst cZ;go_wp2_with fail;refine HF.out.zr λw9 cZ=>?_
  replace cZ:=cZ.symm;subst cZ;exact ac2
theorem Pf:(prog.info? 77).map (·.size)=some 5:=zk
theorem ac5 {P:Prop} (h:P:=by
 go_wp2_with fail;go_roundw
 case rel=>exact ⟨i+1,zo,by go_num,B3,h03,h53,_,hcs',ES⟩
 case measure=>exact zm):P:=h
theorem ac6 {P:Prop} (h:P:=by
 rw [h5.cell];rcases (show d=0\/d=1\/d=2\/d=3 by omega) with rfl|rfl|rfl|rfl <;> rfl):P:=h
theorem Gn (b:Nat) (V:Vm) (w:World) (hV:aA w b V) (hk:aO V) :
  Calls prog 22 #[zP b] w λe w'=>(∃cs,vU cs 5/\e= .returned (.tuple #[.agg cs,zI 0]))/\Below w.heap.size w w':=by
 have hb0:=aQ w (.cells #[zI 0,zI 0,zI 0,zI 0,zI 0] 77);have k0:=af.new w 77 #[zI 0,zI 0,zI 0,zI 0,zI 0];have HI:=ae (λW h=>vC b V W h);have HF:=ae (λ(p:Int) W=>ou p W);have V0:=hV.call hb0;have hbs:=hV.lt;have hk':=ae hk;have hV':=ae hV;obtain ⟨s,hs⟩:=ah (w.heap.size);have hsz0:(w.alloc (.cells #[zI 0,zI 0,zI 0,zI 0,zI 0] 77)).heap.size=s+1:=by rw [World.size_alloc,hs]
 rw [hs] at k0 hbs;clear hk hV;go_enter func22,ntmps22;go_upto_region 1 with fail
 generalize w.alloc _=w0 at *;go_wp2_with fail;refine (HI.out _ V0).zr λw9 cZ=>?_
 replace cZ:=cZ.symm;subst cZ;go_upto_region 4 with fail
 have hb1:=hb0.alloc zo (.cells #[zI 0,zI 0,zI 0,zI 0,zI 0] 77);have EY:=k0.alloc (.cells #[zI 0,zI 0,zI 0,zI 0,zI 0] 77);have k4:=af.new w0 77 #[zI 0,zI 0,zI 0,zI 0,zI 0];have hsz1:(w0.alloc (.cells #[zI 0,zI 0,zI 0,zI 0,zI 0] 77)).heap.size=s+2:=by rw [World.size_alloc,hsz0]
 rw [hsz0] at k4;clear V0 hb0 k0;generalize w0.alloc _=w1 at *;have k5:=af.new w1 164 #[Value.pointer (some ⟨s+1,0,none⟩),Value.pointer (some ⟨s+1,1,none⟩),Value.pointer (some ⟨s+1,2,none⟩),Value.pointer (some ⟨s+1,3,none⟩)];rw [hsz1] at k5;have k24:=k4.alloc (.cells #[Value.pointer (some ⟨s+1,0,none⟩),Value.pointer (some ⟨s+1,1,none⟩),Value.pointer (some ⟨s+1,2,none⟩),Value.pointer (some ⟨s+1,3,none⟩)] 164);have k20:=EY.alloc (.cells #[Value.pointer (some ⟨s+1,0,none⟩),Value.pointer (some ⟨s+1,1,none⟩),Value.pointer (some ⟨s+1,2,none⟩),Value.pointer (some ⟨s+1,3,none⟩)] 164);have B2:=hb1.alloc zo (.cells #[Value.pointer (some ⟨s+1,0,none⟩),Value.pointer (some ⟨s+1,1,none⟩),Value.pointer (some ⟨s+1,2,none⟩),Value.pointer (some ⟨s+1,3,none⟩)] 164);go_wp2_with fail;generalize w1.alloc _=w2 at *;have hint:vU #[zI 0,zI 0,zI 0,zI 0,zI 0] 5:=⟨rfl,λj hj=>by
  rcases (show j=0\/j=1\/j=2\/j=3\/j=4 by omega) with rfl|rfl|rfl|rfl|rfl <;> exact ⟨0,rfl⟩⟩
 clear k4 EY hb1 hsz0 hsz1
 go_loopw [16] (λu wr=>∃i:Nat,i<=1024/\u = zI i/\Below w.heap.size w wr/\af wr s 77 #[zI 0,zI 0,zI 0,zI 0,zI 0]/\af wr (s+2) 164 ([Value.pointer (some ⟨s+1,0,none⟩),Value.pointer (some ⟨s+1,1,none⟩),Value.pointer (some ⟨s+1,2,none⟩),Value.pointer (some ⟨s+1,3,none⟩)]).toArray/\∃cs,vU cs 5/\af wr (s+1) 77 cs) (λu _=>1024 - (intOf u).toNat)
 case atStart=>exact ⟨0,zo,rfl,B2,k20,k5,_,hint,k24⟩
 case round =>
  clear k24 k20 B2 k5 hint;obtain ⟨i,hi,rfl,hB,h0,h5,cs,hcs,h4⟩:=hrel;by_cases hlt:i<1024
  ·have hil:(i:Int)<1024:=zo
   have hlt':decide ((i:Int)<1024)=true:=by simpa using hil
   obtain ⟨cv,A,n,cap,DV,hcv,_⟩:=(hV'.out.call hB).ex;obtain ⟨hk0,hk3⟩:=hk'.out i hlt;have e0:=(DV.cell (1+i*66)).trans (hcv.kind hlt);generalize (V.pg i).kind=kd at *;obtain ⟨d,rfl⟩:∃d:Nat,kd=(d:Int):=⟨kd.toNat,zo⟩;have hd4:(d:Int)<4:=zo;have e1:wr.cell? ⟨s+2,d,none⟩=some (.pointer (some ⟨s+1,d,none⟩)):=by
    exact ac6
   obtain ⟨z,hz⟩:=hcs.at_ d zo;have e2:=(h4.cell d).trans hz;have f2:=h4.frozen d;have ES:=h4.aM d (zI (wrap64 (z+1)));have hcs':=hcs.set d (wrap64 (z+1));have F4:=ag.setCell (T:=λk=>k=s+1) (p:=⟨s+1,d,none⟩) (ag.refl _ wr) (λ_=>rfl) (zI (wrap64 (z+1)));go_upto_region 9 with fail
   generalize wr.setCell ⟨s+1,d,none⟩ _=w3 at *;clear e0 e1 e2 f2 DV hcv hcs h4 hz;have B3:=hB.trans (F4.below (by have:=hB.size;omega) (λk hk e=>by omega));have h03:=F4.blk h0 (by show ¬s=s+1;omega);have h53:=F4.blk h5 (by show ¬s+2=s+1;omega);clear h0 h5 F4 hB;generalize cs.setIfInBounds d _=cs at *;obtain ⟨cv,A,n,cap,DV,hcv,_⟩:=(hV'.out.call B3).ex;have e0:=(DV.cell (1+i*66+1)).trans (hcv.Bo hlt);obtain ⟨z4,RQ⟩:=hcs'.at_ 4 zo;have e2:=(ES.cell 4).trans RQ;have f2:=ES.frozen 4;have ac7:=ES.aM 4 (zI (wrap64 (z4+1)));have VX:=hcs'.set 4 (wrap64 (z4+1));have F4:=ag.setCell (T:=λk=>k=s+1) (p:=⟨s+1,4,none⟩) (ag.refl _ w3) (λ_=>rfl) (zI (wrap64 (z4+1)));clear DV hcv;cases hh:(V.pg i).bP with
   | false =>
    rw [hh] at e0;clear hh;exact ac5
   | true =>
    rw [hh] at e0;clear hh;have Ph:=ae (HF.out (i:Int) w3);cases hf:jJ (i:Int) with
    | false =>
     rw [hf] at Ph;clear hf;go_wp2_with fail;refine Ph.out.zr λw9 cZ=>?_
     replace cZ:=cZ.symm;subst cZ;exact ac5
    | true =>
     rw [hf] at Ph;clear hf;go_wp2_with fail;refine Ph.out.zr λw9 cZ=>?_
     replace cZ:=cZ.symm;subst cZ;have B4:=B3.trans (F4.below (by have:=B3.size;omega) (λk hk e=>by omega));have h04:=F4.blk h03 (by show ¬s=s+1;omega);have h54:=F4.blk h53 (by show ¬s+2=s+1;omega);go_wp2_with fail;go_roundw
     case rel=>exact ⟨i+1,zo,by go_num,B4,h04,h54,_,VX,ac7⟩
     case measure=>exact zm
  ·obtain rfl:i=1024:=zo
   have hlt':decide (((1024:Nat):Int)<1024)=false:=by simp
   have hra:wr.rangeAt (s+1) 0 cs.toList:=λj v hj=>by
    rw [Nat.zero_add,h4.cell];simpa using hj
   have hsz:=hcs.size;have ht:wr.there s 0 cs.size:=by rw [hsz];exact dL h0 0 5 zs
   have oV:=af.puts (g:=s) (t:=77) (w:=wr) (cs:=#[]) cs.toList 0 wr _ h0;rw [eH (by rw [Array.length_toList,hsz];rfl),Array.toArray_toList] at oV;have hF9:=ag.puts (T:=λk=>k=s) rfl cs.toList 0 wr wr (ag.refl _ _);have hone:=Go.all_oneCell_toArray (hcs.one);rw [Array.toArray_toList] at hone;have lU:(prog.info? 77).map (·.size)=some cs.size:=by rw [hsz];exact Pf
   go_wp2_with (first
    | (refine wpList_load_mid rfl 77 (.tmp 4) rfl (s+1) 0 rfl cs.toList _ hra underlying77 rfl (by rw [Array.length_toList,hsz];kernel_rfl) ?_;rw [Array.toArray_toList])
    | (refine wpList_store_mid rfl 77 (.tmp 2) (.tmp 48) rfl s 0 cs rfl rfl ht lU hone ?_))
   generalize World.setCells wr s 0 _=w9 at *;have zF:w9.rangeAt s 0 cs.toList:=λj v hj=>by
    rw [Nat.zero_add,oV.cell];simpa using hj
   have Ht:=run_loadVar_mid (P:=prog) w9 s 0 77 cs.toList _ zF underlying77 rfl (by rw [Array.length_toList,hsz];kernel_rfl);rw [Array.toArray_toList] at Ht;refine bodyPost_ret (v:=.tuple #[.agg cs,zI 0]) ?_ rfl ?_
   ·exact gQ results22 rfl Ht
   exact ⟨⟨_,hcs,rfl⟩,hB.trans (hF9.below (by have:=hB.size;omega) (λk hk e=>by omega))⟩
def whP (b:Nat) (V:Vm) (a:Int):Option Addr:=if xP V a=0 then some ⟨b,1+(a / 64).toNat*66+2+(a % 64).toNat,none⟩ else none
theorem aiS {P:Prop} (h:P:=by
 subst hR;rw [if_neg zo];go_enter func116,ntmps116;go_wp2_with fail;refine HI.out.zr λw9 cZ=>?_
 replace cZ:=cZ.symm;subst cZ;go_wp2_with fail;go_ret2;exact ⟨rfl,rfl⟩):P:=h
theorem aiT {P:Prop} (h:P:=by
 go_enter func116,ntmps116;go_wp2_with fail;refine HI.out.zr λw9 cZ=>?_
 replace cZ:=cZ.symm;subst cZ;go_wp2_with fail;go_ret2;exact ⟨rfl,rfl⟩):P:=h
theorem VY (b:Nat) (a:Int) (V:Vm) (w:World) (hV:aA w b V) :
  Calls prog 116 #[zP b,zI a] w λe w'=>e= .returned (.tuple #[.pointer (whP b V a),zI (xP V a)])/\w'=w:=by
 have HI:=ae (vC b V w hV);unfold whP;obtain ⟨R,hR⟩:=ah (xP V a);rw [hR];unfold xP at hR;by_cases c1:a<0
 ·have d1:=bU c1
  rw [if_pos (.inl c1)] at hR;exact aiS
 have d1:=bV c1;by_cases c2:65536<=a
 ·have d2:=bU c2
  rw [if_pos (.inr c2)] at hR;exact aiS
 have d2:=bV c2;rw [if_neg zo] at hR;obtain ⟨q,k,rfl,hq,hk⟩:∃q k:Nat,a=((q*64+k:Nat):Int)/\q<1024/\k<64:=⟨(a / 64).toNat,(a % 64).toNat,zo,zo,zo⟩;have e1:(((q*64+k:Nat):Int) / 64).toNat=q:=zo;have e2:(((q*64+k:Nat):Int) % 64).toNat=k:=zo;rw [e1] at hR ⊢;rw [e2];clear e1 e2;have h0:(0:Int)<=((q*64+k:Nat):Int):=zo;have hdv:Int.tdiv ((q*64+k:Nat):Int) 64=(q:Int):=by rw [Int.tdiv_eq_ediv_of_nonneg h0];omega
 have hmd:Int.tmod ((q*64+k:Nat):Int) 64=(k:Int):=by rw [Int.tmod_eq_emod_of_nonneg h0];omega
 have hwq:wrap64 (q:Int)=(q:Int):=by unfold wrap64;omega
 have hql:(q:Int)<1024:=zo;have hkl:(k:Int)<64:=zo;generalize ((q*64+k:Nat):Int)=a at *;obtain ⟨cs,A,n,cap,hkb,hc,_⟩:=hV.ex;have c0:=(hkb.cell (1+q*66)).trans (hc.kind hq);by_cases hkd:(V.pg q).kind=2
 ·rw [if_neg (by simpa using hkd)] at hR
  subst hR;rw [if_pos rfl];rw [hkd] at c0;clear hkd hkb hc hV;exact aiT
 ·rw [if_pos hkd] at hR
  subst hR;rw [if_neg zo];generalize (V.pg q).kind=kd at *;have ac8:(kd != 2)=true:=by simpa using hkd
  clear hkb hc hV;exact aiT
theorem VZ (b:Nat) (a v:Int) (V:Vm) (w:World) (hV:aA w b V) :
  Calls prog 39 #[zP b,zI a,.int .u8 v] w λe w'=>e= .returned (zI (xP V a))/\dw b (kT V a v) w w':=by
 have HW:=ae (VY b a V w hV);have hV':=ae hV;unfold dw;obtain ⟨P,hP⟩:=ah (kT V a v);rw [hP];unfold kT at hP;unfold whP at HW;obtain ⟨R,hR⟩:=ah (xP V a);rw [hR] at hP HW ⊢;by_cases c0:R=0
 ·subst c0
  rw [if_pos rfl] at hP HW;have ha:¬(a<0\/65536<=a):=λhc=>by unfold xP at hR;rw [if_pos hc] at hR;omega
  have hq:(a / 64).toNat<1024:=zo;have hk:(a % 64).toNat<64:=zo;generalize (a / 64).toNat=q at *;generalize (a % 64).toNat=k at *;have hset:=hV.Jz hq hk v;rw [hP] at hset;have hset':=ae hset;obtain ⟨cs,A,n,cap,hkb,hc,_⟩:=hV.ex;have e1:=(hkb.cell (1+q*66+(k+2))).trans (hc.byte hq hk);rw [show 1+q*66+(k+2)=1+q*66+2+k by omega] at e1;have f1:=hkb.frozen;clear hkb hc hV hP hset hR ha;go_enter func39,ntmps39;go_wp2_with fail;refine HW.out.zr λw9 cZ=>?_
  replace cZ:=cZ.symm;subst cZ;go_wp2_with fail;go_ret;exact ⟨rfl,hset'.out.1,hset'.out.2⟩
 ·rw [if_neg c0] at hP HW
  subst hP;have d0:=lV c0;clear hR hV;go_enter func39,ntmps39;go_wp2_with fail;refine HW.out.zr λw9 cZ=>?_
  exact ac4
theorem ac9:stR zeroCells123.toList=some (aH zN (λ_=>0) (λ_=>0)):=by kernel_rfl
theorem ug:(prog.info? 100).map (·.size)=some 64:=zk
theorem Wj (b:Nat) (w:World) :
  Calls prog 163 #[zP b] w λe w'=>e= .returned (.func (.func 193) #[] #[zP w.heap.size])/\w'=w.alloc (.cells #[zP b] 42):=by
 go_enter func163,ntmps163
 go_wp2
 go_ret;exact ⟨zs,rfl⟩
theorem JC:∀args w,(callFunc 193 args).run prog w= .ok (.enter 193 args) w:=enters_of func193 zk rfl
theorem adb {P:Prop} (h:P:=by
 gi_wp2_with fail
 refine bodyPost_ret (results_none rfl _ _ _) rfl ?_;exact ⟨⟨_,rfl⟩,.inr ⟨_,_,hpre.out,BI⟩⟩):P:=h
theorem RV (b B1:Nat) (V:Vm) (cs:Array Value) (v:Value) (K:Nat->Prop) (w:World) (hKb:K b) (hK1:K B1)
  (k1:af w B1 42 #[zP b]) (kS:af w b 105 cs) (hc:iA cs v V) :
  yS prog 193 #[zP B1] rnA (λ_=>False) K (aF V 1024) w:=by
 intro m l J Jx W hW hJ hJx hnew hY h0;have kB1:=hW.blk k1 (by simpa using hK1);have CV:=hW.blk kS (by simpa using hKb);have hkd:=ae (λ(wr:World) (h:af wr b 105 cs) p (hp:p<1024)=>(h.cell (1+p*66)).trans (hc.kind hp));refine callsIn_of_wp func193 rfl trivial ?_ rfl;simp only [ntmps193,List.size_toArray,List.length_cons,List.length_nil,Nat.reduceAdd,Nat.reduceSub,Array.replicate_succ,Array.replicate_zero,List.push_toArray,List.append_toArray,List.nil_append,List.cons_append];clear hW k1 kS hc
 gi_wp2_with fail
 gi_loopw [3] (λu wr=>∃p:Nat,p<=1024/\u = zI p/\W.heap.size<=wr.heap.size/\J (λ_=>False) (aF V p) wr/\af wr B1 42 #[zP b]/\af wr b 105 cs/\Hid (bdy V p)) (λu _=>1024 - (intOf u).toNat)
 case atStart=>exact ⟨0,zo,rfl,Nat.le_refl _,h0,kB1,CV,ae (.inl rfl)⟩
 case round =>
  clear h0 kB1 CV;obtain ⟨p,hp,rfl,hwz,hJs,kB1,CV,hbd⟩:=hrel;by_cases hlt:p<1024
  ·have hlt':decide ((p:Int)<1024)=true:=by rw [decide_eq_true_eq];omega
   have hpl:(p:Int)<1024:=zo;have hcell:=hkd.out wr CV p hlt;have c1:=kB1.cell;obtain ⟨kd,ade⟩:=ah ((V.pg p).kind);rw [ade] at hcell;have kX:=af.new wr 110 #[zI p,zI 0,zI kd];have hfa:ag (λ_=>False) wr (wr.alloc (.cells #[zI p,zI 0,zI kd] 110)):=(ag.refl _ wr).alloc _;have hJ2:=hJ _ _ _ _ (hnew _ (λk=>k=wr.heap.size) _ wr hJs (λj hj=>.inr zo)) (hfa.mono λ_ _ h=>h.elim);have Jb:=kB1.alloc (.cells #[zI p,zI 0,zI kd] 110);have aiU:=CV.alloc (.cells #[zI p,zI 0,zI kd] 110);have Jc:W.heap.size<=(wr.alloc (.cells #[zI p,zI 0,zI kd] 110)).heap.size:=by simp;omega
   have hbx0:wr.heap.size<(wr.alloc (.cells #[zI p,zI 0,zI kd] 110)).heap.size:=by simp
   have hne1:B1≠wr.heap.size:=Nat.ne_of_lt kB1.lt;have aoZ:b≠wr.heap.size:=Nat.ne_of_lt CV.lt;have al3:=ae ade;clear ade
   gi_wp2_with fail
   generalize wr.alloc (.cells #[zI p,zI 0,zI kd] 110)=wa at *;generalize wr.heap.size=bx at *;clear hJs kB1 CV hfa hwz hcell c1 hlt'
   gi_loopw [3] (λu wr=>∃q:Nat,p<=q/\q<=1024/\u = zI q/\W.heap.size<=wr.heap.size/\bx<wr.heap.size/\J (λk=>k=bx) (aF V p) wr/\af wr B1 42 #[zP b]/\af wr b 105 cs/\af wr bx 110 #[zI p,zI ((q - p:Nat):Int),zI kd]/\Hid (∀r,p<=r->r<q->(V.pg r).kind=kd)) (λu _=>1024 - (intOf u).toNat)
   case atStart=>exact ⟨p,zo,zo,rfl,Jc,hbx0,hJ2,Jb,aiU,by rw [Nat.sub_self];exact kX,ae (λr h1 h2=>by omega)⟩
   case round =>
    clear hJ2 Jb aiU kX Jc hbx0;obtain ⟨q,hq0,hq1,rfl,hwz,hbx,hJs,kB1,CV,kX,hall⟩:=hrel;by_cases hq:q<1024
    ·have hq':decide ((q:Int)<1024)=true:=by rw [decide_eq_true_eq];omega
     have hql:(q:Int)<1024:=zo;have e1:=λz:Ext wr=>(z.blk kB1).cell
     have e2:=λz:Ext wr=>(z.blk kX).cell
     have hcell:=hkd.out wr CV q hq;have e3:=λz:Ext wr=>z.cell hcell
     generalize hgk:(V.pg q).kind=kq at *
     gi_upto_region 3 with fail
     refine wpIn_wide.2 ?_;by_cases hkq:kq=kd
     ·have ao0:=Hd hkq
      have al4:Hid (∀r,p<=r->r<q+1->(V.pg r).kind=kd):=ae (λr h1 h2=>by
       by_cases e:r=q
       ·rw [e,hgk,hkq]
       ·exact hall.out r h1 zo)
      clear hkq hgk hall;refine aD zk zk ?_
      repeat (go_big_quiet_step (fail))
      refine wpQuiet_nil ?_;rintro w3 ⟨⟨_,hw3⟩,rfl⟩;have ER:=kX.call hw3;have J3:=hJ _ _ wr w3 hJs (.of_below hw3);have zu:=Nat.le_trans hwz hw3.size;have Je:=Nat.lt_of_lt_of_le hbx hw3.size;obtain ⟨wL,Gp⟩:=bY hw3 kB1 CV;have cX:=ER.cell;have fX:=ER.frozen;have F4:ag (λk=>k=bx) w3 (w3.setCell ⟨bx,1,none⟩ (zI ((q - p+1:Nat):Int))):=ag.setCell (T:=λk=>k=bx) (p:=⟨bx,1,none⟩) (ag.refl _ w3) (λ_=>rfl) _;have kX4:=ER.aM 1 (zI ((q - p+1:Nat):Int));have hcs1:((q - p:Nat):Int)+1=((q - p+1:Nat):Int):=zo;have J4:=hJ _ _ w3 _ J3 (F4.mono λ_ _ h=>.inr h);have RX:=F4.blk wL hne1;have aiV:=F4.blk Gp aoZ;have hs4:=F4.size;have aw3:((q - p:Nat):Int)<2000:=zo;have aiW:q - p+1=q+1 - p:=zo;rw [aiW] at kX4;clear e1 e2 e3 hJs kB1 CV kX J3 wL Gp ER hw3 F4 hcell
      gi_wp2_with fail
      rw [aiW] at J4 RX aiV hs4;go_roundw
      case rel=>exact ⟨q+1,zo,zo,by go_num,zo,zo,J4,RX,aiV,kX4,al4⟩
      case measure=>exact zm
     ·have ao0:=lV hkq
      have yG:Hid (p<q):=ae (by
       rcases Nat.lt_or_ge p q with h|h
       ·exact h
       ·exfalso
        have:q=p:=zo;rw [this] at hgk;exact hkq (hgk.symm.trans al3.out))
      have hbq:Hid (bdy V q):=ae (.inr (.inl (by
       have:=yG.out;rw [hgk,hall.out (q - 1) zo zo]
       exact λh=>hkq h.symm)))
      clear hkq hgk hq;refine aD zk zk ?_
      repeat (go_big_quiet_step (fail))
      refine wpQuiet_nil ?_;rintro w3 ⟨⟨_,hw3⟩,rfl⟩;have ER:=kX.call hw3;have J3:=hJ _ _ wr w3 hJs (.of_below hw3);have zu:=Nat.le_trans hwz hw3.size;have Je:=Nat.lt_of_lt_of_le hbx hw3.size;obtain ⟨wL,Gp⟩:=bY hw3 kB1 CV;have cX:=ER.cell;clear e1 e2 e3 hJs kB1 CV kX hw3 hcell;by_cases hk0:kd=0
      ·subst hk0
       have hR:Hid (aF V q=aF V p):=ae (by
        have:=zH (V:=V) (p:=p) (q - p) (λr h1 h2=>hall.out r h1 (by have:=yG.out;omega))
        rwa [show p+(q - p)=q by have:=yG.out;omega] at this)
       have J4:=hnew _ (λ_=>False) _ _ J3 (λ_ h=>h.elim);rw [<-hR.out] at J4;have adf:=yG.out
       gi_wp2_with fail
       go_roundw
       case rel=>exact ⟨q,zo,rfl,zu,J4,wL,Gp,hbq⟩
       case measure=>exact zm
      ·have hk0':=gJ hk0
       have hR:Hid (aF V q=aF V p++[((p:Int),((q - p:Nat):Int),kd)]):=ae (by
        have h1:=yG.out;have h2:=zG (V:=V) (p:=p) (c:=kd) (hbd.out.elim .inl (λh=>h.elim .inr (λh=>by omega))) hk0 (q - p - 1) (λr a1 a2=>hall.out r a1 zo);rw [show q - p - 1+1=q - p by omega,show p+(q - p)=q by omega] at h2;exact h2)
       have hpre:Hid (aF V p++[((p:Int),((q - p:Nat):Int),kd)] <+: aF V 1024):=ae (by
        rw [<-hR.out];exact BL hbq.out zo)
       have adf:=yG.out;obtain ⟨fn,tmps,assign,body,hy,qc⟩:=hY (m - 1) (λk=>k=bx) (aF V p) ((p:Int),((q - p:Nat):Int),kd) w3 J3 (λk hk=>by rw [hk];exact Je) hpre.out;clear hY hk0
       gi_wp2_with fail
       refine qc.mono ?_;rintro e W4 (⟨rfl,DF,fQ⟩|⟨rfl,BI⟩)
       ·have J5:=hnew _ (λ_=>False) _ _ DF (λ_ h=>h.elim)
        rw [<-hR.out] at J5
        gi_wp2_with fail
        go_roundw
        case rel=>exact ⟨q,zo,rfl,Nat.le_trans zu fQ.size,J5,fQ.blk wL (λh=>h (.inl hK1)),fQ.blk Gp (λh=>h (.inl hKb)),hbq⟩
        case measure=>exact zm
       ·exact adb
    ·obtain rfl:q=1024:=zo
     have hq':decide (((1024:Nat):Int)<1024)=false:=by decide
     have yG:Hid (p<1024):=ae hlt;have hbq:Hid (bdy V 1024):=ae (.inr (.inr (Nat.le_refl _)));have e1:=λz:Ext wr=>(z.blk kB1).cell
     have e2:=λz:Ext wr=>(z.blk kX).cell
     have e3:True:=trivial;have hcell:True:=trivial
     gi_upto_region 3 with fail
     refine wpIn_wide.2 ?_;refine aD zk zk ?_
     repeat (go_big_quiet_step (fail))
     refine wpQuiet_nil ?_;rintro w3 ⟨⟨_,hw3⟩,rfl⟩;have ER:=kX.call hw3;have J3:=hJ _ _ wr w3 hJs (.of_below hw3);have zu:=Nat.le_trans hwz hw3.size;have Je:=Nat.lt_of_lt_of_le hbx hw3.size;obtain ⟨wL,Gp⟩:=bY hw3 kB1 CV;have cX:=ER.cell;clear e1 e2 e3 hJs kB1 CV kX hw3 hcell;by_cases hk0:kd=0
     ·subst hk0
      have hR:Hid (aF V 1024=aF V p):=ae (by
       have:=zH (V:=V) (p:=p) (1024 - p) (λr h1 h2=>hall.out r h1 (by have:=yG.out;omega))
       rwa [show p+(1024 - p)=1024 by have:=yG.out;omega] at this)
      have J4:=hnew _ (λ_=>False) _ _ J3 (λ_ h=>h.elim);rw [<-hR.out] at J4;have adf:=yG.out
      gi_wp2_with fail
      go_roundw
      case rel=>exact ⟨1024,zo,rfl,zu,J4,wL,Gp,hbq⟩
      case measure=>exact zm
     ·have hk0':=gJ hk0
      have hR:Hid (aF V 1024=aF V p++[((p:Int),((1024 - p:Nat):Int),kd)]):=ae (by
       have h1:=yG.out;have h2:=zG (V:=V) (p:=p) (c:=kd) (hbd.out.elim .inl (λh=>h.elim .inr (λh=>by omega))) hk0 (1024 - p - 1) (λr a1 a2=>hall.out r a1 zo);rw [show 1024 - p - 1+1=1024 - p by omega,show p+(1024 - p)=1024 by omega] at h2;exact h2)
      have hpre:Hid (aF V p++[((p:Int),((1024 - p:Nat):Int),kd)] <+: aF V 1024):=ae (by
       rw [<-hR.out];exact BL hbq.out zo)
      have adf:=yG.out;obtain ⟨fn,tmps,assign,body,hy,qc⟩:=hY (m - 1) (λk=>k=bx) (aF V p) ((p:Int),((1024 - p:Nat):Int),kd) w3 J3 (λk hk=>by rw [hk];exact Je) hpre.out;clear hY hk0
      gi_wp2_with fail
      refine qc.mono ?_;rintro e W4 (⟨rfl,DF,fQ⟩|⟨rfl,BI⟩)
      ·have J5:=hnew _ (λ_=>False) _ _ DF (λ_ h=>h.elim)
       rw [<-hR.out] at J5
       gi_wp2_with fail
       go_roundw
       case rel=>exact ⟨1024,zo,rfl,Nat.le_trans zu fQ.size,J5,fQ.blk wL (λh=>h (.inl hK1)),fQ.blk Gp (λh=>h (.inl hKb)),hbq⟩
       case measure=>exact zm
      ·exact adb
  ·obtain rfl:p=1024:=zo
   have hlt':decide (((1024:Nat):Int)<1024)=false:=by decide
   gi_wp2_with fail
   go_end0
   exact ⟨⟨_,rfl⟩,.inl ⟨_,hJs⟩⟩
theorem agU:(prog.info? 110).map (λi=>(i.zero,i.size,i.bytes))=some (some (.agg #[zI 0,zI 0,zI 0]),3,24):=zk
theorem BM:∃i0,prog.info? 110=some i0/\i0.zero=some (.agg #[zI 0,zI 0,zI 0])/\i0.size=3/\i0.bytes=24:=by
 obtain ⟨i0,h⟩:=info_parts agU;exact ⟨i0,h⟩
theorem Wm {P:Prop} (h:P:=by
 rcases h with h|h
 ·omega
 ·have:=hgx k h;omega):P:=h
theorem Hu (g:Nat) (lb:Array Value) (K:Nat->Prop) (xs:List Rn) (w:World) (hxs:xs.length<=1000000)
  (hseq:yS prog g lb rnA (λ_=>False) K xs w) (eg:∀args w,(callFunc g args).run prog w= .ok (.enter g args) w) (hK:∀k,K k->k<w.heap.size) :
  Calls prog 192 #[zN,.func (.func g) #[] lb] w λe w'=>∃v,e= .returned v/\w'.ownsRow w.heap.size 110 3 v xs.length (fl rG xs)/\Below w.heap.size w w':=by
 obtain ⟨i0,hi,hz0,hz1,hz2⟩:=BM;obtain ⟨s,hs⟩:=ah (w.heap.size);obtain ⟨W0,hW0⟩:=ah (w.alloc (.cells #[zN] 53));have hs0:W0.heap.size=s+1:=by rw [<-hW0,<-hs];simp
 have kO:af W0 s 53 #[zN]:=by rw [<-hW0,<-hs];exact af.new _ _ _
 have hb0:Below s w W0:=by rw [<-hW0,<-hs];exact aQ w _
 have IY:ag (λ_=>False) w W0:=.of_below (by rw [hs];exact hb0);have hW1:=ae hW0;clear hW0;refine bL func192 rfl ?_;simp only [ntmps192,List.size_toArray,List.length_cons,List.length_nil,Nat.reduceAdd,Nat.reduceSub,Array.replicate_succ,Array.replicate_zero,List.push_toArray,List.append_toArray,List.nil_append,List.cons_append];go_wp2_with fail;rw [hW1.out];clear hW1;have ls1:=kO.lt;have hlen:∀(pre:List Rn) (x:Rn),pre++[x] <+: xs->pre.length<1000000:=λpre x h=>by
  have:=h.length_le;simp at this;omega
 refine adh 5 7 110 (gf:=g) (lb:=lb) rfl eg (hseq.later (IY.mono λ_ _ h=>h.elim)) rfl (λ_ h=>h.elim) (λk h=>by have:=hK k h;omega)
  (λX pre W=>BC X W s 53 110 (s+3) 3 pre.length (fl rG pre)/\Below s w W/\∀k,X k->s<=k)
  (λ_ _ _ _=>False)
  (λX pre A B h hf=>⟨h.1.far hf (by rintro (h|h|h|h) <;> first|exact h|exact h.elim|omega) (λg hg=>by rintro (h|h|h|h) <;> first|exact h|exact h.elim|omega),
   h.2.1.trans (hf.below (by rw [<-hs];exact h.2.1.size) (λk hk=>by rintro (h'|h'|h'|h');exact h';have:=h.2.2 k h';omega;omega;omega)),h.2.2⟩)
  (λ_ _ _ _ _ h _=>h.elim)
  (λX X' pre A h hX=>⟨h.1.new hX,h.2.1,λk hk=>(hX _ hk).elim (h.2.2 k) (λh'=>by have:=h.2.1.size;omega)⟩)
  ⟨⟨_,kO,World.ownsRow_nil _ _ _ _,id,λ_ _=>id⟩,hb0,λ_ h=>h.elim⟩ ?assign ?body ?done (λ_ _ _ _ _ _ h _=>h.elim)
 case assign =>
  intro m l x W C hC;obtain ⟨xn,xc,xl⟩:=x;simp only [V9,List.setIfInBounds_toArray,List.set_cons_succ,List.set_cons_zero] at hC ⊢
  gi_wp2
  exact hC
 case body =>
  rintro m l X pre x Bx Wa W hsz hXlt ⟨vk,hB,zM⟩ hpre hBx kx hBa;simp only [List.setIfInBounds_toArray,List.set_cons_succ,List.set_cons_zero];have hlt:=hlen pre x hpre;obtain ⟨v,hv,hrow,hXB,ZG⟩:=vk.ex;obtain ⟨A',cap',rfl,_⟩:=dH hrow;obtain ⟨pl,hpl⟩:=ah (pre.length);obtain ⟨xa,xo,xl⟩:=x;dsimp only at kx;obtain ⟨cx,cv⟩:=bB kx hv;have fv:=hv.frozen;have kN:=af.new W 110 #[zI xa,zI xo,zI xl];have ao1:∀k,X k->k<W.heap.size:=λk hk=>by have:=(hXlt k hk).1;have:=kx.lt;omega
  rw [hpl] at hrow hv cv hlt ZG
  gi_wp2_with (gi_at_builtin;refine Co _ rfl (.tmp 8) (.tmp 10) 53 rfl (s+3) 110 i0 (.agg #[zI 0,zI 0,zI 0]) 3 24 underlying53 hi hz0 hz1 hz2 rfl zd _ pl (fl rG pre) rfl (hrow.alloc _) ⟨W.heap.size,0,none⟩ 1 1 [zI xa,zI xo,zI xl] rfl rfl (adg kN) Wl (by unfold maxLen;omega) zo (by simp;omega) ?_;intro v' w1 hown' hgrow hblk;rw [<-aan pre (xa,xo,xl)] at hown';obtain ⟨hv1,hb2,hf2⟩:=BC.appended hv zd hrow hXB ZG hown' hgrow hblk ao1;obtain ⟨A2,cap2,rfl,_⟩:=dH hown';have cv1:=hv1.cell;have fv1:=hv1.frozen)
  have hgx:∀g,(Value.slice A' pl cap').ownBlock=some g->s+3<=g/\¬X g:=λg hg=>⟨(hrow.lt g hg).1,ZG g hg⟩
  have hf3:=hf2 (λk=>k=s\/(Value.slice A' pl cap').ownBlock=some k) (.inl rfl) (λg hg=>.inr hg);refine ⟨hf3.mono λk _ h=>?_,?_,hB.trans (hf3.below (by have:=hB.size;omega) λk hk=>?_),zM⟩
  ·rintro (h'|h'|h'|h')
   ·have:=hK k h'
    exact Wm
   ·rcases h with h|h
    ·exact hXB (h ▸ h')
    ·exact (hgx k h).2 h'
   ·exact Wm
   ·exact Wm
  ·rw [List.length_append,List.length_singleton,hpl];exact hb2
  ·rintro (h|h)
   ·omega
   ·have:=hgx _ h;omega
 case done =>
  rintro X W hsz ⟨vk,hB,zM⟩ hd;obtain ⟨v,hv,hrow,hXB,ZG⟩:=vk.ex;have cv:=hv.cell;obtain ⟨A',cap',rfl,_⟩:=dH hrow;rw [hs0] at hd hsz;go_wp2_with fail;rw [hs0];have hfp:ag (λk=>k=s+1) W (W.putObj (s+1) (.deferred none)):=ag.putObj (T:=λk=>k=s+1) (ag.refl _ _) (λ_=>rfl) _;have hrow3:=aN hrow hfp (λg hg h=>by have:=(hrow.lt g hg).1;omega);exact dF (v:=.slice A' xs.length cap') hd (by simp [results,results192,go_sem]) ⟨_,rfl,qC hrow3 zo,by rw [hs];exact hB.trans (hfp.below (by have:=hB.size;omega) (λk hk=>by omega))⟩
theorem Mm (g:Nat) (lb:Array Value) (K:Nat->Prop) (xs:List Rn) (w:World) (hxs:xs.length<=1000000)
  (hseq:yS prog g lb rnA (λ_=>False) K xs w) (eg:∀args w,(callFunc g args).run prog w= .ok (.enter g args) w) (hK:∀k,K k->k<w.heap.size) :
  Calls prog 162 #[.func (.func g) #[] lb] w λe w'=>∃v,e= .returned v/\w'.ownsRow w.heap.size 110 3 v xs.length (fl rG xs)/\Below w.heap.size w w':=by
 have HA:=ae (Hu g lb K xs w hxs hseq eg hK);go_enter func162,ntmps162
 go_wp2_with (go_at_call 192;refine (HA.out).mono ?_;rintro e w1 ⟨v,rfl,hown,hf⟩)
 go_ret;exact ⟨v,rfl,hown,hf⟩
theorem wT {P:Program} {o:Oper} {a:Act} {w w':World} {v:Value} {K:Act->World->Prop} {Q:Exit->Act->World->Prop} (h:(execOp a.eval o).run P w= .ok (.value v) w') (hK:K (a.put o.dst v) w'):o.wp P a w K Q:=by
 unfold Oper.wp;rw [h];exact hK
theorem Pj {P:Program} {ops:Array Oper} {o:Oper} {a:Act} {w:World} {K:Act->World->Prop} {Q:Exit->Act->World->Prop} {E:Prop} (hg:o.guard=none) (h:o.wp P a w K Q) :
  if Region.wanted o (yielded ops a.tmps)=true then o.wp P a w K Q else E:=by
 rw [if_pos (by simp [Region.wanted,hg])];exact h
theorem DX (a:Act) (t:Nat) (x y:Value):(a.put (some t) x).put (some t) y=a.put (some t) y:=by simp [Act.put]
theorem eu (a:Act) (t u:Nat) (x y:Value) (h:t≠u):(a.put (some t) x).put (some u) y=(a.put (some u) y).put (some t) x:=Act.put_comm a x y (λd hd he=>by cases hd;cases he;exact h rfl)
theorem jK (a:Act) (t:Nat) (x:Value) (h:t<a.tmps.size):(a.put (some t) x).eval (.tmp t)=x:=by simp [Act.eval,Act.put,h]
theorem aY (a:Act) (t u:Nat) (x:Value) (h:t≠u):(a.put (some t) x).eval (.tmp u)=a.eval (.tmp u):=Act.eval_put (λd hd he=>by cases hd;cases he;exact h rfl)
theorem eB (a:Act) (t:Nat) (x:Value):(a.put (some t) x).tmps.size=a.tmps.size:=by simp [Act.put]
def ng (n:Nat):Code->Option (Array Oper)
 | .region id ops _=>if id=n then some ops else none
 | .seq a b=>match ng n a with
  | some l=>some l
  | none=>ng n b
 | .block _ c=>ng n c
 | .loop c=>ng n c
 | .scope c=>ng n c
 | .cond _ a b=>match ng n a with
  | some l=>some l
  | none=>ng n b
 | _=>none
theorem JD {P:Program} {o:Oper} {a:Act} {w w1:World} {f:FuncId} {args:Array Value} {C:Value->World->Prop} {K:Act->World->Prop} {Q:Exit->Act->World->Prop} (h:(execOp a.eval o).run P w= .ok (.enter f args) w1)
  (hC:Calls P f args w1 λe w'=>∃v,e= .returned v/\C v w') (hK:∀v w',C v w'->K (a.put o.dst v) w'):o.wp P a w K Q:=by
 unfold Oper.wp;rw [h];show Calls P f args w1 _;refine hC.mono ?_;rintro e w' ⟨v,rfl,hw⟩;exact hK v w' hw
theorem Wn {P:Program} {op:Oper} {a:Act} {w:World} {K:Act->World->Prop} {Q:Exit->Act->World->Prop} (ty:TypeId) (x y:Operand) (ho:op.op= .store ty x y) (hd:op.dst=none)
  (b o:Nat) (cells:Array Value) (hx:a.eval x= .pointer (some ⟨b,o,none⟩)) (hy:a.eval y= .agg cells)
  (ht:w.there b o cells.size) (hi:(P.info? ty).map (·.size)=some cells.size) (h1:cells.all (·.oneCell')=true)
  (h:K a (w.setCells b o cells.toList)):op.wp P a w K Q :=
 wp_store_mid ty x y ho b o cells hx hy ht hi h1 (by rw [hd];exact h)
theorem Pk:(prog.info? 60).map (·.size)=some 18:=zk
def bG (a:Act) (v10 v11 v12 v13 v14 v15 v16 v17 v3:Value):Act:=((((((((a.put (some 10) v10).put (some 11) v11).put (some 12) v12).put (some 13) v13).put (some 14) v14).put (some 15) v15).put (some 16) v16).put (some 17) v17).put (some 3) v3
theorem adi (a:Act) (hsz:68<=a.tmps.size):bG a (a.eval (.tmp 10)) (a.eval (.tmp 11)) (a.eval (.tmp 12)) (a.eval (.tmp 13)) (a.eval (.tmp 14)) (a.eval (.tmp 15)) (a.eval (.tmp 16)) (a.eval (.tmp 17)) (a.eval (.tmp 3))=a:=by
 have h:∀t:Nat,t<68->a.put (some t) (a.eval (.tmp t))=a:=λt ht=>by
  have:a.tmps.setIfInBounds t (a.eval (.tmp t))=a.tmps:=by
   apply Array.ext_getElem?;intro i;rw [Array.getElem?_setIfInBounds];split
   ·rename_i e;subst e
    have:t<a.tmps.size:=zo;simp [Act.eval,this]
   ·rfl
  simp only [Act.put,this]
 unfold bG;rw [h 10 zo,h 11 zo,h 12 zo,h 13 zo,h 14 zo,h 15 zo,h 16 zo,h 17 zo,h 3 zo]
section
variable (a:Act) (v10 v11 v12 v13 v14 v15 v16 v17 v3 x:Value)
theorem al5:(bG a v10 v11 v12 v13 v14 v15 v16 v17 v3).put (some 10) x=bG a x v11 v12 v13 v14 v15 v16 v17 v3:=by
 unfold bG;rw [eu _ 3 10 _ _ zo,eu _ 17 10 _ _ zo,eu _ 16 10 _ _ zo,eu _ 15 10 _ _ zo,eu _ 14 10 _ _ zo,eu _ 13 10 _ _ zo,eu _ 12 10 _ _ zo,eu _ 11 10 _ _ zo,DX]
theorem al6:(bG a v10 v11 v12 v13 v14 v15 v16 v17 v3).put (some 11) x=bG a v10 x v12 v13 v14 v15 v16 v17 v3:=by
 unfold bG;rw [eu _ 3 11 _ _ zo,eu _ 17 11 _ _ zo,eu _ 16 11 _ _ zo,eu _ 15 11 _ _ zo,eu _ 14 11 _ _ zo,eu _ 13 11 _ _ zo,eu _ 12 11 _ _ zo,DX]
theorem al7:(bG a v10 v11 v12 v13 v14 v15 v16 v17 v3).put (some 12) x=bG a v10 v11 x v13 v14 v15 v16 v17 v3:=by
 unfold bG;rw [eu _ 3 12 _ _ zo,eu _ 17 12 _ _ zo,eu _ 16 12 _ _ zo,eu _ 15 12 _ _ zo,eu _ 14 12 _ _ zo,eu _ 13 12 _ _ zo,DX]
theorem al8:(bG a v10 v11 v12 v13 v14 v15 v16 v17 v3).put (some 13) x=bG a v10 v11 v12 x v14 v15 v16 v17 v3:=by
 unfold bG;rw [eu _ 3 13 _ _ zo,eu _ 17 13 _ _ zo,eu _ 16 13 _ _ zo,eu _ 15 13 _ _ zo,eu _ 14 13 _ _ zo,DX]
theorem al9:(bG a v10 v11 v12 v13 v14 v15 v16 v17 v3).put (some 14) x=bG a v10 v11 v12 v13 x v15 v16 v17 v3:=by
 unfold bG;rw [eu _ 3 14 _ _ zo,eu _ 17 14 _ _ zo,eu _ 16 14 _ _ zo,eu _ 15 14 _ _ zo,DX]
theorem ama:(bG a v10 v11 v12 v13 v14 v15 v16 v17 v3).put (some 15) x=bG a v10 v11 v12 v13 v14 x v16 v17 v3:=by
 unfold bG;rw [eu _ 3 15 _ _ zo,eu _ 17 15 _ _ zo,eu _ 16 15 _ _ zo,DX]
theorem amb:(bG a v10 v11 v12 v13 v14 v15 v16 v17 v3).put (some 16) x=bG a v10 v11 v12 v13 v14 v15 x v17 v3:=by
 unfold bG;rw [eu _ 3 16 _ _ zo,eu _ 17 16 _ _ zo,DX]
theorem amc:(bG a v10 v11 v12 v13 v14 v15 v16 v17 v3).put (some 17) x=bG a v10 v11 v12 v13 v14 v15 v16 x v3:=by
 unfold bG;rw [eu _ 3 17 _ _ zo,DX]
theorem ao2:(bG a v10 v11 v12 v13 v14 v15 v16 v17 v3).put (some 3) x=bG a v10 v11 v12 v13 v14 v15 v16 v17 x:=by
 unfold bG;rw [DX]
end
section
variable (a:Act) (hsz:68<=a.tmps.size) (v10 v11 v12 v13 v14 v15 v16 v17 v3:Value)
include hsz
theorem adj:(bG a v10 v11 v12 v13 v14 v15 v16 v17 v3).eval (.tmp 10)=v10:=by
 unfold bG;rw [aY _ 3 10 _ zo,aY _ 17 10 _ zo,aY _ 16 10 _ zo,aY _ 15 10 _ zo,aY _ 14 10 _ zo,aY _ 13 10 _ zo,aY _ 12 10 _ zo,aY _ 11 10 _ zo,jK _ _ _ zo]
theorem adk:(bG a v10 v11 v12 v13 v14 v15 v16 v17 v3).eval (.tmp 11)=v11:=by
 unfold bG;rw [aY _ 3 11 _ zo,aY _ 17 11 _ zo,aY _ 16 11 _ zo,aY _ 15 11 _ zo,aY _ 14 11 _ zo,aY _ 13 11 _ zo,aY _ 12 11 _ zo,jK _ _ _ (by rw [eB];omega)]
theorem adl:(bG a v10 v11 v12 v13 v14 v15 v16 v17 v3).eval (.tmp 12)=v12:=by
 unfold bG;rw [aY _ 3 12 _ zo,aY _ 17 12 _ zo,aY _ 16 12 _ zo,aY _ 15 12 _ zo,aY _ 14 12 _ zo,aY _ 13 12 _ zo,jK _ _ _ (by rw [eB,eB];omega)]
theorem adm:(bG a v10 v11 v12 v13 v14 v15 v16 v17 v3).eval (.tmp 13)=v13:=by
 unfold bG;rw [aY _ 3 13 _ zo,aY _ 17 13 _ zo,aY _ 16 13 _ zo,aY _ 15 13 _ zo,aY _ 14 13 _ zo,jK _ _ _ (by rw [eB,eB,eB];omega)]
theorem adn:(bG a v10 v11 v12 v13 v14 v15 v16 v17 v3).eval (.tmp 14)=v14:=by
 unfold bG;rw [aY _ 3 14 _ zo,aY _ 17 14 _ zo,aY _ 16 14 _ zo,aY _ 15 14 _ zo,jK _ _ _ (by rw [eB,eB,eB,eB];omega)]
theorem ado:(bG a v10 v11 v12 v13 v14 v15 v16 v17 v3).eval (.tmp 15)=v15:=by
 unfold bG;rw [aY _ 3 15 _ zo,aY _ 17 15 _ zo,aY _ 16 15 _ zo,jK _ _ _ (by rw [eB,eB,eB,eB,eB];omega)]
theorem adp:(bG a v10 v11 v12 v13 v14 v15 v16 v17 v3).eval (.tmp 16)=v16:=by
 unfold bG;rw [aY _ 3 16 _ zo,aY _ 17 16 _ zo,jK _ _ _ (by rw [eB,eB,eB,eB,eB,eB];omega)]
theorem adq:(bG a v10 v11 v12 v13 v14 v15 v16 v17 v3).eval (.tmp 17)=v17:=by
 unfold bG;rw [aY _ 3 17 _ zo,jK _ _ _ (by rw [eB,eB,eB,eB,eB,eB,eB];omega)]
theorem agV:(bG a v10 v11 v12 v13 v14 v15 v16 v17 v3).eval (.tmp 3)=v3:=by
 unfold bG;rw [jK _ _ _ (by rw [eB,eB,eB,eB,eB,eB,eB,eB];omega)]
omit hsz in
theorem YX:(bG a v10 v11 v12 v13 v14 v15 v16 v17 v3).eval (.tmp 0)=a.eval (.tmp 0):=by
 unfold bG;rw [aY _ 3 0 _ zo,aY _ 17 0 _ zo,aY _ 16 0 _ zo,aY _ 15 0 _ zo,aY _ 14 0 _ zo,aY _ 13 0 _ zo,aY _ 12 0 _ zo,aY _ 11 0 _ zo,aY _ 10 0 _ zo]
end
noncomputable def adr:Array Oper:=(Tryz.f103.body.bind (ng 3)).getD #[]
def RY (B1:Nat):Value:=.func (.func 193) #[] #[zP B1]
def j4 (a0:Act) (w0:World) (b:Nat) (V:Vm) (rv:Value) (D:Nat->Bool) (a:Act) (w:World):Prop :=
 ∃(v10 v11 v12 v13 v14 v15 v16 v17 v3:Value) (B1 s3:Nat),a=bG a0 v10 v11 v12 v13 v14 v15 v16 v17 v3/\Below w0.heap.size w0 w/\(D 0=true->v10 = zP b) /\
  (D 1=true->v11=RY B1/\w0.heap.size<=B1/\af w B1 42 #[zP b]) /\
  (D 2=true->w.ownsRow w0.heap.size 110 3 v12 (aF V 1024).length (fl rG (aF V 1024))) /\
  (D 3=true->v13 = zP b)/\(D 4=true->v14 = zP b)/\(D 5=true->v15= .pointer (some ⟨b,67585,none⟩))/\(D 6=true->v16=ic rv V.rf.calls V.rf.hits) /\
  (D 7=true->v17= .agg (gG v12 zN zN rv V.rf.calls V.rf.hits).toArray) /\
  (D 8=true->v3 = zP s3/\w0.heap.size<=s3/\af w s3 60 (if D 9=true then (gG v12 zN zN rv V.rf.calls V.rf.hits).toArray else (gG zN zN zN zN (λ_=>0) (λ_=>0)).toArray)) /\
  (D 9=true->D 8=true/\D 7=true)/\(D 7=true->D 2=true/\D 6=true)
attribute [local irreducible] Oper.wp in
theorem RZ {Q:Exit->Act->World->Prop} (a0:Act) (w0:World) (b:Nat) (cs:Array Value) (V:Vm) (A:Option Addr) (n cap:Nat) (hsz:68<=a0.tmps.size) (hp0:a0.eval (.tmp 0) = zP b)
  (kS:af w0 b 105 cs) (hc:iA cs (.slice A n cap) V)
  (hQ:∀(B1 s3:Nat) (v12:Value) (w':World),w0.heap.size<=s3->af w' s3 60 (gG v12 zN zN (.slice A n cap) V.rf.calls V.rf.hits).toArray->w'.ownsRow w0.heap.size 110 3 v12 (aF V 1024).length (fl rG (aF V 1024))->Below w0.heap.size w0 w' ->
   Q .normal (bG a0 (zP b) (RY B1) v12 (zP b) (zP b) (.pointer (some ⟨b,67585,none⟩)) (ic (.slice A n cap) V.rf.calls V.rf.hits) (.agg (gG v12 zN zN (.slice A n cap) V.rf.calls V.rf.hits).toArray) (zP s3)) w') :
  (Code.region 3 adr true).wp prog Q a0 w0:=by
 conv=>arg 2;arg 2;whnf
 have hbl:=kS.lt;refine QG (j4 a0 w0 b V (.slice A n cap)) zk (by simp [pX,Region.binds]) ?ext ?start ?steps ?fin
 case ext =>
  intro D D' a w h hI;have e:∀i,i<10->D i=D' i:=h;have:j4 a0 w0 b V (.slice A n cap) D a w=j4 a0 w0 b V (.slice A n cap) D' a w:=by
   unfold j4;simp only [e 0 zo,e 1 zo,e 2 zo,e 3 zo,e 4 zo,e 5 zo,e 6 zo,e 7 zo,e 8 zo,e 9 zo]
  exact this ▸ hI
 case start =>
  intro D h;have n:∀i,i<10->¬(D i=true):=λi hi=>by rw [h i hi];decide
  exact ⟨_,_,_,_,_,_,_,_,_,0,0,(adi a0 hsz).symm,(Below.refl _ w0).drew,λh=>absurd h (n 0 zo),λh=>absurd h (n 1 zo),λh=>absurd h (n 2 zo),λh=>absurd h (n 3 zo),λh=>absurd h (n 4 zo),λh=>absurd h (n 5 zo),λh=>absurd h (n 6 zo),λh=>absurd h (n 7 zo),λh=>absurd h (n 8 zo),λh=>absurd h (n 9 zo),λh=>absurd h (n 7 zo)⟩
 case fin =>
  rintro a w ⟨v10,v11,v12,v13,v14,v15,v16,v17,v3,B1,s3,rfl,hb,h0,h1,h2,h3,h4,h5,h6,h7,h8,_,_⟩;obtain rfl:=h0 rfl;obtain ⟨rfl,_,_⟩:=h1 rfl;obtain rfl:=h3 rfl;obtain rfl:=h4 rfl;obtain rfl:=h5 rfl;obtain rfl:=h6 rfl;obtain rfl:=h7 rfl;obtain ⟨rfl,g8,k8⟩:=h8 rfl;simp only [if_true] at k8;exact hQ B1 s3 v12 w g8 k8 (h2 rfl) hb
 case steps =>
  refine ⟨?_,?_,?_,?_,?_,?_,?_,?_,?_,?_,trivial⟩
  all_goals (rintro D a w ⟨v10,v11,v12,v13,v14,v15,v16,v17,v3,B1,s3,rfl,hb,h0,h1,h2,h3,h4,h5,h6,h7,h8,h98,h76⟩ hk he)
  all_goals (refine Pj rfl ?_)
  ·refine wT (v:=zP b) (w':=w) (by simp only [execOp,YX,hp0];simp [go_sem]) ?_
   show j4 a0 w0 b V (.slice A n cap) _ ((bG a0 v10 v11 v12 v13 v14 v15 v16 v17 v3).put (some 10) _) _;rw [al5];refine ⟨_,_,_,_,_,_,_,_,_,B1,s3,rfl,hb,?_⟩;simp only [Nat.reduceBEq,Bool.true_or,Bool.false_or,forall_const];exact ⟨trivial,h1,h2,h3,h4,h5,h6,h7,h8,h98,h76⟩
  ·have e:=h0 (he ⟨0,.data⟩ zs rfl)
   have ev':(bG a0 v10 v11 v12 v13 v14 v15 v16 v17 v3).tmps[10]?.getD undef = zP b:=by
    have:=(adj a0 hsz v10 v11 v12 v13 v14 v15 v16 v17 v3).trans e;simpa [Act.eval] using this
   refine JD (f:=163) (args:=#[zP b]) (w1:=w) (C:=λv w'=>v=RY w.heap.size/\w'=w.alloc (.cells #[zP b] 42)) (by simp only [execOp];simp [go_sem,ev']) ((Wj b w).mono λe w' ⟨h1,h2⟩=>⟨_,h1,rfl,h2⟩) ?_;rintro v w' ⟨rfl,rfl⟩;show j4 a0 w0 b V (.slice A n cap) _ ((bG a0 v10 v11 v12 v13 v14 v15 v16 v17 v3).put (some 11) _) _;rw [al6];refine ⟨_,_,_,_,_,_,_,_,_,w.heap.size,s3,rfl,hb.alloc hb.size _,?_⟩;simp only [Nat.reduceBEq,Nat.reduceAdd,Bool.true_or,Bool.false_or,forall_const];have EZ:=aQ w (.cells #[zP b] 42);exact ⟨h0,⟨trivial,hb.size,af.new _ _ _⟩,λd=>aI (h2 d) EZ,h3,h4,h5,h6,h7,λd=>⟨(h8 d).1,(h8 d).2.1,(h8 d).2.2.call EZ⟩,h98,h76⟩
  ·obtain ⟨rfl,g1,k1⟩:=h1 (he ⟨1,.data⟩ zs rfl)
   have ev':(bG a0 v10 (RY B1) v12 v13 v14 v15 v16 v17 v3).tmps[11]?.getD undef=RY B1:=by
    have:=adk a0 hsz v10 (RY B1) v12 v13 v14 v15 v16 v17 v3;simpa [Act.eval] using this
   have hd7:D 7=false:=by cases h:D 7 with|false=>rfl|true=>rw [(h76 h).1] at hk;cases hk
   have R5:D 9=false:=by
    cases h:D 9 with
    | false=>rfl
    | true=>rw [(h98 h).2] at hd7;cases hd7
   refine JD (f:=162) (args:=#[RY B1]) (w1:=w) (C:=λv w'=>w'.ownsRow w.heap.size 110 3 v (aF V 1024).length (fl rG (aF V 1024))/\Below w.heap.size w w') (by simp only [execOp];simp [go_sem,ev']) ((Mm _ _ (λk=>k=b\/k=B1) (aF V 1024) w (Nat.le_trans (qU V 1024) zo) (RV b B1 V cs _ _ w (.inl rfl) (.inr rfl) k1 (kS.call hb) hc) JC (λk hk=>hk.elim (λh=>by rw [h];exact Nat.lt_of_lt_of_le hbl hb.size) (λh=>by rw [h];exact k1.lt))).mono λe w' ⟨v,h1,h2,h3⟩=>⟨v,h1,h2,h3⟩) ?_;rintro v w' ⟨hrow,EZ⟩;show j4 a0 w0 b V (.slice A n cap) _ ((bG a0 v10 (RY B1) v12 v13 v14 v15 v16 v17 v3).put (some 12) _) _;rw [al7];refine ⟨_,_,_,_,_,_,_,_,_,B1,s3,rfl,hb.zt EZ,?_⟩;simp only [Nat.reduceBEq,Nat.reduceAdd,Bool.true_or,Bool.false_or,forall_const];simp only [hd7,R5] at h7 h8 ⊢;exact ⟨h0,λ_=>⟨trivial,g1,k1.call EZ⟩,qC hrow hb.size,h3,h4,h5,h6,λd=>(by cases d),λd=>⟨(h8 d).1,(h8 d).2.1,(h8 d).2.2.call EZ⟩,λd=>(by cases d),λd=>(by cases d)⟩
  ·refine wT (v:=zP b) (w':=w) (by simp only [execOp,YX,hp0];simp [go_sem]) ?_
   show j4 a0 w0 b V (.slice A n cap) _ ((bG a0 v10 v11 v12 v13 v14 v15 v16 v17 v3).put (some 13) _) _;rw [al8];refine ⟨_,_,_,_,_,_,_,_,_,B1,s3,rfl,hb,?_⟩;simp only [Nat.reduceBEq,Nat.reduceAdd,Bool.true_or,Bool.false_or,forall_const];exact ⟨h0,h1,h2,trivial,h4,h5,h6,h7,h8,h98,h76⟩
  ·have e:=h3 (he ⟨3,.data⟩ zs rfl)
   refine wT (v:=zP b) (w':=w) (by simp only [execOp,adm _ hsz,e];simp [go_sem]) ?_;show j4 a0 w0 b V (.slice A n cap) _ ((bG a0 v10 v11 v12 v13 v14 v15 v16 v17 v3).put (some 14) _) _;rw [al9];refine ⟨_,_,_,_,_,_,_,_,_,B1,s3,rfl,hb,?_⟩;simp only [Nat.reduceBEq,Nat.reduceAdd,Bool.true_or,Bool.false_or,forall_const];exact ⟨h0,h1,h2,h3,trivial,h5,h6,h7,h8,h98,h76⟩
  ·have e:=h4 (he ⟨4,.data⟩ zs rfl)
   refine wT (v:=.pointer (some ⟨b,67585,none⟩)) (w':=w) (by simp only [execOp,adn _ hsz,e];simp [go_sem]) ?_;show j4 a0 w0 b V (.slice A n cap) _ ((bG a0 v10 v11 v12 v13 v14 v15 v16 v17 v3).put (some 15) _) _;rw [ama];refine ⟨_,_,_,_,_,_,_,_,_,B1,s3,rfl,hb,?_⟩;simp only [Nat.reduceBEq,Nat.reduceAdd,Bool.true_or,Bool.false_or,forall_const];exact ⟨h0,h1,h2,h3,h4,trivial,h6,h7,h8,h98,h76⟩
  ·have e:=h5 (he ⟨5,.data⟩ zs rfl)
   have kb:=kS.call hb;have pQ:w.rangeAt b 67585 (aH (.slice A n cap) V.rf.calls V.rf.hits):=λj v hj=>by
    have RH:j<15:=(List.getElem?_eq_some_iff.1 hj).1;rw [kb.cell,hc.rf j RH];exact hj
   have hd7:D 7=false:=by cases h:D 7 with|false=>rfl|true=>rw [(h76 h).2] at hk;cases hk
   refine wp_load_mid 58 (.tmp 15) rfl b 67585 ((ado _ hsz ..).trans e) (aH (.slice A n cap) V.rf.calls V.rf.hits) _ pQ underlying58 rfl dP ?_;show j4 a0 w0 b V (.slice A n cap) _ ((bG a0 v10 v11 v12 v13 v14 v15 v16 v17 v3).put (some 16) _) _;rw [amb];refine ⟨_,_,_,_,_,_,_,_,_,B1,s3,rfl,hb,?_⟩;simp only [Nat.reduceBEq,Nat.reduceAdd,Bool.true_or,Bool.false_or,forall_const];simp only [hd7] at h7 ⊢;exact ⟨h0,h1,h2,h3,h4,h5,rfl,λd=>(by cases d),h8,λd=>(by rw [(h98 d).2] at hd7;cases hd7),λd=>(by cases d)⟩
  ·have d2:=he ⟨2,.data⟩ zs rfl
   have d6:=he ⟨6,.data⟩ zs rfl;obtain rfl:=h6 d6;obtain ⟨A',cap',rfl,_⟩:=dH (h2 d2);have ao3:(bG a0 v10 v11 (.slice A' (aF V 1024).length cap') v13 v14 v15 (ic (.slice A n cap) V.rf.calls V.rf.hits) v17 v3).tmps[12]?.getD undef= .slice A' (aF V 1024).length cap':=by
    have:=adl a0 hsz v10 v11 (.slice A' (aF V 1024).length cap') v13 v14 v15 (ic (.slice A n cap) V.rf.calls V.rf.hits) v17 v3;simpa [Act.eval] using this
   have aiX:(bG a0 v10 v11 (.slice A' (aF V 1024).length cap') v13 v14 v15 (ic (.slice A n cap) V.rf.calls V.rf.hits) v17 v3).tmps[16]?.getD undef=ic (.slice A n cap) V.rf.calls V.rf.hits:=by
    have:=adp a0 hsz v10 v11 (.slice A' (aF V 1024).length cap') v13 v14 v15 (ic (.slice A n cap) V.rf.calls V.rf.hits) v17 v3;simpa [Act.eval] using this
   refine wT (v:=.agg (gG (.slice A' (aF V 1024).length cap') zN zN (.slice A n cap) V.rf.calls V.rf.hits).toArray) (w':=w) (by
    generalize bG a0 v10 v11 (.slice A' (aF V 1024).length cap') v13 v14 v15 (ic (.slice A n cap) V.rf.calls V.rf.hits) v17 v3=aa at *;generalize (aF V 1024).length=N at *;unfold ic aH at aiX;unfold gG aH;simp only [execOp];simp [go_sem,ao3,aiX]) ?_
   show j4 a0 w0 b V (.slice A n cap) _ ((bG a0 v10 v11 (.slice A' (aF V 1024).length cap') v13 v14 v15 (ic (.slice A n cap) V.rf.calls V.rf.hits) v17 v3).put (some 17) _) _;rw [amc];refine ⟨_,_,_,_,_,_,_,_,_,B1,s3,rfl,hb,?_⟩;simp only [Nat.reduceBEq,Nat.reduceAdd,Bool.true_or,Bool.false_or,forall_const];exact ⟨h0,h1,h2,h3,h4,h5,λ_=>trivial,trivial,h8,λd=>⟨(h98 d).1,trivial⟩,d2,d6⟩
  ·have R5:D 9=false:=by cases h:D 9 with|false=>rfl|true=>rw [(h98 h).1] at hk;cases hk
   have EZ:=aQ w (.cells (gG zN zN zN zN (λ_=>0) (λ_=>0)).toArray 60);refine wT (v:=zP w.heap.size) (w':=w.alloc (.cells (gG zN zN zN zN (λ_=>0) (λ_=>0)).toArray 60)) (by unfold gG aH;simp [execOp,go_sem]) ?_;show j4 a0 w0 b V (.slice A n cap) _ ((bG a0 v10 v11 v12 v13 v14 v15 v16 v17 v3).put (some 3) _) _;rw [ao2];refine ⟨_,_,_,_,_,_,_,_,_,B1,w.heap.size,rfl,hb.alloc hb.size _,?_⟩;simp only [Nat.reduceBEq,Nat.reduceAdd,Bool.true_or,Bool.false_or,forall_const];simp only [R5];exact ⟨h0,λd=>⟨(h1 d).1,(h1 d).2.1,(h1 d).2.2.call EZ⟩,λd=>aI (h2 d) EZ,h3,h4,h5,h6,h7,⟨trivial,hb.size,af.new _ _ _⟩,λd=>(by cases d),h76⟩
  ·have d8:=he ⟨8,.data⟩ zs rfl
   have d7:=he ⟨7,.data⟩ zs rfl;obtain ⟨d2,d6⟩:=h76 d7;obtain ⟨rfl,g8,k8⟩:=h8 d8;obtain rfl:=h7 d7;have hrow:=h2 d2;obtain ⟨A',cap',rfl,_⟩:=dH hrow;have k8':af w s3 60 (gG zN zN zN zN (λ_=>0) (λ_=>0)).toArray:=by rw [hk] at k8;exact k8
   have hF:=ag.puts (T:=λk=>k=s3) rfl (gG (.slice A' (aF V 1024).length cap') zN zN (.slice A n cap) V.rf.calls V.rf.hits) 0 w w (ag.refl _ _);have kP:=af.puts (g:=s3) (t:=60) (w:=w) (cs:=#[]) (gG (.slice A' (aF V 1024).length cap') zN zN (.slice A n cap) V.rf.calls V.rf.hits) 0 w _ k8';rw [eH (by rfl)] at kP;have aiY:(gG (.slice A' (aF V 1024).length cap') zN zN (.slice A n cap) V.rf.calls V.rf.hits).toArray.size=18:=by rw [List.size_toArray];rfl
   have ht:w.there s3 0 (gG (.slice A' (aF V 1024).length cap') zN zN (.slice A n cap) V.rf.calls V.rf.hits).toArray.size:=by rw [aiY];exact dL k8' 0 18 (by rw [List.size_toArray];exact Nat.le_refl _)
   have lU:(prog.info? 60).map (·.size)=some (gG (.slice A' (aF V 1024).length cap') zN zN (.slice A n cap) V.rf.calls V.rf.hits).toArray.size:=by rw [aiY];exact Pk
   refine Wn 60 (.tmp 3) (.tmp 17) rfl rfl s3 0 (gG (.slice A' (aF V 1024).length cap') zN zN (.slice A n cap) V.rf.calls V.rf.hits).toArray (agV _ hsz ..) (adq _ hsz ..) ht lU (Go.all_oneCell_toArray (JE rfl rfl rfl rfl _ _)) ?_;refine ⟨_,_,_,_,_,_,_,_,_,B1,s3,rfl,hb.trans (hF.below hb.size (λk hk e=>by omega)),?_⟩;simp only [Nat.reduceBEq,Nat.reduceAdd,Bool.true_or,Bool.false_or,forall_const,if_true];exact ⟨h0,λd=>⟨(h1 d).1,(h1 d).2.1,hF.blk (h1 d).2.2 (af.vN (h1 d).2.2 k8' zd)⟩,λ_=>aN hrow hF (λg hg h=>dJ hrow (hg.trans (congrArg some h)) k8' zd),h3,h4,h5,h6,λ_=>trivial,λ_=>⟨trivial,g8,kP⟩,⟨d8,d7⟩,h76⟩
def fP (k:IntKind) (n:Nat) (f:Nat->Int):Array Value:=((List.range n).map λi=>.int k (f i)).toArray
theorem ui {k:IntKind} {n:Nat} {f:Nat->Int} {i:Nat} (h:i<n):(fP k n f)[i]? = some (.int k (f i)):=by
 unfold fP;rw [List.getElem?_toArray,List.getElem?_map,List.getElem?_range h];rfl
theorem Gq (f g:Nat->Int) (w:World):∀is:List Nat,(∀i∈is,i<64)->(Op.eqItems 9999 5 1 (fP .u8 64 f) (fP .u8 64 g) is).run prog w= .ok (is.all λi=>f i==g i) w
 | [],_=>by simp [Op.eqItems]
 | i::is,h=>by
  have ih:=Gq f g w is (λj hj=>h j (by simp [hj]));have h1:=ui (k:=.u8) (f:=f) (h i zs);have h2:=ui (k:=.u8) (f:=g) (h i zs);have a3:=Tryz.isAgg5;have he:=run_equalIn_int (P:=prog) w 9998 5 .u8 _ (f i) (g i) underlying5;generalize fP .u8 64 f=X at *;generalize fP .u8 64 g=Y at *;have p1:(part 5 X (i*1)).run prog w= .ok (.int .u8 (f i)) w:=by simp [part,a3,h1]
  have p2:(part 5 Y (i*1)).run prog w= .ok (.int .u8 (g i)) w:=by simp [part,a3,h2]
  simp only [Op.eqItems,Sem.run_bind,p1,p2,he,Result.andThen_ok,List.all_cons];cases f i==g i with
  | false=>simp
  | true=>simp only [Bool.not_true,Bool.false_eq_true,if_false,Bool.true_and];exact ih
theorem E5 (f g:Nat->Int) (w:World):(Op.equalIn 10000 100 (.agg (fP .u8 64 f)) (.agg (fP .u8 64 g))).run prog w= .ok ((List.range 64).all λi=>f i==g i) w:=by
 obtain ⟨i0,hi⟩:=info_of_underlying (P:=prog) underlying5;rw [run_equalIn_array w 9999 _ _ underlying100 hi];have hc:prog.cellsOf 5=1:=zk;rw [hc];exact Gq f g w _ (λi hi=>List.mem_range.1 hi)
theorem JF (f:Nat->Int) (w:World):∀is:List Nat,(∀i∈is,i<7)->(Op.eqItems 9999 3 1 (fP .i64 7 f) (fP .i64 7 f) is).run prog w= .ok true w
 | [],_=>by simp [Op.eqItems]
 | i::is,h=>by
  have ih:=JF f w is (λj hj=>h j (by simp [hj]));have h1:=ui (k:=.i64) (f:=f) (h i zs);have a3:=Tryz.isAgg3;have he:=run_equalIn_int (P:=prog) w 9998 3 .i64 _ (f i) (f i) underlying3;generalize fP .i64 7 f=X at *;have p1:(part 3 X (i*1)).run prog w= .ok (zI (f i)) w:=by simp [part,a3,h1]
  rw [show (f i==f i)=true by simp] at he;simp only [Op.eqItems,Sem.run_bind,p1,he,Result.andThen_ok,Bool.not_true,Bool.false_eq_true,if_false];exact ih
theorem R6 (f:Nat->Int) (w:World):(Op.equalIn 10000 56 (.agg (fP .i64 7 f)) (.agg (fP .i64 7 f))).run prog w= .ok true w:=by
 obtain ⟨i0,hi⟩:=info_of_underlying (P:=prog) underlying3;rw [run_equalIn_array w 9999 _ _ underlying56 hi];have hc:prog.cellsOf 3=1:=zk;rw [hc];exact JF f w _ (λi hi=>List.mem_range.1 hi)
end Go.Proofs.YtlgcpjhimomiaaaGreat
