/- Texts ZWalkB, ZWalkC, ZWalkD, ZWalkE, ZWalkF, ZWalkG, ZWalkH, ZSpecB, ZWalkI, ZWalkJ, ZWalkK, ZWalkL, ZWalkM, ZSpecC, ZWalkN, ZWalkO, ZWalkP. -/
import Derived.Test.YtlgcpjhimomiaaaGreatO4
set_option maxRecDepth 100000
set_option maxHeartbeats 12800000
namespace Go.Pol
open Go Go.RowKit Go.Proofs.Tryz
theorem gQ {P:Program} {fn:Func} {a u:Tmp} {t:TypeId} {tmps:Array Value} {w:World} {v:Value} {p:Addr} (h:fn.results=#[.cell a t,.tmp u]) (ha:tmps.getD a undef= .pointer (some p)) (hl:(loadVar t p).run P w= .ok v w) :
  (results fn tmps).run P w= .ok (.tuple #[v,tmps.getD u undef]) w:=by
 exact OV
def aH (v:Value) (cs hs:Nat->Int):List Value:=[v,zI (cs 0),zI (cs 1),zI (cs 2),zI (cs 3),zI (cs 4),zI (cs 5),zI (cs 6),
 zI (hs 0),zI (hs 1),zI (hs 2),zI (hs 3),zI (hs 4),zI (hs 5),zI (hs 6)]
theorem j3 {v:Value} (hv:v.oneCell'=true) (cs hs:Nat->Int):∀x∈aH v cs hs,x.oneCell'=true:=by
 intro x hx;simp only [aH,List.mem_cons,List.not_mem_nil,or_false] at hx;rcases hx with rfl|rfl|rfl|rfl|rfl|rfl|rfl|rfl|rfl|rfl|rfl|rfl|rfl|rfl|rfl
 ·exact hv
 all_goals rfl
def ic (v:Value) (cs hs:Nat->Int):Value:=.agg (aH v cs hs).toArray
def AR (l:List Ru) (w:World) (v:Value) (w':World):Prop:=∃(A:Option Addr) (cap:Nat),v= .slice A l.length cap/\Rd w' w'.heap.size A (fl iU l)/\l.length<=cap/\cap<=maxLen/\(∀b o,A=some ⟨b,o,none⟩->w.heap.size<=b)/\((A=none->cap=0)/\∀g o,A=some ⟨g,o,none⟩->l≠[]->∃cr,af w' g 108 cr)/\Below w.heap.size w w'
theorem NA {α:Type} {pre rest xs:List α} {x:α} (h:xs=pre++x::rest):pre++[x] <+: xs:=⟨rest,by simp [h]⟩
def nR (s lim:Nat) (A:Option Addr) (n cap:Nat) (f:Nat->Bool) (Ds:List Nat) (w wr:World):Prop :=
 ∃cs:Array Value,af wr (s+1) 4 cs/\cs.size=lim+1/\(∀m,m<=lim->cs[m]? = some (.bool (f m)))/\af wr s 31 #[.slice A n cap]/\af wr (s+2) 236 #[.slice (some ⟨s+1,0,none⟩) (lim+1) (lim+1)] /\
  (∀D∈Ds,s+3<=D/\wr.heap[D]? = some (.deferred (some [])))/\Ds.Pairwise (λa b=>a≠b)/\(∀D∈Ds,D<wr.heap.size)/\Below s w wr
section
variable {s lim:Nat} {A:Option Addr} {n cap:Nat} {f g:Nat->Bool} {Ds:List Nat} {w wr w':World} {T:Nat->Prop}
theorem nR.far (h:nR s lim A n cap f Ds w wr) (hF:ag T wr w') (hT:∀k,T k->s+3<=k/\k∉Ds):nR s lim A n cap f Ds w w':=by
 obtain ⟨cs,kM,hcs,hcm,kP,kO,hDs,Mf,hDl,hB⟩:=h;have hlt:=kM.lt;refine ⟨cs,hF.blk kM (λht=>by have:=(hT _ ht).1;omega),hcs,hcm,hF.blk kP (λht=>by have:=(hT _ ht).1;omega),hF.blk kO (λht=>by have:=(hT _ ht).1;omega),
  λD hD=>⟨(hDs D hD).1,hF.same (hDs D hD).2 (λht=>(hT _ ht).2 hD)⟩,Mf,λD hD=>by have:=hDl D hD;have:=hF.size;omega,hB.trans (hF.below zo (λk hk ht=>by have:=(hT _ ht).1;omega))⟩
theorem nR.mark (h:nR s lim A n cap f Ds w wr) {m:Nat} (hm:m<=lim) (hg:∀q,q<=lim->g q=if q=m then true else f q):nR s lim A n cap g Ds w (wr.setCell ⟨s+1,m,none⟩ (.bool true)):=by
 obtain ⟨cs,kM,hcs,hcm,kP,kO,hDs,Mf,hDl,hB⟩:=h;have hlt:=kM.lt;have hF:ag (λk=>k=s+1) wr (wr.setCell ⟨s+1,m,none⟩ (.bool true)):=ag.setCell (T:=λk=>k=s+1) (p:=⟨s+1,m,none⟩) (ag.refl _ _) (λ_=>rfl) _;refine ⟨_,kM.aM m _,by simp [hcs],λq hq=>?_,hF.blk kP zo,hF.blk kO zo,λD hD=>⟨(hDs D hD).1,hF.same (hDs D hD).2 (by have:=(hDs D hD).1;omega)⟩,Mf,λD hD=>by have:=hDl D hD;have:=hF.size;omega,hB.trans (hF.below zo (λk hk ht=>by omega))⟩;rw [hg q hq,Array.getElem?_setIfInBounds];by_cases e:m=q
 ·subst e;rw [if_pos rfl,if_pos rfl,if_pos zo]
 ·rw [if_neg e,if_neg (Ne.symm e)];exact hcm q hq
theorem nR.congr (h:nR s lim A n cap f Ds w wr) (hg:∀q,q<=lim->g q=f q):nR s lim A n cap g Ds w wr:=by
 obtain ⟨cs,kM,hcs,hcm,r⟩:=h;exact ⟨cs,kM,hcs,λm hm=>by rw [hg m hm];exact hcm m hm,r⟩
theorem nR.more (h:nR s lim A n cap f Ds w wr) {D:Nat} (hD:wr.heap[D]? = some (.deferred (some []))) (hs:s+3<=D) (hn:D∉Ds):nR s lim A n cap f (D::Ds) w wr:=by
 obtain ⟨cs,kM,hcs,hcm,kP,kO,hDs,Mf,hDl,hB⟩:=h;refine ⟨cs,kM,hcs,hcm,kP,kO,λD' h'=>?_,List.pairwise_cons.2 ⟨λa ha e=>hn (e ▸ ha),Mf⟩,λD' h'=>?_,hB⟩
 ·rcases List.mem_cons.1 h' with rfl|h'
  ·exact ⟨hs,hD⟩
  ·exact hDs D' h'
 ·rcases List.mem_cons.1 h' with rfl|h'
  ·exact (Array.getElem?_eq_some_iff.1 hD).1
  ·exact hDl D' h'
end
def YS (l:List Ru) (k:Int) (lim:Nat) (w:World) (e:Ending) (w':World):Prop :=
 ∃(g:Nat) (cs:Array Value),e= .returned (.slice (some ⟨g,0,none⟩) (lim+1) (lim+1))/\af w' g 4 cs/\cs.size=lim+1/\(∀m:Nat,m<=lim->cs[m]? = some (.bool (oP l k m)))/\Below w.heap.size w w'
theorem DT {P:Program} {fn:Func} {tmps:Array Value} {R:Ending->World->Prop} {v:Value}:∀(Ds:List Nat) (w:World),(∀D∈Ds,w.heap[D]? = some (.deferred (some [])))->Ds.Pairwise (λa b=>a≠b) ->
  (∀w',ag (λk=>k∈Ds) w w'->(results fn tmps).run P w'= .ok v w'/\R (.returned v) w')->LeavesInM Fence.wide 0 P fn tmps R (Ds.map dB) .returning w
 | [],w,_,_,h=>by
  obtain ⟨h1,h2⟩:=h w (ag.refl _ _);exact ⟨v,h1,h2⟩
 | D::r,w,hD,hp,h=>by
  obtain ⟨hp1,hp2⟩:=List.pairwise_cons.1 hp;have hF:ag (λk=>k=D) w (w.putObj D (.deferred none)):=ag.putObj (T:=λk=>k=D) (ag.refl _ _) (λ_=>rfl) _;refine ⟨zs,.inl ⟨D,_,rfl,run_takeDeferred (hD D zs),?_⟩⟩;refine DT r _ (λD' hD'=>hF.same (hD D' (by simp [hD'])) (λe=>hp1 D' hD' e.symm)) hp2 (λw' hw'=>h w' ?_);exact (hF.mono (λk _ e=>by simp [e])).trans (hw'.mono (λk _ e=>by simp [e]))
def wM (l:List Ru) (k:Int):Nat->Int
 | 0=>0
 | i+1=>wM l k i+if oP l k (i:Int)=true then 1 else 0
theorem aac {l:List Ru} (h:∀x∈l,fo x=0) (k:Int):oP l k 0=false:=by
 cases hc:oP l k 0 with
 | false=>rfl
 | true =>
  obtain ⟨x,hx,h1⟩:=List.any_eq_true.1 hc;rw [Bool.and_eq_true] at h1;have:=QO (h x hx) h1.2;omega
theorem NC {l:List Ru} (h:∀x∈l,fo x=0) (k:Int):∀n:Nat,wM l k (n+1)=oh l k n
 | 0=>by simp [wM,oh,aac h k]
 | n+1=>by rw [wM,NC h k n,oh];rfl
theorem Gl (l:List Ru) (k:Int):∀n:Nat,0<=wM l k n/\wM l k n<=n
 | 0=>by simp [wM]
 | n+1=>by
  have:=Gl l k n;rw [wM];split <;> omega
def DU {α:Type} (p:α->Bool):List α->Nat->Int
 | [],_=>-1
 | x::r,k=>if p x=true then (k:Int) else DU p r (k+1)
theorem ND {α:Type} (p:α->Bool):∀(bs:List α) (k:Nat),decide (0<=DU p bs k)=bs.any p
 | [],k=>by simp [DU]
 | x::r,k=>by
  rw [DU];cases h:p x with
  | true=>simp [h]
  | false=>simp [h,ND p r (k+1)]
theorem Gm {α:Type} {l:List α} {d:α} {k:Nat} (h:k<l.length):l.getD k d∈l:=by
 rw [List.getD_eq_getElem?_getD,List.getElem?_eq_getElem h];exact List.getElem_mem _
theorem CQ {x y:Int} (h:x=y):Ending.returned (zI x)=Ending.returned (zI y):=by rw [h]
theorem fu {x y:Bool} (h:x=y):Ending.returned (.bool x)=Ending.returned (.bool y):=by rw [h]
theorem VM {P:Prop} (h:P:=by
 rcases (show j=0\/j=1\/j=2\/j=3\/j=4\/j=5\/j=6 by omega) with rfl|rfl|rfl|rfl|rfl|rfl|rfl <;> rfl):P:=h
theorem nT (v:Value) (cs hs:Nat->Int) {j:Nat} (hj:j<7):(aH v cs hs).toArray[1+j]? = some (zI (cs j)):=by
 exact VM
theorem wN (v:Value) (cs hs:Nat->Int) {j:Nat} (hj:j<7):(aH v cs hs).toArray[8+j]? = some (zI (hs j)):=by
 exact VM
def c7 (cs:Nat->Int):Array Value:=#[zI (cs 0),zI (cs 1),zI (cs 2),zI (cs 3),zI (cs 4),zI (cs 5),zI (cs 6)]
theorem alQ (cs:Nat->Int) {j:Nat} (hj:j<7):(c7 cs)[j]? = some (zI (cs j)):=by
 exact VM
structure uf (s:Rf):Prop where
 plan:(iy s.rules).2=0
 calls:∀k,k<7->0<=s.calls k/\s.calls k<=1000000
 hits:∀k,k<7->s.hits k=oh s.rules k (s.calls k).toNat
def rE (S:Rf) (k:Nat):Bool:=oP S.rules k (S.calls k+1)
def fD (S:Rf) (k:Nat):Rf:=⟨S.rules,qM S.calls k (S.calls k+1),if rE S k=true then qM S.hits k (S.hits k+1) else S.hits⟩
theorem NF {S:Rf} (h:uf S) {k:Nat} (hk:k<7) (hc:S.calls k≠1000000):uf (fD S k):=by
 obtain ⟨h1,h2,h3⟩:=h;have hk2:=h2 k hk;refine ⟨h1,λj hj=>?_,λj hj=>?_⟩
 ·have:=h2 j hj
  have e:(fD S k).calls j=if j=k then S.calls k+1 else S.calls j:=rfl
  rw [e];split
  ·omega
  ·exact this
 ·show (if rE S k=true then qM S.hits k (S.hits k+1) else S.hits) j=oh S.rules j (qM S.calls k (S.calls k+1) j).toNat
  by_cases e:j=k
  ·subst e
   have e1:qM S.calls j (S.calls j+1) j=S.calls j+1:=by simp [qM]
   have e2:(S.calls j+1).toNat=(S.calls j).toNat+1:=zo;rw [e1,e2,oh,<-h3 j hj,show ((S.calls j).toNat:Int)+1=S.calls j+1 by omega];unfold rE;cases oP S.rules j (S.calls j+1) <;> simp [qM]
  ·have e1:qM S.calls k (S.calls k+1) j=S.calls j:=by simp [qM,e]
   rw [e1,<-h3 j hj];split
   ·simp [qM,e]
   ·rfl
theorem acM {P:Prop} (h:P:=by
 rcases (show k=0\/k=1\/k=2\/k=3\/k=4\/k=5\/k=6 by omega) with rfl|rfl|rfl|rfl|rfl|rfl|rfl <;> rfl):P:=h
theorem NG (v:Value) (cs hs:Nat->Int) {k:Nat} (hk:k<7) (x:Int):(aH v cs hs).toArray.setIfInBounds (1+k) (zI x)=(aH v (qM cs k x) hs).toArray:=by
 exact acM
theorem NH (v:Value) (cs hs:Nat->Int) {k:Nat} (hk:k<7) (x:Int):(aH v cs hs).toArray.setIfInBounds (8+k) (zI x)=(aH v cs (qM hs k x)).toArray:=by
 exact acM
theorem aaf (v u:Value) (cs hs:Nat->Int):(aH v cs hs).toArray.setIfInBounds 0 u=(aH u cs hs).toArray:=rfl
theorem Rd.NI {T:Nat->Prop} {w w':World} {B:Nat} {A:Option Addr} {xs:List Value} (h:Rd w B A xs) (hF:ag T w w') (hT:∀b o,A=some ⟨b,o,none⟩->¬T b):Rd w' B A xs:=λk hk=>by
 obtain ⟨b,o,e,hb,hc⟩:=h k hk;exact ⟨b,o,e,hb,hF.cell hc (hT b o e)⟩
def acN (S:Rf) (k:Nat) (w:World) (e:Ending) (w':World):Prop :=
 (S.calls k=1000000/\e= .returned (.tuple #[ic zN (λ_=>0) (λ_=>0),.bool false,zI 3])/\Below w.heap.size w w') \/
 (S.calls k≠1000000/\∃v,e= .returned (.tuple #[ic v (fD S k).calls (fD S k).hits,.bool (rE S k),zI 0])/\AR S.rules w v w')
theorem gp {P:Program} {fn:Func} {a u x:Tmp} {t:TypeId} {tmps:Array Value} {w:World} {v:Value} {p:Addr} (h:fn.results=#[.cell a t,.tmp u,.tmp x]) (ha:tmps.getD a undef= .pointer (some p)) (hl:(loadVar t p).run P w= .ok v w) :
  (results fn tmps).run P w= .ok (.tuple #[v,tmps.getD u undef,tmps.getD x undef]) w:=by
 exact OV
structure Pg where
 kind:Int
 bP:Bool
 fe:Nat->Int
structure Vm where
 pg:Nat->Pg
 rf:Rf
def qd (g:Pg):List Value:=zI g.kind :: .bool g.bP::(List.range 64).map λk=>.int .u8 (g.fe k)
theorem Js (g:Pg):(qd g).length=66:=by simp [qd]
theorem acQ (g:Pg):∀x∈qd g,x.oneCell'=true:=by
 intro x hx;simp only [qd,List.mem_cons,List.mem_map] at hx;rcases hx with rfl|rfl|⟨k,_,rfl⟩ <;> rfl
def Vm.gq (V:Vm) (p:Nat) (g:Pg):Vm:={ V with pg:=λq=>if q=p then g else V.pg q }
structure iA (cs:Array Value) (v:Value) (V:Vm):Prop where
 size:cs.size=67600
 made:cs[0]? = some (.bool true)
 page:∀p,p<1024->∀i,i<66->cs[1+p*66+i]? = (qd (V.pg p))[i]?
 rf:∀i,i<15->cs[67585+i]? = (aH v V.rf.calls V.rf.hits)[i]?
theorem iA.kind {cs:Array Value} {v:Value} {V:Vm} (h:iA cs v V) {p:Nat} (hp:p<1024):cs[1+p*66]? = some (zI (V.pg p).kind):=(h.page p hp 0 zo).trans rfl
theorem iA.Bo {cs:Array Value} {v:Value} {V:Vm} (h:iA cs v V) {p:Nat} (hp:p<1024):cs[1+p*66+1]? = some (.bool (V.pg p).bP):=(h.page p hp 1 zo).trans rfl
theorem iA.byte {cs:Array Value} {v:Value} {V:Vm} (h:iA cs v V) {p k:Nat} (hp:p<1024) (hk:k<64):cs[1+p*66+(k+2)]? = some (.int .u8 ((V.pg p).fe k)):=by
 refine (h.page p hp (k+2) zo).trans ?_;unfold qd;rw [List.getElem?_cons_succ,List.getElem?_cons_succ,List.getElem?_map,List.getElem?_range hk];rfl
theorem Jt {P:Prop} (h:P:=by
 rw [if_neg zo,h.page q hq i hi];simp [Vm.gq,e]):P:=h
theorem iA.put {cs:Array Value} {v:Value} {V:Vm} (h:iA cs v V) {p:Nat} (hp:p<1024) (g:Pg):iA (eX cs (1+p*66) (qd g)) v (V.gq p g):=by
 have hs:=h.size;have hl:=Js g;have hg:=jG (qd g) cs (1+p*66) (by rw [hl];omega);refine ⟨by rw [jq];exact hs,?_,λq hq i hi=>?_,λi hi=>?_⟩
 ·rw [hg,if_neg zo];exact h.made
 ·rw [hg,hl]
  by_cases e:q=p
  ·subst e
   rw [if_pos zo,show 1+q*66+i - (1+q*66)=i by omega];simp [Vm.gq]
  ·exact Jt
 ·rw [hg,if_neg (by rw [hl];omega)];exact h.rf i hi
theorem iA.CR {cs:Array Value} {v:Value} {V:Vm} (h:iA cs v V) (u:Value) (S:Rf):iA (eX cs 67585 (aH u S.calls S.hits)) u { V with rf:=S }:=by
 have hs:=h.size;have hl:(aH u S.calls S.hits).length=15:=rfl;have hg:=jG (aH u S.calls S.hits) cs 67585 (by rw [hl];omega);refine ⟨by rw [jq];exact hs,?_,λq hq i hi=>?_,λi hi=>?_⟩
 ·rw [hg,if_neg zo];exact h.made
 ·rw [hg,hl,if_neg zo];exact h.page q hq i hi
 ·rw [hg,hl,if_pos zo,show 67585+i - 67585=i by omega]
theorem Rd.keepR {T:Nat->Prop} {w w':World} {B:Nat} {A:Option Addr} {l:List Ru} (h:Rd w B A (fl iU l)) (hF:ag T w w') (hT:∀b o,A=some ⟨b,o,none⟩->l≠[]->¬T b):Rd w' B A (fl iU l):=by
 by_cases h0:l=[]
 ·subst h0;exact λk hk=>absurd hk (by simp [fl])
 ·exact h.NI hF (λb o e=>hT b o e h0)
structure aA (w:World) (b:Nat) (V:Vm):Prop where
 ex:∃(cs:Array Value) (A:Option Addr) (n cap:Nat),af w b 105 cs/\iA cs (.slice A n cap) V/\V.rf.rules.length=n/\Rd w w.heap.size A (fl iU V.rf.rules)/\(A=none->cap=0)/\(∀g o,A=some ⟨g,o,none⟩->V.rf.rules≠[]->g≠b)/\uf V.rf/\∀g o,A=some ⟨g,o,none⟩->V.rf.rules≠[]->∃cr,af w g 108 cr
theorem aA.lt {w:World} {b:Nat} {V:Vm} (h:aA w b V):b<w.heap.size:=by
 obtain ⟨cs,A,n,cap,hk,_⟩:=h.ex;exact hk.lt
theorem aA.ok {w:World} {b:Nat} {V:Vm} (h:aA w b V):uf V.rf:=by
 obtain ⟨cs,A,n,cap,_,_,_,_,_,_,h,_⟩:=h.ex;exact h
theorem aA.far {w w':World} {b:Nat} {V:Vm} {T:Nat->Prop} (h:aA w b V) (hF:ag T w w') (hb:¬T b) (hA:∀cs A n cap,af w b 105 cs->iA cs (.slice A n cap) V->∀g o,A=some ⟨g,o,none⟩->V.rf.rules≠[]->(∃cr,af w g 108 cr)->¬T g):aA w' b V:=by
 obtain ⟨cs,A,n,cap,h1,h2,h3,h4,h5,h6,h7,h8⟩:=h.ex;have hA':=λg o e h=>hA cs A n cap h1 h2 g o e h (h8 g o e h)
 refine ⟨cs,A,n,cap,hF.blk h1 hb,h2,h3,(h4.keepR hF hA').more hF.size,h5,h6,h7,λg o e h=>(h8 g o e h).imp λcr hc=>hF.blk hc (hA' g o e h)⟩
theorem aA.call {w w':World} {b:Nat} {V:Vm} (h:aA w b V) (hb:Below w.heap.size w w'):aA w' b V :=
 h.far (T:=λ_=>False) (ag.of_below hb) id (λ_ _ _ _ _ _ _ _ _ _ _ h=>h)
instance {w w':World} {b:Nat} {V:Vm}:ZC w w' (aA w b V) (aA w' b V):=⟨λh k=>k.call h⟩
theorem aA.gq {w:World} {b:Nat} {V:Vm} (h:aA w b V) {p:Nat} (hp:p<1024) (g:Pg):aA (w.setCells b (1+p*66) (qd g)) b (V.gq p g)/\ag (λk=>k=b) w (w.setCells b (1+p*66) (qd g)):=by
 obtain ⟨cs,A,n,cap,h1,h2,h3,h4,h5,h6,h7,h8⟩:=h.ex;have hF:=ag.puts (T:=λk=>k=b) rfl (qd g) (1+p*66) w w (ag.refl _ _);exact ⟨⟨_,A,n,cap,af.puts (w:=w) (cs:=#[]) (qd g) (1+p*66) w cs h1,h2.put hp g,h3,(h4.keepR hF (λg' o e h=>h6 g' o e h)).more hF.size,h5,h6,h7,λg o e h=>(h8 g o e h).imp λcr hc=>hF.blk hc (h6 g o e h)⟩,hF⟩
def Vm.dD (V:Vm) (at_ n:Nat) (f:Pg->Pg):Vm:={ V with pg:=λq=>if at_<=q/\q<at_+n then f (V.pg q) else V.pg q }
theorem Vm.zA (V:Vm) (at_:Nat) (f:Pg->Pg):V.dD at_ 0 f=V:=by
 unfold Vm.dD;congr 1;funext q;rw [if_neg zo]
theorem Vm.zC (V:Vm) (at_ n:Nat) (f:Pg->Pg):V.dD at_ (n+1) f=(V.dD at_ n f).gq (at_+n) (f ((V.dD at_ n f).pg (at_+n))):=by
 unfold Vm.dD Vm.gq;simp only;congr 1;funext q;by_cases e:q=at_+n
 ·subst e
  rw [if_pos zo,if_pos rfl,if_neg zo]
 ·rw [if_neg e]
  by_cases h:at_<=q/\q<at_+n
  ·rw [if_pos zo,if_pos h]
  ·rw [if_neg zo,if_neg h]
def gW (k:Int):Pg:=⟨k,false,λ_=>0⟩
def qR (V:Vm) (at_ n:Nat) (pr:Pg->Bool):Bool:=(List.range n).all λi=>pr (V.pg (at_+i))
theorem iQ {V:Vm} {at_ n:Nat} {pr:Pg->Bool}:qR V at_ n pr=true↔∀q,at_<=q->q<at_+n->pr (V.pg q)=true:=by
 unfold qR;rw [List.all_eq_true];constructor
 ·intro h q h1 h2
  have:=h (q - at_) (List.mem_range.2 zo)
  rwa [show at_+(q - at_)=q by omega] at this
 ·intro h i hi
  exact h _ zo (by have:=List.mem_range.1 hi;omega)
theorem agM {a b c:Value} (ha:a.oneCell'=true) (hb:b.oneCell'=true) (hc:c.oneCell'=true):∀x∈[a,b,c],x.oneCell'=true:=by
 intro x hx;simp only [List.mem_cons,List.not_mem_nil,or_false] at hx;rcases hx with rfl|rfl|rfl
 ·exact ha
 ·exact hb
 ·exact hc
theorem Hq {P:Program} {fn:Func} {a:Tmp} {t:TypeId} {tmps:Array Value} {w:World} {v:Value} {p:Addr} (h:fn.results=#[.cell a t]) (ha:tmps.getD a undef= .pointer (some p)) (hl:(loadVar t p).run P w= .ok v w) :
  (results fn tmps).run P w= .ok v w:=by
 exact OV
def rZ (S:Rf) (k:Nat):Bool:=if S.calls k=1000000 then false else rE S k
def acV (S:Rf) (k:Nat):Rf:=if S.calls k=1000000 then S else fD S k
def Vm.ref (V:Vm) (k:Nat):Vm:={ V with rf:=acV V.rf k }
theorem aA.CR {w w':World} {b:Nat} {V:Vm} (h:aA w b V) (S:Rf) (A:Option Addr) (n cap:Nat) (hB:Below w.heap.size w w') (hn:S.rules.length=n) (hr:Rd w' w'.heap.size A (fl iU S.rules)) (hz:A=none->cap=0) (hA:∀g o,A=some ⟨g,o,none⟩->w.heap.size<=g) (hS:uf S) (hT:∀g o,A=some ⟨g,o,none⟩->S.rules≠[]->∃cr,af w' g 108 cr) :
  aA (w'.setCells b 67585 (aH (.slice A n cap) S.calls S.hits)) b { V with rf:=S }/\ag (λk=>k=b) w (w'.setCells b 67585 (aH (.slice A n cap) S.calls S.hits)):=by
 have hlt:=h.lt;obtain ⟨cs,A0,n0,cap0,h1,h2,_⟩:=h.ex;have k1:=h1.call hB;have hF:=ag.puts (T:=λk=>k=b) rfl (aH (.slice A n cap) S.calls S.hits) 67585 w' w' (ag.refl _ _);refine ⟨⟨_,A,n,cap,af.puts (w:=w) (cs:=#[]) (aH (.slice A n cap) S.calls S.hits) 67585 w' cs k1,h2.CR _ S,hn,(hr.NI hF (λg o e=>by have:=hA g o e;omega)).more hF.size,hz,λg o e _=>by have:=hA g o e;omega,hS,λg o e h=>(hT g o e h).imp λcr hc=>hF.blk hc (by have:=hA g o e;show ¬g=b;omega)⟩,(ag.of_below hB).trans hF⟩
def gX (V:Vm) (a n:Int) (call:Nat) (pr:Pg->Bool) (fd:Pg->Pg):Int×Vm :=
 if n<1\/a<0\/1024<=a\/1024 - a<n then (7,V) else if qR V a.toNat n.toNat pr=false then (9,V) else if rZ V.rf call=true then (60,V.ref call) else (0,(V.ref call).dD a.toNat n.toNat fd)
def dw (b:Nat) (V:Vm) (w w':World):Prop:=aA w' b V/\ag (λk=>k=b) w w'
def bK (V:Vm) (a n:Int) (call:Nat) (fr tk:Int):Int×Vm:=gX V a n call (λg=>g.kind==fr&&!g.bP) (λ_=>gW tk)
def st0:Nat->List Value->Option (List Value)
 | 0,l=>some l
 | n+1,.int .u8 z::r=>if z=0 then st0 n r else none
 | _+1,_=>none
def st1:List Value->Option (List Value)
 | .int .i64 k :: .bool false::r=>if k=0 then st0 64 r else none
 | _=>none
def stP:Nat->List Value->Option (List Value)
 | 0,l=>st1 l
 | d+1,l=>match stP d l with
  | some r=>stP d r
  | none=>none
theorem NK:∀(n:Nat) (l r:List Value),st0 n l=some r->l=List.replicate n (.int .u8 0)++r
 | 0,l,r,h=>by cases h;rfl
 | n+1,l,r,h=>by
  unfold st0 at h;split at h
  ·omega
  ·rename_i m z r' e
   obtain rfl:m=n:=zo;by_cases hz:z=0
   ·rw [if_pos hz] at h
    rw [hz,NK m r' r h,List.replicate_succ];rfl
   ·rw [if_neg hz] at h;cases h
  ·cases h
theorem aaj {l r:List Value} (h:st1 l=some r):l=qd (gW 0)++r:=by
 unfold st1 at h;split at h
 ·rename_i k r'
  by_cases hk:k=0
  ·rw [if_pos hk] at h
   rw [hk,NK 64 r' r h];rfl
  ·rw [if_neg hk] at h;cases h
 ·cases h
theorem EX:∀(d:Nat) (l r:List Value),stP d l=some r->l=fl qd (List.replicate (2 ^ d) (gW 0))++r
 | 0,l,r,h=>by
  rw [stP] at h;rw [aaj h];simp [fl]
 | d+1,l,r,h=>by
  rw [stP] at h;split at h
  ·rename_i r' h'
   have h1:=EX d l r' h';have h2:=EX d r' r h;rw [h1,h2,<-List.append_assoc,<-kC,List.replicate_append_replicate,show 2 ^ d+2 ^ d=2 ^ (d+1) by rw [Nat.pow_succ];omega]
  ·cases h
def stS:List Value->Option (List Value)
 | .bool false::r=>stP 10 r
 | _=>none
def iM:Vm:=⟨λ_=>gW 0,⟨[],λ_=>0,λ_=>0⟩⟩
theorem O9 {zc:Array Value} (h:stS zc.toList=some (aH zN (λ_=>0) (λ_=>0))) (v:Value):iA (eX (eX zc 0 [.bool true]) 67585 (aH v (λ_=>0) (λ_=>0))) v iM:=by
 unfold stS at h;split at h
 ·rename_i r hr
  have h1:=EX 10 r _ h;have hl:=mg Js (List.replicate (2 ^ 10) (gW 0));rw [List.length_replicate] at hl;have hlen:zc.size=67600:=by
   rw [<-Array.length_toList,hr,h1,List.length_cons,List.length_append,hl];rfl
  have rF:∀p,p<1024->∀i,i<66->zc[1+p*66+i]? = (qd (gW 0))[i]? := λp hp i hi=>by
   rw [<-Array.getElem?_toList,hr,h1,show 1+p*66+i=(p*66+i)+1 by omega,List.getElem?_cons_succ,List.getElem?_append_left (by rw [hl];omega),yV Js (gW 0) _ p (by rw [List.length_replicate];omega) i hi];congr 2;rw [List.getD_eq_getElem?_getD,List.getElem?_replicate,if_pos zo];rfl
  generalize hL:aH v (λ_=>0) (λ_=>0)=L at *;have hLl:L.length=15:=by rw [<-hL];rfl
  have hs1:(eX zc 0 [.bool true]).size=67600:=by rw [jq];exact hlen
  have hg:=jG L (eX zc 0 [.bool true]) 67585 (by rw [hLl];omega);have hg0:=jG [.bool true] zc 0 (by simp;omega);refine ⟨by rw [jq];exact hs1,?_,λp hp i hi=>?_,λi hi=>?_⟩
  ·rw [hg,if_neg zo,hg0,if_pos zs];rfl
  ·rw [hg,if_neg zo,hg0,if_neg (by simp only [List.length_cons,List.length_nil];omega)]
   exact rF p hp i hi
  ·rw [hg,if_pos zo,show 67585+i - 67585=i by omega,<-hL];rfl
 ·cases h
def aoY (w:World) (e:Ending) (w':World):Prop:=∃b,e= .returned (.tuple #[zP b,zI 0])/\aA w' b iM/\w.heap.size<=b/\Below w.heap.size w w'
def Pb (l:List Ru):Rf:=⟨l,λ_=>0,λ_=>0⟩
theorem NL {l:List Ru} (h:(iy l).2=0):uf (Pb l):=⟨h,λk _=>⟨Int.le_refl _,(by show (0:Int)<=1000000;decide)⟩,λk _=>rfl⟩
def vS (V:Vm) (l:List Ru):Vm:=if (iy l).2=0 then { V with rf:=Pb l } else V
def aO (V:Vm):Prop:=∀p,p<1024->0<=(V.pg p).kind/\(V.pg p).kind<=3
def jJ (p:Int):Bool:=decide (0<=p)&&decide (p<1024)&&decide (p % 16=0)
def Pg.dQ (g:Pg) (h:Bool):Pg:={ g with bP:=h }
theorem iA.zD {cs:Array Value} {v:Value} {V:Vm} (h:iA cs v V) {p:Nat} (hp:p<1024) (x:Bool):iA (cs.setIfInBounds (1+p*66+1) (.bool x)) v (V.gq p ((V.pg p).dQ x)):=by
 have hs:=h.size;have hg:∀i,(cs.setIfInBounds (1+p*66+1) (.bool x))[i]? = if 1+p*66+1=i then some (.bool x) else cs[i]? := λi=>by
  rw [Array.getElem?_setIfInBounds];by_cases e:1+p*66+1=i
  ·rw [if_pos e,if_pos e,if_pos zo]
  ·rw [if_neg e,if_neg e]
 refine ⟨by simp [hs],?_,λq hq i hi=>?_,λi hi=>?_⟩
 ·rw [hg,if_neg zo];exact h.made
 ·rw [hg]
  by_cases e:q=p
  ·subst e
   have rF:(V.gq q ((V.pg q).dQ x)).pg q=(V.pg q).dQ x:=by simp [Vm.gq]
   rw [rF];by_cases e1:i=1
   ·subst e1;rw [if_pos rfl];rfl
   ·rw [if_neg zo,h.page q hq i hi]
    unfold qd
    match i,e1 with
    | 0,_=>rfl
    | i+2,_=>rfl
  ·exact Jt
 ·rw [hg,if_neg zo];exact h.rf i hi
theorem aA.zD {w:World} {b:Nat} {V:Vm} (h:aA w b V) {p:Nat} (hp:p<1024) (x:Bool):aA (w.setCell ⟨b,1+p*66+1,none⟩ (.bool x)) b (V.gq p ((V.pg p).dQ x))/\ag (λk=>k=b) w (w.setCell ⟨b,1+p*66+1,none⟩ (.bool x)):=by
 obtain ⟨cs,A,n,cap,h1,h2,h3,h4,h5,h6,h7,h8⟩:=h.ex;have hF:ag (λk=>k=b) w (w.setCell ⟨b,1+p*66+1,none⟩ (.bool x)):=ag.setCell (T:=λk=>k=b) (p:=⟨b,1+p*66+1,none⟩) (ag.refl _ _) (λ_=>rfl) _;exact ⟨⟨_,A,n,cap,h1.aM _ _,h2.zD hp x,h3,(h4.keepR hF (λg' o e h=>h6 g' o e h)).more hF.size,h5,h6,h7,λg o e h=>(h8 g o e h).imp λcr hc=>hF.blk hc (h6 g o e h)⟩,hF⟩
def dY (V:Vm) (p:Int):Int×Vm:=if jJ p=false then (7,V) else if (V.pg p.toNat).bP=true then (8,V) else gX V p 16 5 (λg=>g.kind==2) (λg=>g.dQ true)
end Go.Pol
namespace Go.Proofs.YtlgcpjhimomiaaaGreat
open Go Go.Proofs Go.RowKit Go.Pol Tryz
attribute [local go_sem] Oper.semAt_some aC au aB ai
theorem agG:(prog.info? 108).map (λi=>(i.zero,i.size,i.bytes))=some (some (.agg #[zI 0,zI 0,zI 0,zI 0]),4,32):=zk
theorem dP:(prog.info? 58).map (·.size)=some 15:=zk
theorem BK:∃i0,prog.info? 108=some i0/\i0.zero=some (.agg #[zI 0,zI 0,zI 0,zI 0])/\i0.size=4/\i0.bytes=32:=by
 obtain ⟨i0,h⟩:=info_parts agG;exact ⟨i0,h⟩
theorem Nz (A:Option Addr) (n c:Nat) (w:World):(binOp .eql 29 (.slice A n c) zN).run prog w= .ok (.bool A.isNone) w:=by
 simp only [binOp];simp [Op.equal,Op.maxDepth,run_equalIn_slice_nil w 9999 _ _ A n c underlying29]
theorem aiH {P:Prop} (h:P:=by
 have hl:l=[]:=by
  cases l with
  | nil=>rfl
  | cons x r =>
   obtain ⟨b,o,e,_⟩:=hr 0 (by rw [mg jY];simp);cases e
 subst hl;subst hn;go_enter func49,ntmps49;go_wp2_with fail;go_ret;exact ⟨_,rfl,none,0,rfl,λk hk=>absurd hk (by simp [fl]),Nat.le_refl _,by unfold maxLen;omega,λb o e=>(by cases e),⟨λ_=>rfl,λg o e=>(by cases e)⟩,Below.refl _ _⟩):P:=h
theorem vB (A:Option Addr) (n cap:Nat) (l:List Ru) (w:World) (hn:l.length=n) (hm:n<=1000) (hz:A=none->cap=0) (hr:Rd w w.heap.size A (fl iU l)) :
  Calls prog 49 #[.slice A n cap] w λe w'=>∃v,e= .returned v/\AR l w v w':=by
 obtain ⟨i0,hi,hz0,hz1,hz2⟩:=BK;have heq:=Nz;cases A with
 | none =>
  have hc:=hz rfl;subst hc;exact aiH
 | some ad =>
  have hnews:=hr.src ad rfl;have hb1:=aQ w (.cells #[] 108);have hnews':∀(j:Nat) (u:Value),(fl iU l)[j]? = some u->(w.alloc (.cells #[] 108)).cell? (ad.add j)=some u:=λj u hu=>by rw [World.cell?_alloc_some _ _ _ (by rw [hnews j u hu];rfl)];exact hnews j u hu
  go_enter func49,ntmps49
  go_wp2_with (refine wpList_append_own _ rfl (.tmp 5) (.tmp 6) 29 rfl w.heap.size 108 i0 (.agg #[zI 0,zI 0,zI 0,zI 0]) 4 32 underlying29 hi hz0 hz1 hz2 rfl zd _ 0 [] rfl (World.ownsRow_made w _ _ (Nat.le_refl _) (by unfold maxLen;omega) rfl) ad n cap (fl iU l) rfl (by rw [mg jY,hn]) hnews' (QN l) (by unfold maxLen;omega) zo zs ?_;intro v' w3 hown' hgrow _)
  go_ret;have hown2:w3.ownsRow w.heap.size 108 4 v' l.length (fl iU l):=by rw [hn];simpa using hown'
  obtain ⟨A',cap',rfl,h1,h2,h3,h4,h5,h6⟩:=abD hown2;exact ⟨_,rfl,A',cap',rfl,h1,h2,h3,h4,⟨h5,λg o e _=>h6 g o e⟩,hb1.grown hgrow zs (λj hj=>by cases hj;exact Nat.le_refl _)⟩
def DR (l:List Ru) (w:World) (e:Ending) (w':World):Prop :=
 ((iy l).2≠0/\e= .returned (.tuple #[ic zN (λ_=>0) (λ_=>0),zI (iy l).2])/\Below w.heap.size w w') \/
 ((iy l).2=0/\∃v,e= .returned (.tuple #[ic v (λ_=>0) (λ_=>0),zI 0])/\AR l w v w')
theorem Jl (A:Option Addr) (n cap:Nat) (l:List Ru) (w:World) (hn:l.length=n) (hm:n<=1000) (hz:A=none->cap=0) (hr:Rd w w.heap.size A (fl iU l)) :
  Calls prog 60 #[.agg #[.slice A n cap]] w (DR l w):=by
 have HC:=ae (λW h=>za A n cap l W hn h);have HK:=ae (λW h=>vB A n cap l W hn hm hz h);have hb0:=aQ w (.cells #[.slice A n cap] 31);have k0:=af.new w 31 #[.slice A n cap];have hdef:∀e w',DR l w e w'↔DR l w e w':=λ_ _=>Iff.rfl
 unfold DR at hdef;obtain ⟨S,hS⟩:=ah (DR l w);rw [hS];have hS1:Hid (∀(h:(iy l).2≠0) w',Below w.heap.size w w'->S (.returned (.tuple #[ic zN (λ_=>0) (λ_=>0),zI (iy l).2])) w'):=ae (λh w' hb=>by rw [<-hS];exact .inl ⟨h,rfl,hb⟩);have hS2:Hid (∀(h:(iy l).2=0) v w',AR l w v w'->S (.returned (.tuple #[ic v (λ_=>0) (λ_=>0),zI 0])) w'):=ae (λh v w' hb=>by rw [<-hS];exact .inr ⟨h,v,rfl,hb⟩);clear hS hdef;generalize hR:iy l=R at *;obtain ⟨ri,re⟩:=R;simp only at HC hS1 hS2;clear hR hn hz;obtain ⟨s,hs⟩:=ah (w.heap.size);have hs':=ae hs;have hb1:=hb0.alloc zs (.cells (aH zN (λ_=>0) (λ_=>0)).toArray 58);have k1:=k0.alloc (.cells (aH zN (λ_=>0) (λ_=>0)).toArray 58);have b1:=af.new (w.alloc (.cells #[.slice A n cap] 31)) 58 (aH zN (λ_=>0) (λ_=>0)).toArray;rw [World.size_alloc,hs] at b1;rw [hs] at k1;unfold aH at b1 k1 hb1;go_enter func60,ntmps60;go_upto_region 1 with fail
 generalize (w.alloc (.cells #[.slice A n cap] 31)).alloc _=w1 at *;have r1:=hr.fB hb1;have c1:=k1.cell;clear k0 hb0 hr hs;go_wp2_with fail;refine (HC.out _ r1).zr λw2 hb2=>?_
 have r2:=r1.fB hb2;obtain ⟨k2,b2⟩:=bY hb2 k1 b1;have c2:=k2.cell;have B2:=hb1.zt hb2;clear r1 c1 k1 b1 hb1 hb2;by_cases he:re=0
 ·subst he
  go_wp2_with fail;refine (HK.out _ r2).mono ?_;rintro e w3 ⟨v,rfl,hv⟩;obtain ⟨A3,c3,rfl,d1,d2,d3,d4,d5,hb3⟩:=hv;have b3:=b2.call hb3
  go_wp2_with (refine wpList_store_mid rfl 58 (.tmp 2) (.tmp 19) rfl (s+1) 0 (aH (.slice A3 l.length c3) (λ_=>0) (λ_=>0)).toArray rfl rfl (dL b3 0 15 zs) dP (Go.all_oneCell_toArray (j3 rfl _ _)) ?_)
  have k4:=af.puts (g:=s+1) (t:=58) (w:=w3) (cs:=#[]) (aH (.slice A3 l.length c3) (λ_=>0) (λ_=>0)) 0 w3 _ b3;rw [eH (by rfl)] at k4;have fQ:=ag.puts (T:=λk=>k=s+1) rfl (aH (.slice A3 l.length c3) (λ_=>0) (λ_=>0)) 0 w3 w3 (ag.refl _ _);generalize (w3).setCells (s+1) 0 (aH (.slice A3 l.length c3) (λ_=>0) (λ_=>0))=w4 at *;have hl4:=run_loadVar_mid (P:=prog) w4 (s+1) 0 58 (aH (.slice A3 l.length c3) (λ_=>0) (λ_=>0)) _ (λj v hj=>by rw [Nat.zero_add,k4.cell];simpa using hj) underlying58 rfl dP;have awZ:s+1<w2.heap.size:=b2.lt;have hd4:Rd w4 w4.heap.size A3 (fl iU l):=by
   intro k hk;obtain ⟨b,o,e,hb,hc⟩:=d1 k hk;have hw2:=d4 b o e;exact ⟨b,o,e,by have:=fQ.size;omega,fQ.cell hc (by show ¬b=s+1;omega)⟩
  have hB4:Below w.heap.size w2 w4:=(hb3.mono (by have:=B2.size;exact this)).trans (fQ.below (by have:=hb3.size;have:=B2.size;omega) (λk hk e=>by have:=hs'.out;omega));refine bodyPost_ret (v:=.tuple #[ic (.slice A3 l.length c3) (λ_=>0) (λ_=>0),zI 0]) ?_ rfl ?_
  ·exact gQ results60 rfl hl4
  exact hS2.out zs _ _ ⟨A3,c3,rfl,hd4,d2,d3,λb o e=>by have:=d4 b o e;have:=B2.size;omega,⟨d5.1,λg o e h=>(d5.2 g o e h).imp λcr hcr=>fQ.blk hcr (by have:=d4 g o e;show ¬g=s+1;omega)⟩,B2.trans hB4⟩
 ·have he':=gJ he
  have hS3:=ae (hS1.out he)
  go_wp2_with (refine wpList_store_mid rfl 58 (.tmp 2) (.tmp 13) rfl (s+1) 0 (aH zN (λ_=>0) (λ_=>0)).toArray rfl rfl (dL b2 0 15 zs) dP (Go.all_oneCell_toArray (j3 rfl _ _)) ?_)
  have k4:=af.puts (g:=s+1) (t:=58) (w:=w2) (cs:=#[]) (aH zN (λ_=>0) (λ_=>0)) 0 w2 _ b2;rw [eH (by rfl)] at k4;have fQ:=ag.puts (T:=λk=>k=s+1) rfl (aH zN (λ_=>0) (λ_=>0)) 0 w2 w2 (ag.refl _ _);generalize (w2).setCells (s+1) 0 (aH zN (λ_=>0) (λ_=>0))=w4 at *;have hl4:=run_loadVar_mid (P:=prog) w4 (s+1) 0 58 (aH zN (λ_=>0) (λ_=>0)) _ (λj v hj=>by rw [Nat.zero_add,k4.cell];simpa using hj) underlying58 rfl dP;have hB4:Below w.heap.size w2 w4:=fQ.below (by have:=B2.size;omega) (λk hk e=>by have:=hs'.out;omega);refine bodyPost_ret (v:=.tuple #[ic zN (λ_=>0) (λ_=>0),zI re]) ?_ rfl ?_
  ·exact gQ results60 rfl hl4
  exact hS3.out _ (B2.trans hB4)
open Go.Shelf
theorem VJ (x:Ru) (lim:Int) (w:World) :
  Calls prog 201 #[QM x,zI lim] w λe w'=>e= .returned (.func (.func 213) #[] #[zP w.heap.size,zP (w.heap.size+1)]) /\
   w'=(w.alloc (.cells #[zI x.1,zI x.2.1,zI x.2.2.1,zI x.2.2.2] 108)).alloc (.cells #[zI lim] 3):=by
 obtain ⟨k,f,e,t⟩:=x;go_enter func201,ntmps201
 go_wp2
 go_ret;exact ⟨rfl,rfl⟩
theorem Me:∀args w,(callFunc 213 args).run prog w= .ok (.enter 213 args) w:=enters_of func213 zk rfl
theorem aiI {P:Prop} (h:P:=by
 simp only at hgo;rw [<-hnv.out] at hgo;obtain ⟨hd0,hcf,hnx,aw0⟩:=hgo;have hL2:Hid (CL=pre++nv::nJ (k,f,e,t) lim (d - 1) (i+1)):=ae (by rw [hL.out,hcf]);have aoN:=ae hnx;clear hcf hnx;have hwn:IntKind.i64.wrap (nv+e)=nv+e:=by rw [IntKind.wrap_i64];omega
 obtain ⟨fn,tmps,assign,body,hy,qc⟩:=hY (m - 1) pre nv wr hJs (NA hL2.out);clear hL hY
 gi_wp2
 refine qc.mono ?_;rintro e9 W3 (⟨rfl,hJ3,oQ⟩|⟨rfl,hJx3⟩)
 ·have kC1:=oQ.blk kB1 zs
  have kC2:=oQ.blk kB2 zs;have c3:=kC1.cell
  gi_wp2
  go_roundw
  case rel=>exact ⟨i+1,d - 1,nv+e,pre++[nv],by go_num,by go_num,zo,ae aoN.out,ae (by have:=hd.out;omega),zo,hJ3,kC1,kC2,ae (by rw [hL2.out];simp)⟩
  case measure=>exact zm
 ·gi_wp2
  refine bodyPost_ret (results_none rfl _ _ _) rfl ?_;exact ⟨⟨_,rfl⟩,.inr ⟨pre++[nv],NA hL2.out,hJx3⟩⟩):P:=h
theorem aiJ {P:Prop} (h:P:=by
 have hL2:Hid (pre=CL):=ae (by rw [hL.out,hE,List.append_nil]);clear hE
 gi_wp2
 go_end0
 exact ⟨⟨_,rfl⟩,.inl (by rw [<-hL2.out];exact hJs)⟩):P:=h
theorem Ry (k f e t lim:Int) (B1 B2:Nat) (w:World) (hx:fo (k,f,e,t)=0) (hl:0<=lim/\lim<=1000000) (hB1:af w B1 108 #[zI k,zI f,zI e,zI t]) (hB2:af w B2 3 #[zI lim]) :
  yR prog 213 #[zP B1,zP B2] (λv:Int=>#[zI v]) (λ_=>False) (λk=>k=B1\/k=B2) (AO (k,f,e,t) lim) w:=by
 intro m l J Jx W hW hJ hJx hY h0;have kB1:=hW.blk hB1 zs;have kB2:=hW.blk hB2 zs;obtain ⟨_,h1,h2,h3,h4⟩:=jI.1 hx;simp only at h1 h2 h3 h4;have hx':=ae hx;have h4':=ae h4;have hC0:Hid (AO (k,f,e,t) lim=[]++nJ (k,f,e,t) lim (lim.toNat+2) 0):=ae rfl;generalize AO (k,f,e,t) lim=CL at *;clear h4 hx hB1 hB2 hW;refine callsIn_of_wp func213 rfl trivial ?_ rfl;simp only [ntmps213,List.size_toArray,List.length_cons,List.length_nil,Nat.reduceAdd,Nat.reduceSub,Array.replicate_succ,Array.replicate_zero,List.push_toArray,List.append_toArray,List.nil_append,List.cons_append];obtain ⟨c1,c2⟩:=bB kB1 kB2
 gi_wp2
 clear c1 c2
 gi_loopw [4,5] (λu v wr=>∃(i d:Nat) (nv:Int) (pre:List Int),u = zI nv/\v = zI i/\0<=nv/\Hid (nv=f+(i:Int)*e)/\Hid (lim+2<=(d:Int)+i)/\(i:Int)<=lim+1/\J pre wr/\af wr B1 108 #[zI k,zI f,zI e,zI t]/\af wr B2 3 #[zI lim]/\Hid (CL=pre++nJ (k,f,e,t) lim d i)) (λ_ v _=>(lim+2 - intOf v).toNat)
 case atStart=>exact ⟨0,lim.toNat+2,f,[],rfl,rfl,zo,ae zo,ae zo,zo,h0,kB1,kB2,hC0⟩
 case round =>
  clear hC0 kB1 kB2 h0;obtain ⟨i,d,nv,pre,rfl,rfl,aw1,hnv,hd,hil,hJs,kB1,kB2,hL⟩:=hrel;obtain ⟨c1,c2⟩:=bB kB1 kB2;by_cases g1:nv<=lim
  ·have d1:=bU g1
   by_cases g2:t=0
   ·have d2:=Hd g2
    have hgo:=IM (x:=(k,f,e,t)) hx'.out hd.out (by have:=hnv.out;rw [<-this];exact g1) (.inl g2);clear g2;exact aiI
   ·have d2:=lV g2
    by_cases g3:(i:Int)<t
    ·have d3:=bU g3
     have hgo:=IM (x:=(k,f,e,t)) hx'.out hd.out (by have:=hnv.out;rw [<-this];exact g1) (.inr g3);exact aiI
    ·have d3:=bV g3
     have hE:=FX (x:=(k,f,e,t)) (lim:=lim) (d:=d) (i:=i) (by rintro ⟨_,h|h⟩ <;> simp only at h <;> omega);exact aiJ
  ·have d1:=bV g1
   have hE:=FX (x:=(k,f,e,t)) (lim:=lim) (d:=d) (i:=i) (by rintro ⟨h,_⟩;simp only at h;rw [<-hnv.out] at h;omega);exact aiJ
theorem agI:(prog.info? 4).map (λi=>(i.zero,i.size,i.bytes))=some (some (.bool false),1,1):=zk
theorem Mg:∃i0,prog.info? 4=some i0/\i0.zero=some (.bool false)/\i0.size=1/\i0.bytes=1:=by
 obtain ⟨i0,h⟩:=info_parts agI;exact ⟨i0,h⟩
theorem alO (lim:Nat) (hl:lim<=1000000) (W:World):(Instr.makeSlice 236 (zI ((lim:Int)+1)) (zI ((lim:Int)+1))).run prog W= .ok (.slice (some ⟨W.heap.size,0,none⟩) (lim+1) (lim+1)) (W.alloc (.cells (Array.replicate (lim+1) (.bool false)) 4)):=by
 obtain ⟨i0,hi0,hz0,hz1,hz2⟩:=Mg;have h:=UG (P:=prog) 236 4 i0 (.bool false) underlying236 hi0 hz0 rfl hz1 .i64 .i64 (lim+1) (by rw [hz2];omega) zo W
 rwa [show ((lim+1:Nat):Int)=(lim:Int)+1 by omega] at h
theorem Mh (A:Option Addr) (n cap:Nat) (l:List Ru) (k:Int) (lim:Nat) (w:World) (hn:l.length=n) (hn1:n<=1000) (hok:∀x∈l,fo x=0) (hl:lim<=1000000) (hr:Rd w w.heap.size A (fl iU l)) :
  Calls prog 170 #[.agg #[.slice A n cap],zI k,zI lim] w (YS l k lim w):=by
 refine bL func170 rfl ?_;simp only [ntmps170,List.size_toArray,List.length_cons,List.length_nil,Nat.reduceAdd,Nat.reduceSub,Array.replicate_succ,Array.replicate_zero,List.push_toArray,List.append_toArray,List.nil_append,List.cons_append];have k0:=af.new w 31 #[.slice A n cap];have c0:=k0.cell;have hw1:IntKind.i64.wrap ((lim:Int)+1)=((lim+1:Nat):Int):=by rw [IntKind.wrap_i64];omega
 have hmk:=alO lim hl;go_upto_region 2 with fail
 obtain ⟨s,hs⟩:=ah (w.heap.size);have hb2:Below s w (((w.alloc (.cells #[.slice A n cap] 31)).alloc (.cells (Array.replicate (lim+1) (.bool false)) 4)).alloc (.cells #[.slice (some ⟨w.heap.size+1,0,none⟩) (lim+1) (lim+1)] 236)):=by
  rw [<-hs];exact ((aQ w _).alloc zs _).alloc (by simp;omega) _
 have kP:=(k0.alloc (.cells (Array.replicate (lim+1) (.bool false)) 4)).alloc (.cells #[.slice (some ⟨w.heap.size+1,0,none⟩) (lim+1) (lim+1)] 236);have kM:=(af.new (w.alloc (.cells #[.slice A n cap] 31)) 4 (Array.replicate (lim+1) (.bool false))).alloc (.cells #[.slice (some ⟨w.heap.size+1,0,none⟩) (lim+1) (lim+1)] 236);have kO:=af.new ((w.alloc (.cells #[.slice A n cap] 31)).alloc (.cells (Array.replicate (lim+1) (.bool false)) 4)) 236 #[.slice (some ⟨w.heap.size+1,0,none⟩) (lim+1) (lim+1)];simp only [World.size_alloc,hs] at hb2 kP kM kO ⊢;generalize ((w.alloc (.cells #[.slice A n cap] 31)).alloc (.cells (Array.replicate (lim+1) (.bool false)) 4)).alloc (.cells #[.slice (some ⟨s+1,0,none⟩) (lim+1) (lim+1)] 236)=W2 at *;have r0:Rd w s A (fl iU l):=by rw [<-hs];exact hr
 have hs':=ae hs;have hn':=ae hn;have hok':=ae hok;have hI0:nR s lim A n cap (λm=>oP (l.take 0) k m) [] w W2:=⟨_,kM,zs,λm hm=>by rw [Array.getElem?_replicate,if_pos zo];simp [oP],kP,kO,λD h=>(by cases h),List.Pairwise.nil,λD h=>(by cases h),hb2⟩;have c2:=kP.cell;clear k0 c0 hr hs hmk hw1 kP kM kO hb2 hn hok;go_wp2_with fail;refine wp_loop (λa wr=>∃(j:Nat) (Ds:List Nat) (u9 u10 u18 u19 u20 u21 u22 u23 u24 u25 u26 u27 u28 u29 u30 u31 u32 u33:Value),a={ tmps:=#[.agg #[.slice A n cap],zI k,zI lim,.pointer (some ⟨s,0,none⟩),undef,undef,.slice none 0 0,.pointer (some ⟨s+2,0,none⟩),undef,u9,u10,zI lim,zI ((lim:Int)+1),.slice (some ⟨s+1,0,none⟩) (lim+1) (lim+1),.pointer (some ⟨s,0,none⟩),.slice A n cap,zI n,zI j,u18,u19,u20,u21,u22,u23,u24,u25,u26,u27,u28,u29,u30,u31,u32,u33],defers:=Ds.map dB }/\j<=n/\nR s lim A n cap (λm=>oP (l.take j) k m) Ds w wr) (λa _=>n - (intOf (a.tmps.getD 17 undef)).toNat) ?_ ?_
 ·refine ⟨0,[],_,_,_,_,_,_,_,_,_,_,_,_,_,_,_,_,_,_,rfl,zo,hI0⟩
 ·rintro a wr ⟨j,Ds,u9,u10,u18,u19,u20,u21,u22,u23,u24,u25,u26,u27,u28,u29,u30,u31,u32,u33,rfl,hj,hI⟩
  by_cases hlt:j<n
  ·have hlt':decide ((j:Int)<(n:Int))=true:=by simpa using hlt
   have hI':=hI;obtain ⟨cs,kM,hcs,hcm,kP,kO,hDs,Mf,hDl,hB⟩:=hI;have hsw:=kO.lt;have hPc:=kP.cell;obtain ⟨b,o,rfl,hbl,hc⟩:=(r0.below hB).elem jY zo qa (k:=j) (by have:=hn'.out;omega);have hmem:l.getD j qa∈l:=by rw [List.getD_eq_getElem?_getD,List.getElem?_eq_getElem (by have:=hn'.out;omega)];exact List.getElem_mem _
   have aiK:=hok'.out _ hmem;have hts:l.take (j+1)=l.take j++[l.getD j qa]:=by rw [List.take_add_one,List.getElem?_eq_getElem (by have:=hn'.out;omega),List.getD_eq_getElem?_getD,List.getElem?_eq_getElem (by have:=hn'.out;omega)];rfl
   have hsn:=ae (λm:Int=>by have:=ZK (l.take j) (l.getD j qa) k m;rw [<-hts] at this;exact this);generalize l.getD j qa=x at *;obtain ⟨xk,f,e,t⟩:=x;have x0:=hc 0 _ rfl;have x1:=hc 1 _ rfl;have x2:=hc 2 _ rfl;have x3:=hc 3 _ rfl;simp only [Nat.add_zero] at x0;have hin:(j:Int)<(n:Int):=zo;have kx:=af.new wr 108 #[zI xk,zI f,zI e,zI t];have Jm:ag (λ_=>False) wr (wr.alloc (.cells #[zI xk,zI f,zI e,zI t] 108)):=(ag.refl _ _).alloc _;have cx:=kx.cell;have hIx:=hI'.far Jm (λ_ h=>h.elim);have VK:=ae aiK;have hI2:=ae hIx;have aoP:=ae hDl;clear hc hmem hts hcs hcm hDs Mf hDl hB kM kO hI' aiK hIx;by_cases hk:xk=k
   ·subst hk
    have hk':(xk != xk)=false:=by simp
    have HC:=ae (λW=>VJ (xk,f,e,t) (lim:Int) W);simp only at HC;go_wp2_with fail;refine (HC.out _).mono ?_;rintro e9 w3 ⟨rfl,rfl⟩;go_wp2_with fail;obtain ⟨q,hq⟩:=ah (wr.heap.size);have kB1:=(af.new (wr.alloc (.cells #[zI xk,zI f,zI e,zI t] 108)) 108 #[zI xk,zI f,zI e,zI t]).alloc (.cells #[zI lim] 3);have kB2:=af.new ((wr.alloc (.cells #[zI xk,zI f,zI e,zI t] 108)).alloc (.cells #[zI xk,zI f,zI e,zI t] 108)) 3 #[zI lim];have oQ:ag (λ_=>False) (wr.alloc (.cells #[zI xk,zI f,zI e,zI t] 108)) (((wr.alloc (.cells #[zI xk,zI f,zI e,zI t] 108)).alloc (.cells #[zI xk,zI f,zI e,zI t] 108)).alloc (.cells #[zI lim] 3)):=((ag.refl _ _).alloc _).alloc _;have hI3:=hI2.out.far oQ (λ_ h=>h.elim);have Rz:(((wr.alloc (.cells #[zI xk,zI f,zI e,zI t] 108)).alloc (.cells #[zI xk,zI f,zI e,zI t] 108)).alloc (.cells #[zI lim] 3)).heap.size=q+3:=by simp [hq]
    simp only [World.size_alloc,hq] at kB1 kB2 ⊢;generalize ((wr.alloc (.cells #[zI xk,zI f,zI e,zI t] 108)).alloc (.cells #[zI xk,zI f,zI e,zI t] 108)).alloc (.cells #[zI lim] 3)=W3 at *;have hDq:∀D∈Ds,D<q:=λD hD=>by have:=aoP.out D hD;omega
    have hsq:s+2<q:=zo;have hseq:=Ry xk f e t lim (q+1) (q+2) W3 VK.out ⟨zo,zo⟩ kB1 kB2;have acK:=ae (λm:Int=>QP (x:=(xk,f,e,t)) VK.out (lim:=lim) zo m);have hpos:=ae (λ(m:Int) h=>QO (x:=(xk,f,e,t)) VK.out (n:=m) h);clear HC hI2 Jm kx cx x0 x1 x2 x3 c2 hq hsw hin;refine Il (gf:=213) (lb:=#[zP (q+1),zP (q+2)]) rfl Me hseq (λ_=>rfl) (λk h=>h.elim) (λk h=>by rw [Rz];rcases h with rfl|rfl <;> omega)
     (λpre W=>nR s lim (some ⟨b,o,none⟩) n cap (λm=>oP (l.take j) xk m||decide ((m:Int)∈pre)) Ds w W) (λ_ _ _=>False)
     (λpre A B h hf=>h.far hf (λk h=>by rw [Rz] at h;rcases h with h|h|h;exact h.elim;exact ⟨zo,λhD=>by have:=hDq _ hD;omega⟩;exact ⟨zo,λhD=>by have:=hDq _ hD;omega⟩))
     (λ_ _ _ _ h _=>h.elim) (hI3.congr (λq _=>by simp))
     (λ_ v a' W=>a'={ tmps:=#[.agg #[.slice (some ⟨b,o,none⟩) n cap],zI xk,zI lim,.pointer (some ⟨s,0,none⟩),undef,undef,.slice none 0 0,.pointer (some ⟨s+2,0,none⟩),undef,.pointer (some ⟨q,0,none⟩),zI v,zI lim,zI ((lim:Int)+1),.slice (some ⟨s+1,0,none⟩) (lim+1) (lim+1),.pointer (some ⟨s,0,none⟩),.slice (some ⟨b,o,none⟩) n cap,zI n,zI j,.bool true,.pointer (some ⟨b,o+j*4,none⟩),.agg #[zI xk,zI f,zI e,zI t],.pointer (some ⟨q,0,none⟩),zI xk,zI xk,.bool false,.agg #[zI xk,zI f,zI e,zI t],zI lim,.func (.func 213) #[] #[.pointer (some ⟨q+1,0,none⟩),.pointer (some ⟨q+1+1,0,none⟩)],zI v,u29,u30,u31,u32,u33],defers:=[] })
     (λ_ _ _ _ _ h _=>h) ?assign ?body ?done ?stop
    case assign =>
     intro m l' v W C hs hC
     gi_wp2
     exact hC _ _ (ag.refl _ _) rfl
    case body =>
     rintro m l' pre v a' _ W hs hI rfl hpre _ _;have xN:v∈AO (xk,f,e,t) lim:=hpre.subset zs;obtain ⟨hv1,hv2⟩:=(acK.out v).1 xN;have hv3:=hpos.out v hv2;obtain ⟨vn,rfl⟩:∃vn:Nat,v=(vn:Int):=⟨v.toNat,zo⟩;have hvl:vn<=lim:=zo;have hI':=hI.mark hvl (g:=λm=>oP (l.take j) xk m||decide ((m:Int)∈pre++[(vn:Int)])) (λq _=>by
      by_cases e:q=vn
      ·subst e;simp
      ·have:¬(q:Int)=(vn:Int):=zo
       rw [if_neg e];simp [this])
     have aoQ:=ae hI';obtain ⟨cs,kM,hcs,hcm,kP,kO,_,_,_,_⟩:=hI;have cO:=kO.cell;have fM:=kM.frozen;have cM:=(kM.cell vn).trans (hcm vn hvl);have aw2:(vn:Int)<(lim:Int)+1:=zo;generalize (oP (l.take j) xk vn||decide ((vn:Int)∈pre))=B0 at cM;clear hI' hcm xN hpre hcs kP hv2
     gi_wp2
     exact ⟨ag.setCell (T:=λk=>¬((k=q+1\/k=q+2)\/k=q+3\/k=q+3+1)) (p:=⟨s+1,vn,none⟩) (ag.refl _ _) (λ_=>by show ¬((s+1=q+1\/s+1=q+2)\/s+1=q+3\/s+1=q+3+1);omega) _,aoQ.out⟩
    case done =>
     rintro W hs hI hd;rw [Rz] at hd ⊢;have hI4:=(hI.more hd zo (λhD=>by have:=hDq _ hD;omega)).congr (g:=λm:Nat=>oP (l.take (j+1)) xk m) (λq hq=>by
      rw [hsn.out];congr 1;rw [Bool.eq_iff_iff,decide_eq_true_eq,acK.out];simp;omega)
     have hI5:=ae hI4;clear hI4 hI hd;go_wp2_with fail;rw [show ((j:Int)+1)=((j+1:Nat):Int) by omega];refine ⟨⟨j+1,(q+3)::Ds,_,_,_,_,_,_,_,_,_,_,_,_,_,_,_,_,_,_,rfl,zo,hI5.out⟩,?_⟩;simp [intOf];omega
    case stop=>exact λ_ _ _ _ _ h _=>h.elim
   ·have hk':=gJ hk
    have hI3:=hI2.out.congr (g:=λm:Nat=>oP (l.take (j+1)) k m) (λq _=>by rw [hsn.out];simp [hk]);have aoS:=ae hI3;clear hI3 hk;go_wp2_with fail;refine ⟨⟨j+1,Ds,⟨by go_num,rfl⟩,zo,aoS.out⟩,?_⟩;simp only [intOf];omega
  ·obtain rfl:j=n:=zo
   have hlt':decide ((j:Int)<(j:Int))=false:=by simp
   obtain ⟨cs,kM,hcs,hcm,kP,kO,hDs,Mf,hDl,hB⟩:=hI;have cO:=kO.cell;have hl':l.take j=l:=List.take_of_length_le (by have:=hn'.out;omega);rw [hl'] at hcm;have hsw:=kO.lt;have hfin:=ae (And.intro hDs (And.intro Mf hDl));have hM:=ae (And.intro kM (And.intro hcs hcm));clear hl' hDs Mf hDl kM hcs hcm;go_wp2_with fail;refine DT Ds wr (λD hD=>(hfin.out.1 D hD).2) hfin.out.2.1 (λw9 hF=>⟨by simp [results,results170,go_sem];rfl,?_⟩);exact ⟨s+1,cs,rfl,hF.blk hM.out.1 (λh=>by have:=(hfin.out.1 _ h).1;omega),hM.out.2.1,hM.out.2.2,by rw [hs'.out];exact hB.trans (hF.below zo (λk hk h=>by have:=(hfin.out.1 _ h).1;omega))⟩
theorem aad (A:Option Addr) (n cap:Nat) (l:List Ru) (k:Int) (lim:Nat) (w:World) (hn:l.length=n) (hn1:n<=1000) (hok:∀x∈l,fo x=0) (hl:lim<=1000000) (hr:Rd w w.heap.size A (fl iU l)) :
  zK 128 #[.agg #[.slice A n cap],zI k,zI lim] w (zI (oh l k lim)):=by
 have hb0:=aQ w (.cells #[.slice A n cap] 31);have k0:=af.new w 31 #[.slice A n cap];have c0:=k0.cell;have r0:=hr.fB hb0;have HM:=Mh A n cap l k lim _ hn hn1 hok hl r0;have hz:=ae (NC hok k lim);have hbd:=ae (Gl l k);generalize oh l k lim=R at *;unfold YS at HM;have HM':=ae HM;clear HM r0 hr hok hn k0;go_enter func128,ntmps128;go_wp2_with fail;refine HM'.out.mono ?_;rintro e w1 ⟨g,cs,rfl,kM,hcs,hcm,hb1⟩;have B1:=hb0.zt hb1;have hcm':=ae hcm;clear HM' hb0 hb1 c0 hcm hcs;go_wp2_with fail
 go_loopw [6,14] (λu v wr=>∃(i:Nat) (c:Int),i<=lim+1/\u = zI c/\v = zI i/\Hid (c=wM l k i)/\wr=w1) (λ_ v _=>lim+1 - (intOf v).toNat)
 case atStart=>exact ⟨0,0,zo,rfl,rfl,ae rfl,rfl⟩
 case round =>
  obtain ⟨i,c,hi,rfl,rfl,hc,hw⟩:=hrel;have hw':=hw.symm;clear hw;subst hw';have hbc:=hbd.out i;rw [<-hc.out] at hbc;by_cases hlt:i<lim+1
  ·have hlt':decide ((i:Int)<(lim:Int)+1)=true:=by simp;omega
   have hin:(i:Int)<(lim:Int)+1:=zo;have cM:=(kM.cell i).trans (hcm'.out i zo);have hst:Hid (wM l k (i+1)=c+if oP l k (i:Int)=true then 1 else 0):=ae (by rw [wM,hc.out]);cases hv:oP l k (i:Int) with
   | true =>
    rw [hv] at cM;have dx:Hid (c+1=wM l k (i+1)):=ae (by rw [hst.out,hv];simp);clear hst hv;go_wp2_with fail;go_roundw
    case rel=>exact ⟨i+1,c+1,zo,rfl,by go_num,dx,trivial⟩
    case measure=>exact zm
   | false =>
    rw [hv] at cM;have dx:Hid (c=wM l k (i+1)):=ae (by rw [hst.out,hv];simp);clear hst hv;go_wp2_with fail;go_roundw
    case rel=>exact ⟨i+1,c,zo,rfl,by go_num,dx,trivial⟩
    case measure=>exact zm
  ·obtain rfl:i=lim+1:=zo
   have hlt':decide (((lim+1:Nat):Int)<(lim:Int)+1)=false:=by simp
   have hcR:c=R:=by rw [hc.out,hz.out]
   subst hcR;go_wp2_with fail;go_ret;exact ⟨rfl,B1⟩
theorem aiL {P:Prop} (h:P:=by
 have hE:Hid (R=f+p):=ae (by rw [<-hR,if_neg zo]);clear hR;go_enter func227,ntmps227;go_wp2_with fail;go_ret;exact ⟨by rw [hE.out];rfl,hb0⟩):P:=h
theorem VL {P:Prop} (h:P:=by
 clear hR;go_enter func227,ntmps227;go_wp2_with fail;go_ret;exact ⟨by rw [hE.out];rfl,hb0⟩):P:=h
theorem aae (x:Ru) (n:Int) (w:World) (hx:fo x=0) (hn:0<=n/\n<=1000000):zK 227 #[QM x,zI n] w (zI (ZJ x n)):=by
 obtain ⟨k,f,e,t⟩:=x;obtain ⟨_,h1,h2,h3,h4⟩:=jI.1 hx;simp only at h1 h2 h3 h4;have hb0:=aQ w (.cells #[zI k,zI f,zI e,zI t] 108);have k0:=af.new w 108 #[zI k,zI f,zI e,zI t];have c0:=k0.cell;clear k0 h4 hx;obtain ⟨R,hR⟩:=ah (ZJ (k,f,e,t) n);rw [hR];unfold ZJ at hR;simp only at hR;by_cases c1:n<f
 ·have d1:=bU c1
  have hE:Hid (R=f):=ae (by rw [<-hR,if_pos c1]);exact VL
 have d1:=bV c1;rw [if_neg c1] at hR;by_cases c2:e=0
 ·have d2:=Hd c2
  have hE:Hid (R=0):=ae (by rw [<-hR,if_pos c2]);clear c2;exact VL
 have d2:=lV c2;rw [if_neg c2] at hR;have he:0<e:=zo;obtain ⟨q,hq⟩:=ah ((n - f) / e);have hq0:0<=q:=by rw [<-hq];exact Int.ediv_nonneg zo zo
 have hq1:q<=1000000:=by rw [<-hq];have:=Int.ediv_le_self e (show 0<=n - f by omega);omega
 have hqt:Int.tdiv (n - f) e=q:=by rw [Int.tdiv_eq_ediv_of_nonneg zo];exact hq
 have hw1:IntKind.i64.wrap (n - f)=n - f:=by rw [IntKind.wrap_i64];omega
 have hw2:IntKind.i64.wrap (q+1)=q+1:=by rw [IntKind.wrap_i64];omega
 rw [hq] at hR;have hm0:0<=(q+1)*e:=Int.mul_nonneg zo zo;have hm1:(q+1)*e<=12000012:=by
  have h5:(q+1)*e<=1000001*e:=Int.mul_le_mul_of_nonneg_right zo zo;omega
 obtain ⟨p,hp⟩:=ah ((q+1)*e);rw [hp] at hR hm0 hm1;have hw3:IntKind.i64.wrap ((q+1)*e)=p:=by rw [hp,IntKind.wrap_i64];omega
 have hw4:IntKind.i64.wrap (f+p)=f+p:=by rw [IntKind.wrap_i64];omega
 clear hq hp;by_cases c3:0<t
 ·have d3:=bU c3
  by_cases c4:t<=q+1
  ·have d4:=bU c4
   have hE:Hid (R=0):=ae (by rw [<-hR,if_pos ⟨c3,c4⟩]);exact VL
  ·have d4:=bV c4
   exact aiL
 ·have d3:=bV c3
  exact aiL
theorem RA (p:Ru->Bool) (g:Nat) (lb:Array Value) (A:Option Addr) (n cap:Nat) (bs:List Ru) (w:World) (hn:bs.length=n) (hm:n<=1000) (hr:Rd w w.heap.size A (fl iU bs))
  (eg:∀args w,(callFunc g args).run prog w= .ok (.enter g args) w)
  (hp:∀x∈bs,∀W,Below w.heap.size w W->Calls prog g (#[QM x]++lb) W λe W'=>e= .returned (.bool (p x))/\Below W.heap.size W W') :
  zK 233 #[.slice A n cap,.func (.func g) #[] lb] w (zI (DU p bs 0)):=by
 obtain ⟨R,hR⟩:=ah (DU p bs 0);rw [hR];have hR':=ae hR;have hn':=ae hn;have hp':=ae hp;clear hR hn hp;go_enter func233,ntmps233;go_wp2_with fail
 go_loopw [8] (λi wr=>∃k:Nat,k<=n/\i = zI k/\Below w.heap.size w wr/\Hid (DU p (bs.drop k) k=R)) (λi _=>n - (intOf i).toNat)
 case atStart=>exact ⟨0,zo,rfl,Below.refl _ _,by simpa using hR'⟩
 case round =>
  obtain ⟨k,hk,rfl,hB,hH⟩:=hrel;by_cases hlt:k<n
  ·have hlt':decide ((k:Int)<(n:Int))=true:=by simpa using hlt
   obtain ⟨b,o,rfl,_,hc⟩:=(hr.fB hB).elem jY zo qa (k:=k) (by have:=hn'.out;omega);have HP:=ae (hp'.out (bs.getD k qa) (Gm (by have:=hn'.out;omega)) wr hB);have hst:=hH.out;rw [Go.Pol.drop_cons qa bs k (by have:=hn'.out;omega),DU] at hst;generalize bs.getD k qa=x at *;obtain ⟨xk,f,e,t⟩:=x;have x0:=hc 0 _ rfl;have x1:=hc 1 _ rfl;have x2:=hc 2 _ rfl;have x3:=hc 3 _ rfl;simp only [Nat.add_zero] at x0;have hkn:(k:Int)<(n:Int):=zo;clear hc;cases hpx:p (xk,f,e,t) with
   | true =>
    rw [hpx] at HP;rw [if_pos hpx] at hst;have hst':=ae hst;clear hst hH hpx;go_wp2_with fail;refine HP.out.zr λw1 hb1=>?_
    go_wp2_with fail;go_ret;exact ⟨CQ hst'.out,hB.zt hb1⟩
   | false =>
    rw [hpx] at HP;rw [if_neg (by simp [hpx])] at hst;have hst':=ae hst;clear hst hH hpx;go_wp2_with fail;refine HP.out.zr λw1 hb1=>?_
    go_wp2_with fail;go_roundw
    case rel=>exact ⟨k+1,zo,by go_num,hB.zt hb1,hst'⟩
    case measure=>exact zm
  ·obtain rfl:k=n:=zo
   have hlt':decide ((k:Int)<(k:Int))=false:=by simp
   have hst:=hH.out;rw [List.drop_of_length_le (by have:=hn'.out;omega)] at hst;have hst':=ae (show -1=R from hst);clear hst hH;go_wp2_with fail;go_ret;exact ⟨CQ hst'.out,hB⟩
theorem Jn (p:Ru->Bool) (g:Nat) (lb:Array Value) (A:Option Addr) (n cap:Nat) (bs:List Ru) (w:World) (hn:bs.length=n) (hm:n<=1000) (hr:Rd w w.heap.size A (fl iU bs))
  (eg:∀args w,(callFunc g args).run prog w= .ok (.enter g args) w)
  (hp:∀x∈bs,∀W,Below w.heap.size w W->Calls prog g (#[QM x]++lb) W λe W'=>e= .returned (.bool (p x))/\Below W.heap.size W W') :
  zK 225 #[.slice A n cap,.func (.func g) #[] lb] w (.bool (bs.any p)):=by
 have HI:=ae (RA p g lb A n cap bs w hn hm hr eg hp);have hE:=ae (ND p bs 0);generalize DU p bs 0=R at *;generalize bs.any p=S at *;go_enter func225,ntmps225;go_wp2_with fail;refine HI.out.zr λw1 hb1=>?_
 go_wp2_with fail;go_ret;exact ⟨fu hE.out,hb1⟩
theorem Mi (x:Ru) (k n:Int) (B4 B5:Nat) (W:World) (hx:fo x=0) (hn:1<=n/\n<=1000000) (h4:af W B4 3 #[zI k]) (h5:af W B5 3 #[zI n]) :
  Calls prog 226 #[QM x,zP B4,zP B5] W λe W'=>e= .returned (.bool (x.1==k&&qL x n))/\Below W.heap.size W W':=by
 have hnx:=abI hx hn.1;have HN:=ae (λW=>aae x (n - 1) W hx zo);generalize ZJ x (n - 1)=q at *;generalize qL x n=R at *;obtain ⟨xk,f,e,t⟩:=x;have hw1:IntKind.i64.wrap (n - 1)=n - 1:=by rw [IntKind.wrap_i64];omega
 have hb0:=aQ W (.cells #[zI xk,zI f,zI e,zI t] 108);have k0:=af.new W 108 #[zI xk,zI f,zI e,zI t];have g4:=h4.alloc (.cells #[zI xk,zI f,zI e,zI t] 108);have g5:=h5.alloc (.cells #[zI xk,zI f,zI e,zI t] 108);obtain ⟨s,hs⟩:=ah (W.heap.size);clear hx h4 h5;go_enter func226,ntmps226;go_upto_region 1 with fail
 generalize W.alloc (.cells #[zI xk,zI f,zI e,zI t] 108)=w0 at *;rw [hs] at hb0 k0;try simp only [hs]
 have hs':=ae hs;clear hs;have z0:=λz:Ext w0=>(z.blk k0).cell
 have z4:=λz:Ext w0=>(z.blk g4).cell
 have z5:=λz:Ext w0=>(z.blk g5).cell
 by_cases hk:xk=k
 ·have d1:=Hd hk
  have G:=ae (λz:Ext w0=>Ext.call (x:=z) (HN.out z.w));have hE:Hid ((q==n)=R):=ae hnx;clear hnx hk;refine aD zk zk ?_
  repeat (go_big_quiet_step ((go_at_call 227;exact G.out _)))
  refine wpQuiet_nil ?_;rintro w1 ⟨⟨_,hw1⟩,rfl⟩;go_wp2_with fail;go_ret;exact ⟨fu (by rw [d1,Bool.true_and];exact hE.out),by rw [hs'.out];exact hb0.trans (hw1.mono (by have:=hb0.size;have:=hs'.out;omega))⟩
 ·have d1:=lV hk
  clear hnx hk;refine aD zk zk ?_
  repeat (go_big_quiet_step (fail))
  refine wpQuiet_nil ?_;rintro w1 ⟨⟨_,hw1⟩,rfl⟩;go_wp2_with fail;go_ret;exact ⟨fu (by rw [d1,Bool.false_and]),by rw [hs'.out];exact hb0.trans (hw1.mono (by have:=hb0.size;have:=hs'.out;omega))⟩
theorem ET:∀args w,(callFunc 226 args).run prog w= .ok (.enter 226 args) w:=enters_of func226 zk rfl
theorem Jo {P:Prop} (h:P:=by
 go_wp2_with fail;go_ret;exact ⟨rfl,hb0.zt hb1⟩):P:=h
theorem O5 (A:Option Addr) (n cap:Nat) (l:List Ru) (k nn:Int) (w:World) (hn:l.length=n) (hm:n<=1000) (hok:∀x∈l,fo x=0) (hnn:1<=nn/\nn<=1000000) (hr:Rd w w.heap.size A (fl iU l)) :
  zK 210 #[.agg #[.slice A n cap],zI k,zI nn] w (.bool (oP l k nn)):=by
 obtain ⟨s,hs⟩:=ah (w.heap.size);have hb0:=((aQ w (.cells #[.slice A n cap] 31)).alloc zs (.cells #[zI k] 3)).alloc (by simp;omega) (.cells #[zI nn] 3);have kP:=((af.new w 31 #[.slice A n cap]).alloc (.cells #[zI k] 3)).alloc (.cells #[zI nn] 3);have k4:=(af.new (w.alloc (.cells #[.slice A n cap] 31)) 3 #[zI k]).alloc (.cells #[zI nn] 3);have k5:=af.new ((w.alloc (.cells #[.slice A n cap] 31)).alloc (.cells #[zI k] 3)) 3 #[zI nn];simp only [World.size_alloc,hs] at k4 k5 kP;have r0:=hr.fB hb0;generalize hw0:((w.alloc (.cells #[.slice A n cap] 31)).alloc (.cells #[zI k] 3)).alloc (.cells #[zI nn] 3)=w0 at *;have HC:=ae (Jn (λx=>x.1==k&&qL x nn) 226 #[zP (s+1),zP (s+2)] A n cap l w0 hn hm r0 ET
  (λx hx W hW=>Mi x k nn (s+1) (s+2) W (hok x hx) hnn (k4.call hW) (k5.call hW)))
 have hR:l.any (λx=>x.1==k&&qL x nn)=oP l k nn:=rfl;rw [hR] at HC;generalize oP l k nn=R at *;have aoU:=ae hw0;have hs':=ae hs;have cP:=kP.cell;clear hw0 hs hR r0 hr hok hn k4 k5 kP;go_enter func210,ntmps210;go_upto_region 1 with fail
 rw [aoU.out];simp only [hs'.out];go_wp2_with fail;refine HC.out.zr λw1 hb1=>?_
 exact Jo
theorem acL {P:Prop} (h:P:=by
 unfold Instr.index;simp only [Sem.run_bind,run_underlying u,Result.andThen_ok];simp [part,asIntOf,a3,Result.andThen,h1,hg]):P:=h
theorem aoV (cs:Nat->Int) (j:Nat) (hj:j<7) (W:World):(Instr.index 56 (.agg #[zI (cs 0),zI (cs 1),zI (cs 2),zI (cs 3),zI (cs 4),zI (cs 5),zI (cs 6)]) (zI j)).run prog W= .ok (zI (cs j)) W:=by
 have u:=underlying56;have a3:=Tryz.isAgg3;have z3:=Tryz.sizeOf3;have hg:=alQ cs hj;have h1:0<=(j:Int)/\(j:Int)<7:=zo;obtain ⟨X,hX⟩:=ah (c7 cs);change (Instr.index 56 (.agg (c7 cs)) (zI j)).run prog W=_;rw [hX] at hg ⊢;exact acL
theorem aiM {P:Prop} (h:P:=by
 obtain rfl:j=7:=zo;have hlt':decide (((7:Nat):Int)<7)=false:=by simp
 go_wp2_with fail;go_ret;exact ⟨rfl,by rw [hsz'.out];exact B1.trans (hB.mono (by have:=B1.size;have:=hsz'.out;omega))⟩):P:=h
theorem VN {P:Prop} (h:P:=by
 go_wp2_with fail;go_roundw
 case rel=>exact ⟨j+1,zo,by go_num,hB.zt hw2⟩
 case measure=>exact zm):P:=h
theorem yu (A:Option Addr) (n cap:Nat) (S:Rf) (w:World) (hS:uf S) (hn:S.rules.length=n) (hr:Rd w w.heap.size A (fl iU S.rules)) :
  zK 48 #[ic (.slice A n cap) S.calls S.hits] w (zI 0):=by
 obtain ⟨l,cs,hs⟩:=S;obtain ⟨h1,h2,h3⟩:=hS;simp only at h1 h2 h3 hn hr;simp only;obtain ⟨hlen,hok⟩:=lZ.1 h1;have RB:n<=50:=zo;have HC:=ae (λW h=>za A n cap l W hn h);rw [h1] at HC;generalize (iy l).1=ci at *;unfold ic aH;have hb0:=aQ w (.cells #[.slice A n cap,zI (cs 0),zI (cs 1),zI (cs 2),zI (cs 3),zI (cs 4),zI (cs 5),zI (cs 6),zI (hs 0),zI (hs 1),zI (hs 2),zI (hs 3),zI (hs 4),zI (hs 5),zI (hs 6)] 58);have k0:=af.new w 58 #[.slice A n cap,zI (cs 0),zI (cs 1),zI (cs 2),zI (cs 3),zI (cs 4),zI (cs 5),zI (cs 6),zI (hs 0),zI (hs 1),zI (hs 2),zI (hs 3),zI (hs 4),zI (hs 5),zI (hs 6)];have r0:=hr.fB hb0;obtain ⟨s,hsz⟩:=ah (w.heap.size);have hh2:=ae h2;have hh3:=ae h3;have aoW:=ae (λj hj W=>aoV cs j hj W);have hok':=ae hok;have hn':=ae hn;clear hr h1 h2 h3 hok hn;go_enter func48,ntmps48;go_upto_region 1 with fail
 generalize w.alloc (.cells #[.slice A n cap,zI (cs 0),zI (cs 1),zI (cs 2),zI (cs 3),zI (cs 4),zI (cs 5),zI (cs 6),zI (hs 0),zI (hs 1),zI (hs 2),zI (hs 3),zI (hs 4),zI (hs 5),zI (hs 6)] 58)=w0 at *;rw [hsz] at hb0 k0;try simp only [hsz]
 have hsz':=ae hsz;clear hsz;have c0:=k0.cell;go_wp2_with fail;refine (HC.out _ r0).zr λw1 hb1=>?_
 have k1:=k0.call hb1;have c1:=k1.cell;have r1:=r0.fB hb1;have B1:=hb0.trans (hb1.mono (by have:=hb0.size;have:=hsz'.out;omega));clear c0 k0 r0 hb0 hb1 HC;go_wp2_with fail;clear c1
 go_loopw [18] (λu wr=>∃j:Nat,j<=7/\u = zI j/\Below w1.heap.size w1 wr) (λu _=>7 - (intOf u).toNat)
 case atStart=>exact ⟨0,zo,rfl,Below.refl _ _⟩
 case round =>
  obtain ⟨j,hj,rfl,hB⟩:=hrel;by_cases hlt:j<7
  ·have hlt':decide ((j:Int)<7)=true:=by simp;omega
   have hin:(j:Int)<7:=zo;have hix:=aoW.out j hlt;have zg:=hh2.out j hlt;have hhi:=hh3.out j hlt;have kr:=k1.call hB;have hcell:=(kr.cell (8+j)).trans (wN (.slice A n cap) cs hs hlt);rw [hhi] at hcell;obtain ⟨m,hm⟩:∃m:Nat,cs j=(m:Int):=⟨(cs j).toNat,zo⟩;rw [hm] at hix hcell zg;simp only [Int.toNat_natCast] at hcell;have G:=ae (λz:Ext wr=>Ext.call (x:=z) (aad A n cap l (j:Int) m z.w hn'.out zo hok'.out zo ((r1.fB hB).fB z.le)));generalize oh l (j:Int) m=H at *;have d1:decide ((m:Int)<0)=false:=by rw [decide_eq_false_iff_not];omega
   have d2:decide ((1000000:Int)<(m:Int))=false:=by rw [decide_eq_false_iff_not];omega
   have d3:(H != H)=false:=by simp
   have z0:=λz:Ext wr=>((z.blk kr).cell 0)
   have zh:=λz:Ext wr=>z.cell hcell
   clear hhi hm hcell;go_upto_region 7 with fail
   refine aD zk zk ?_
   repeat (go_big_quiet_step ((go_at_call 128;exact G.out _)))
   refine wpQuiet_nil ?_;rintro w2 ⟨⟨_,hw2⟩,rfl⟩;clear z0 zh;exact VN
  ·exact aiM
theorem aiN {P:Prop} (h:P:=by
 refine Ho.out _ _ ⟨A2,c2,by rw [hn'.out],(v1.NI vR (λb o e=>by have:=v4 b o e;omega)).more vR.size,by rw [hn'.out];exact v2,v3,λb o e=>by have:=v4 b o e;have:=B2.size;have:=hsz'.out;omega,⟨v5.1,λg o e h=>(v5.2 g o e h).imp λcr hcr=>vR.blk hcr (by have:=v4 g o e;show ¬(g=s\/g=s+1);omega)⟩,B2.trans EU⟩):P:=h
theorem VO (A:Option Addr) (n cap:Nat) (S:Rf) (k:Nat) (w:World) (hS:uf S) (hk:k<7) (hn:S.rules.length=n) (hz:A=none->cap=0) (hr:Rd w w.heap.size A (fl iU S.rules)) :
  Calls prog 197 #[ic (.slice A n cap) S.calls S.hits,zI k] w (acN S k w):=by
 obtain ⟨h1,h2,h3⟩:=hS;obtain ⟨hlen,hok⟩:=lZ.1 h1;have RB:n<=50:=zo;have hck:=h2 k hk;have HC:=ae (λW h=>yu A n cap S W ⟨h1,h2,h3⟩ hn h);have HK:=ae (λW h=>vB A n cap S.rules W hn zo hz h);obtain ⟨Q,hQ⟩:=ah (acN S k w);rw [hQ];have Mj:=ae (λ(h:S.calls k=1000000) w' (hb:Below w.heap.size w w')=>show Q (.returned (.tuple #[ic zN (λ_=>0) (λ_=>0),.bool false,zI 3])) w' by rw [<-hQ];exact .inl ⟨h,rfl,hb⟩);have Jp:=ae (λ(h:S.calls k≠1000000) v w' (hv:AR S.rules w v w')=>show Q (.returned (.tuple #[ic v (fD S k).calls (fD S k).hits,.bool (rE S k),zI 0])) w' by rw [<-hQ];exact .inr ⟨h,v,rfl,hv⟩);unfold fD rE at Jp;have HR:=ae (λ(hc:S.calls k≠1000000) (A':Option Addr) (c':Nat) W h=>O5 A' n c' S.rules (k:Int) (S.calls k+1) W hn zo hok ⟨zo,zo⟩ h);have hcell:=ae (nT (.slice A n cap) S.calls S.hits hk);have atZ:=ae (λv cs=>wN v cs S.hits hk);have hset:=ae (λv (x:Int)=>NG v S.calls S.hits hk x);have Jq:=ae (λv cs (x:Int)=>NH v cs S.hits hk x);have hhk:0<=S.hits k/\S.hits k<=1000000:=by
  have:=uY S.rules k (S.calls k).toNat;rw [<-h3 k hk] at this;omega
 obtain ⟨l,cs,hs⟩:=S;simp only at hcell hset Jq Mj Jp HR HK HC hr hn hck hhk;have hn':=ae hn;clear hQ h1 h2 h3 hlen hok hn;have hb0:=(aQ w (.cells (aH (.slice A n cap) cs hs).toArray 58)).alloc zs (.cells (aH zN (λ_=>0) (λ_=>0)).toArray 58);have k0:=(af.new w 58 (aH (.slice A n cap) cs hs).toArray).alloc (.cells (aH zN (λ_=>0) (λ_=>0)).toArray 58);have b0:=af.new (w.alloc (.cells (aH (.slice A n cap) cs hs).toArray 58)) 58 (aH zN (λ_=>0) (λ_=>0)).toArray;obtain ⟨s,hsz⟩:=ah (w.heap.size);rw [World.size_alloc,hsz] at b0;rw [hsz] at k0;unfold ic aH at HC ⊢;simp only at HC ⊢;unfold aH at hb0 k0 b0;have r0:=hr.fB hb0;go_enter func197,ntmps197;go_upto_region 1 with fail
 generalize (w.alloc _).alloc _=w0 at *;rw [hsz] at hb0;try simp only [hsz]
 have hsz':=ae hsz;clear hsz hr;have c0:=k0.cell;go_wp2_with fail;refine (HC.out _ r0).zr λw1 hb1=>?_
 have k1:af w1 s 58 (aH (.slice A n cap) cs hs).toArray:=k0.call hb1;have b1:=b0.call hb1;have r1:=r0.fB hb1;have B1:=hb0.trans (hb1.mono (by have:=hb0.size;have:=hsz'.out;omega));clear c0 k0 b0 r0 hb0 hb1 HC;have hin:(k:Int)<7:=zo;have d1:decide ((k:Int)<0)=false:=by rw [decide_eq_false_iff_not];omega
 have d2:decide ((7:Int)<=(k:Int))=false:=by rw [decide_eq_false_iff_not];omega
 have ck:=(k1.cell (1+k)).trans hcell.out;by_cases hc:cs k=1000000
 ·have Ho:=ae (Mj.out hc)
  rw [hc] at ck;clear Jp HR HK hc;go_upto_region 7 with fail
  go_wp2_with (refine wpList_store_mid rfl 58 (.tmp 4) (.tmp 29) rfl (s+1) 0 (aH zN (λ_=>0) (λ_=>0)).toArray rfl rfl (dL b1 0 15 zs) dP (Go.all_oneCell_toArray (j3 rfl _ _)) ?_)
  have k4:=af.puts (g:=s+1) (t:=58) (w:=w1) (cs:=#[]) (aH zN (λ_=>0) (λ_=>0)) 0 w1 _ b1;rw [eH (by rfl)] at k4;have fQ:=ag.puts (T:=λk=>k=s+1) rfl (aH zN (λ_=>0) (λ_=>0)) 0 w1 w1 (ag.refl _ _);generalize (w1).setCells (s+1) 0 (aH zN (λ_=>0) (λ_=>0))=w4 at *;have hl4:=run_loadVar_mid (P:=prog) w4 (s+1) 0 58 (aH zN (λ_=>0) (λ_=>0)) _ (λj v hj=>by rw [Nat.zero_add,k4.cell];simpa using hj) underlying58 rfl dP;have hB4:Below w.heap.size w1 w4:=fQ.below (by have:=B1.size;have:=hsz'.out;omega) (λk hk e=>by have:=hsz'.out;omega);refine bodyPost_ret (v:=.tuple #[ic zN (λ_=>0) (λ_=>0),.bool false,zI 3]) ?_ rfl ?_
  ·exact gp results197 rfl hl4
  rw [<-hsz'.out] at B1;exact Ho.out _ (B1.trans hB4)
 ·have d3:=lV hc
  have Ho:=ae (Jp.out hc);have HR':=ae (HR.out hc);have hw1:IntKind.i64.wrap (cs k+1)=cs k+1:=by rw [IntKind.wrap_i64];omega
  have hw2:IntKind.i64.wrap (hs k+1)=hs k+1:=by rw [IntKind.wrap_i64];omega
  have hup:∀(f:Nat->Int) x,qM f k x k=x:=λf x=>by simp [qM]
  have acP:=ae hup;clear Jp Mj HR hup hc;go_upto_region 8 with fail
  have c0:w1.cell? ⟨s,0,none⟩=some (.slice A n cap):=(k1.cell 0).trans rfl;go_wp2_with fail;refine (HK.out _ r1).mono ?_;rintro e w2 ⟨v,rfl,hv⟩;obtain ⟨A2,c2,rfl,v1,v2,v3,v4,v5,hb2⟩:=hv;obtain ⟨k2,b2⟩:=bY hb2 k1 b1;have hs1:=b1.lt;have B2:=B1.trans (hb2.mono (by have:=B1.size;have:=hsz'.out;omega));have c2':w2.cell? ⟨s,0,none⟩=some (.slice A n cap):=(k2.cell 0).trans rfl;have f2:=k2.frozen;clear k1 b1 r1 B1 c0 hb2 HK;rw [hn'.out] at v2 ⊢;go_upto_region 9 with fail
  have k3:=k2.aM 0 (.slice A2 n c2);rw [aaf] at k3;have oQ:ag (λk=>k=s) w2 (w2.setCell ⟨s,0,none⟩ (.slice A2 n c2)):=ag.setCell (T:=λk=>k=s) (p:=⟨s,0,none⟩) (ag.refl _ _) (λ_=>rfl) _;generalize w2.setCell ⟨s,0,none⟩ (.slice A2 n c2)=w3 at *;have c3:=(k3.cell (1+k)).trans (nT (.slice A2 n c2) cs hs hk);have f3:=k3.frozen;clear c2' f2 ck;go_upto_region 10 with fail
  have k4:=k3.aM (1+k) (zI (cs k+1));rw [hset.out] at k4;have fQ:ag (λk=>k=s) w2 (w3.setCell ⟨s,1+k,none⟩ (zI (cs k+1))):=oQ.setCell (p:=⟨s,1+k,none⟩) (λ_=>rfl) _;generalize w3.setCell ⟨s,1+k,none⟩ (zI (cs k+1))=w4 at *;have c4:=(k4.cell (1+k)).trans (nT (.slice A2 n c2) (qM cs k (cs k+1)) hs hk);rw [acP.out] at c4;have c40:w4.cell? ⟨s,0,none⟩=some (.slice A2 n c2):=(k4.cell 0).trans rfl;have r4:Rd w4 w4.heap.size A2 (fl iU l):=(v1.NI fQ (λb o e=>by have:=v4 b o e;omega)).more fQ.size;have z0:=λz:Ext w4=>z.cell c40
  have z1:=λz:Ext w4=>z.cell c4
  have G:=ae (λz:Ext w4=>Ext.call (x:=z) (HR'.out A2 c2 z.w (r4.fB z.le)));have b4:=fQ.blk b2 zo;generalize oP l (k:Int) (cs k+1)=bb at *;clear c3 f3 c4 c40 HR' k3 k2 oQ b2;refine aD zk zk ?_
  repeat (go_big_quiet_step ((go_at_call 210;exact G.out _)))
  refine wpQuiet_nil ?_;rintro w5 ⟨⟨_,nL⟩,rfl⟩;obtain ⟨k5,b5⟩:=bY nL k4 b4;have VP:ag (λk=>k=s) w2 w5:=fQ.trans (.of_below nL);clear z0 z1 G r4 k4 b4 nL fQ;cases bb with
  | true =>
   simp only [if_true] at Ho;have c5:=(k5.cell (8+k)).trans (wN (.slice A2 n c2) (qM cs k (cs k+1)) hs hk);have f5:=k5.frozen;go_upto_region 13 with fail
   have k6:=k5.aM (8+k) (zI (hs k+1));rw [Jq.out] at k6;have b6:=b5.far (p:=⟨s,8+k,none⟩) (by show s+1≠s;omega) (zI (hs k+1));have Jr:ag (λk=>k=s) w2 (w5.setCell ⟨s,8+k,none⟩ (zI (hs k+1))):=VP.setCell (p:=⟨s,8+k,none⟩) (λ_=>rfl) _;generalize w5.setCell ⟨s,8+k,none⟩ (zI (hs k+1))=w6 at *;clear c5 f5 k5 b5 VP;generalize qM hs k (hs k+1)=hs2 at *;generalize qM cs k (cs k+1)=cs2 at *;have pQ:World.rangeAt w6 s 0 (aH (.slice A2 n c2) cs2 hs2):=λj v hj=>by rw [Nat.zero_add,(k6).cell];simpa using hj
   go_wp2_with (first
    | (refine wpList_load_mid rfl 58 (.tmp 2) rfl s 0 rfl (aH (.slice A2 n c2) cs2 hs2) _ pQ underlying58 rfl dP ?_)
    | (refine wpList_store_mid rfl 58 (.tmp 4) (.tmp 59) rfl (s+1) 0 (aH (.slice A2 n c2) cs2 hs2).toArray rfl rfl (dL b6 0 15 zs) dP (Go.all_oneCell_toArray (j3 rfl _ _)) ?_))
   have k7:=af.puts (g:=s+1) (t:=58) (w:=w6) (cs:=#[]) (aH (.slice A2 n c2) cs2 hs2) 0 w6 _ b6;rw [eH (by rfl)] at k7;have vR:=ag.puts (T:=λk=>k=s\/k=s+1) (.inr rfl) (aH (.slice A2 n c2) cs2 hs2) 0 w2 w6 ((Jr).mono (λ_ _ h=>.inl h));generalize (w6).setCells (s+1) 0 (aH (.slice A2 n c2) cs2 hs2)=w7 at *;have O6:=run_loadVar_mid (P:=prog) w7 (s+1) 0 58 (aH (.slice A2 n c2) cs2 hs2) _ (λj v hj=>by rw [Nat.zero_add,k7.cell];simpa using hj) underlying58 rfl dP;have EU:Below w.heap.size w2 w7:=vR.below (by have:=B2.size;omega) (λk hk e=>by have:=hsz'.out;omega);rw [<-hsz'.out] at B2;refine bodyPost_ret (v:=.tuple #[ic (.slice A2 n c2) cs2 hs2,.bool true,zI 0]) ?_ rfl ?_
   ·exact gp results197 rfl O6
   exact aiN
  | false =>
   simp only [Bool.false_eq_true,if_false] at Ho;generalize qM cs k (cs k+1)=cs2 at *;have pQ:World.rangeAt w5 s 0 (aH (.slice A2 n c2) cs2 hs):=λj v hj=>by rw [Nat.zero_add,(k5).cell];simpa using hj
   go_wp2_with (first
    | (refine wpList_load_mid rfl 58 (.tmp 2) rfl s 0 rfl (aH (.slice A2 n c2) cs2 hs) _ pQ underlying58 rfl dP ?_)
    | (refine wpList_store_mid rfl 58 (.tmp 4) (.tmp 59) rfl (s+1) 0 (aH (.slice A2 n c2) cs2 hs).toArray rfl rfl (dL b5 0 15 zs) dP (Go.all_oneCell_toArray (j3 rfl _ _)) ?_))
   have k7:=af.puts (g:=s+1) (t:=58) (w:=w5) (cs:=#[]) (aH (.slice A2 n c2) cs2 hs) 0 w5 _ b5;rw [eH (by rfl)] at k7;have vR:=ag.puts (T:=λk=>k=s\/k=s+1) (.inr rfl) (aH (.slice A2 n c2) cs2 hs) 0 w2 w5 ((VP).mono (λ_ _ h=>.inl h));generalize (w5).setCells (s+1) 0 (aH (.slice A2 n c2) cs2 hs)=w7 at *;have O6:=run_loadVar_mid (P:=prog) w7 (s+1) 0 58 (aH (.slice A2 n c2) cs2 hs) _ (λj v hj=>by rw [Nat.zero_add,k7.cell];simpa using hj) underlying58 rfl dP;have EU:Below w.heap.size w2 w7:=vR.below (by have:=B2.size;omega) (λk hk e=>by have:=hsz'.out;omega);rw [<-hsz'.out] at B2;refine bodyPost_ret (v:=.tuple #[ic (.slice A2 n c2) cs2 hs,.bool false,zI 0]) ?_ rfl ?_
   ·exact gp results197 rfl O6
   exact aiN
theorem vC (b:Nat) (V:Vm) (w:World) (hV:aA w b V):Calls prog 81 #[zP b] w λe w'=>e= .returned (.bool true)/\w'=w:=by
 obtain ⟨cs,A,n,cap,hk,hc,_⟩:=hV.ex;have c0:=(hk.cell 0).trans hc.made;go_enter func81,ntmps81;go_wp2_with fail;go_ret;exact ⟨rfl,rfl⟩
theorem RD (b a n:Nat) (pr:Pg->Bool) (g:Nat) (lb:Array Value) (V:Vm) (w:World) (hn:a+n<=1024) (eg:∀args w,(callFunc g args).run prog w= .ok (.enter g args) w)
  (hp:∀p,p<1024->∀W,Below w.heap.size w W->Calls prog g (#[.pointer (some ⟨b,1+p*66,none⟩)]++lb) W λe W'=>e= .returned (.bool (pr (V.pg p)))/\Below W.heap.size W W') :
  zK 51 #[zP b,zI a,zI n,.func (.func g) #[] lb] w (.bool (qR V a n pr)):=by
 obtain ⟨R,hR⟩:=ah (qR V a n pr);rw [hR];have hR':=ae hR;have hp':=ae hp;clear hp hR;go_enter func51,ntmps51;go_wp2_with fail
 go_loopw [11] (λu wr=>∃i:Nat,i<=n/\u = zI i/\Hid (∀j,j<i->pr (V.pg (a+j))=true)/\Below w.heap.size w wr) (λu _=>n - (intOf u).toNat)
 case atStart=>exact ⟨0,zo,rfl,ae (λ_ h=>by omega),Below.refl _ _⟩
 case round =>
  obtain ⟨i,hi,rfl,hA,hB⟩:=hrel;by_cases hlt:i<n
  ·have hlt':decide ((i:Int)<(n:Int))=true:=by simpa using hlt
   obtain ⟨p,hpd⟩:=ah (a+i);have hw:IntKind.i64.wrap ((a:Int)+(i:Int))=(p:Int):=by rw [IntKind.wrap_i64];omega
   have hpl:(p:Int)<1024:=zo;have HP:=ae (hp'.out p zo wr hB);have acS:=ae hpd;clear hpd;cases hv:pr (V.pg p) with
   | true =>
    rw [hv] at HP;have hA2:Hid (∀j,j<i+1->pr (V.pg (a+j))=true):=ae (λj hj=>by
     by_cases e:j=i
     ·rw [e,acS.out];exact hv
     ·exact hA.out j zo)
    clear hv hA;go_wp2_with fail;refine HP.out.zr λw1 hb1=>?_
    go_wp2_with fail;go_roundw
    case rel=>exact ⟨i+1,zo,by go_num,hA2,hB.zt hb1⟩
    case measure=>exact zm
   | false =>
    rw [hv] at HP;have hE:Hid (R=false):=ae (by
     cases hx:R with
     | false=>rfl
     | true =>
      rw [hx] at hR';have:=iQ.1 hR'.out p (by have:=acS.out;omega) (by have:=acS.out;omega);rw [hv] at this;cases this)
    clear hv hA;go_wp2_with fail;refine HP.out.zr λw1 hb1=>?_
    go_wp2_with fail;go_ret;exact ⟨fu hE.out.symm,hB.zt hb1⟩
  ·obtain rfl:i=n:=zo
   have hlt':decide ((i:Int)<(i:Int))=false:=by simp
   have hE:Hid (R=true):=ae (by
    rw [<-hR'.out,iQ];intro q h1 h2;have:=hA.out (q - a) zo
    rwa [show a+(q - a)=q by omega] at this)
   clear hA;go_wp2_with fail;go_ret;exact ⟨fu hE.out.symm,hB⟩
theorem NJ (b a n:Nat) (fd:Pg->Pg) (g:Nat) (lb:Array Value) (V:Vm) (w:World) (hV:aA w b V) (hn:a+n<=1024) (eg:∀args w,(callFunc g args).run prog w= .ok (.enter g args) w)
  (hp:∀p,p<1024->∀V' W,aA W b V'->ag (λk=>k=b) w W->Calls prog g (#[.pointer (some ⟨b,1+p*66,none⟩)]++lb) W λe W'=>e= .returned (.tuple #[])/\aA W' b (V'.gq p (fd (V'.pg p)))/\ag (λk=>k=b) W W') :
  Calls prog 53 #[zP b,zI a,zI n,.func (.func g) #[] lb] w λe w'=>e= .returned (.tuple #[])/\aA w' b (V.dD a n fd)/\ag (λk=>k=b) w w':=by
 have hp':=ae hp;have RF:Hid (aA w b (V.dD a 0 fd)):=ae (by rw [Vm.zA];exact hV);clear hp hV;go_enter func53,ntmps53;go_wp2_with fail
 go_loopw [10] (λu wr=>∃i:Nat,i<=n/\u = zI i/\Hid (aA wr b (V.dD a i fd))/\ag (λk=>k=b) w wr) (λu _=>n - (intOf u).toNat)
 case atStart=>exact ⟨0,zo,rfl,RF,ag.refl _ _⟩
 case round =>
  clear RF;obtain ⟨i,hi,rfl,hS,hF⟩:=hrel;by_cases hlt:i<n
  ·have hlt':decide ((i:Int)<(n:Int))=true:=by simpa using hlt
   have HP0:=hp'.out (a+i) zo _ wr hS.out hF;rw [<-Vm.zC] at HP0;obtain ⟨p,hpd⟩:=ah (a+i);rw [hpd] at HP0;have HP:=ae HP0;have hw:IntKind.i64.wrap ((a:Int)+(i:Int))=(p:Int):=by rw [IntKind.wrap_i64];omega
   have hpl:(p:Int)<1024:=zo;clear hpd HP0 hS;go_wp2_with fail;refine HP.out.zr ?_;rintro w1 ⟨hS1,hF1⟩;go_wp2_with fail;go_roundw
   case rel=>exact ⟨i+1,zo,by go_num,ae hS1,hF.trans hF1⟩
   case measure=>exact zm
  ·obtain rfl:i=n:=zo
   have hlt':decide ((i:Int)<(i:Int))=false:=by simp
   go_wp2_with fail
   go_end0
   exact ⟨rfl,hS.out,hF⟩
theorem RG:∀args w,(callFunc 173 args).run prog w= .ok (.enter 173 args) w:=enters_of func173 zk rfl
theorem VQ:∀args w,(callFunc 174 args).run prog w= .ok (.enter 174 args) w:=enters_of func174 zk rfl
theorem YT:(prog.info? 200).map (·.size)=some 3:=zk
theorem mr (call fr tk:Int) (w:World):Calls prog 135 #[zI call,zI fr,zI tk] w λe w' =>
  e= .returned (.agg #[zI call,.func (.func 173) #[] #[zP w.heap.size],.func (.func 174) #[] #[zP (w.heap.size+1)]]) /\
   af w' w.heap.size 3 #[zI fr]/\af w' (w.heap.size+1) 3 #[zI tk]/\Below w.heap.size w w':=by
 obtain ⟨s,hs⟩:=ah (w.heap.size);have k0:=((af.new w 3 #[zI fr]).alloc (.cells #[zI tk] 3)).alloc (.cells #[zI 0,Value.nilFunc,Value.nilFunc] 200);have k1:=(af.new (w.alloc (.cells #[zI fr] 3)) 3 #[zI tk]).alloc (.cells #[zI 0,Value.nilFunc,Value.nilFunc] 200);have kz:=af.new ((w.alloc (.cells #[zI fr] 3)).alloc (.cells #[zI tk] 3)) 200 #[zI 0,Value.nilFunc,Value.nilFunc];have hb:=((aQ w (.cells #[zI fr] 3)).alloc zs (.cells #[zI tk] 3)).alloc (by simp;omega) (.cells #[zI 0,Value.nilFunc,Value.nilFunc] 200);simp only [World.size_alloc] at k1 kz;rw [hs] at k0 k1 kz;rw [hs] at hb;have hs':=ae hs;go_enter func135,ntmps135;go_upto_region 1 with fail
 generalize ((w.alloc (.cells #[zI fr] 3)).alloc (.cells #[zI tk] 3)).alloc (.cells #[zI 0,Value.nilFunc,Value.nilFunc] 200)=w3 at *;clear hs
 go_wp2_with (refine wpList_store_mid rfl 200 (.tmp 6) (.tmp 10) rfl (s+1+1) 0 #[zI call,.func (.func 173) #[] #[zP s],.func (.func 174) #[] #[zP (s+1)]] rfl rfl (dL kz 0 3 zs) YT (Go.all_oneCell_toArray (agM rfl rfl rfl)) ?_)
 have k4:=af.puts (g:=s+1+1) (t:=200) (w:=w3) (cs:=#[]) [zI call,.func (.func 173) #[] #[zP s],.func (.func 174) #[] #[zP (s+1)]] 0 w3 _ kz;rw [eH (by rfl)] at k4;have fQ:=ag.puts (T:=λk=>k=s+1+1) rfl [zI call,.func (.func 173) #[] #[zP s],.func (.func 174) #[] #[zP (s+1)]] 0 w3 w3 (ag.refl _ _);generalize w3.setCells (s+1+1) 0 [zI call,.func (.func 173) #[] #[zP s],.func (.func 174) #[] #[zP (s+1)]]=w4 at *;have hl4:=run_loadVar_mid (P:=prog) w4 (s+1+1) 0 200 [zI call,.func (.func 173) #[] #[zP s],.func (.func 174) #[] #[zP (s+1)]] _ (λj v hj=>by rw [Nat.zero_add,k4.cell];simpa using hj) underlying200 rfl YT;refine bodyPost_ret (v:=.agg #[zI call,.func (.func 173) #[] #[zP s],.func (.func 174) #[] #[zP (s+1)]]) ?_ rfl ?_
 ·exact Hq results135 rfl hl4
 rw [hs'.out];exact ⟨rfl,fQ.blk k0 zo,fQ.blk k1 zo,hb.trans (fQ.below (by have:=kz.lt;omega) (λk hk e=>by omega))⟩
theorem acT {P:Prop} (h:P:=by
 refine aD zk zk ?_
 repeat (go_big_quiet_step (fail))
 refine wpQuiet_nil ?_;rintro w1 ⟨⟨_,hw1⟩,rfl⟩;go_wp2_with fail;go_ret;exact ⟨fu (by rw [d1];rfl),hw1⟩):P:=h
theorem acU (fr:Int) (b p B:Nat) (V:Vm) (W:World) (hV:aA W b V) (hp:p<1024) (hB:af W B 3 #[zI fr]) :
  Calls prog 173 #[.pointer (some ⟨b,1+p*66,none⟩),zP B] W λe W'=>e= .returned (.bool ((V.pg p).kind==fr&&!(V.pg p).bP))/\Below W.heap.size W W':=by
 obtain ⟨cs,A,n,cap,hk,hc,_⟩:=hV.ex;have c0:=(hk.cell (1+p*66)).trans (hc.kind hp);have c1:=(hk.cell (1+p*66+1)).trans (hc.Bo hp);generalize (V.pg p).kind=kd at *;generalize (V.pg p).bP=hg at *;have z0:=λz:Ext W=>z.cell c0
 have z1:=λz:Ext W=>z.cell c1
 have z2:=λz:Ext W=>(z.blk hB).cell
 clear c0 c1 hk hc hV hB;go_enter func173,ntmps173;go_upto_region 1 with fail
 by_cases h:kd=fr
 ·have d1:=Hd h
  clear h;cases hg with
  | true =>
   exact acT
  | false =>
   exact acT
 ·have d1:=lV h
  clear h;exact acT
theorem agN:(prog.info? 102).map (·.size)=some 66:=zk
theorem O7 (tk:Int):zeroCells102.setIfInBounds 0 (zI tk)=(qd (gW tk)).toArray:=by
 have h:zeroCells102=(qd (gW 0)).toArray:=zk;rw [h];rfl
theorem agO (tk:Int) (b p B:Nat) (V:Vm) (W:World) (hV:aA W b V) (hp:p<1024) (hB:af W B 3 #[zI tk]) :
  Calls prog 174 #[.pointer (some ⟨b,1+p*66,none⟩),zP B] W λe W'=>e= .returned (.tuple #[])/\aA W' b (V.gq p (gW tk))/\ag (λk=>k=b) W W':=by
 have hput:=hV.gq hp (gW tk);obtain ⟨cs,A,n,cap,hk,hc,_⟩:=hV.ex;have hsz:=hc.size;have ht:=dL hk (1+p*66) 66 zo;have cB:=hB.cell;have hz:=O7 tk;clear hk hc hV;go_enter func174,ntmps174
 go_wp2_with (refine wpList_store_mid rfl 102 (.tmp 6) (.tmp 5) rfl b (1+p*66) (qd (gW tk)).toArray rfl rfl ht agN (Go.all_oneCell_toArray (acQ _)) ?_)
 go_end0
 exact ⟨rfl,hput.1,hput.2⟩
theorem aiO {P:Prop} (h:P:=by
 rw [if_pos hc] at hrl hrs;have hV1:=hV'.out.call hb1;have hE:=ae (And.intro hrl.out hrs.out);clear hrl hrs hc HN hk0 hok';unfold ic aH;go_wp2_with fail;go_ret;obtain ⟨e1,e2⟩:=hE.out;rw [e1,e2];have hbz:=aQ w1 (.cells (aH zN (λ_=>0) (λ_=>0)).toArray 58);unfold aH at hbz;exact ⟨rfl,hV1.call hbz,.of_below (hb1.zt hbz)⟩):P:=h
theorem acW {P:Prop} (h:P:=by
 generalize w2.setCells b 67585 _=w4 at *;go_ret;exact ⟨rfl,zw.out.1,zw.out.2⟩):P:=h
theorem acX {P:Prop} (h:P:=by
 have RH:j<15:=(List.getElem?_eq_some_iff.1 hj).1;rw [hk0.cell,hc.rf j RH];exact hj):P:=h
theorem Hr (b k:Nat) (V:Vm) (w:World) (hV:aA w b V) (hk:k<7) :
  Calls prog 167 #[zP b,zI k] w λe w'=>e= .returned (.bool (rZ V.rf k))/\aA w' b (V.ref k)/\ag (λk=>k=b) w w':=by
 have hV':=ae hV;obtain ⟨cs,A,n,cap,hk0,hc,hn,hr,hz,hA,hok,_⟩:=hV.ex;have HN:=ae (VO A n cap V.rf k w hok hk hn hz hr);have pQ:w.rangeAt b 67585 (aH (.slice A n cap) V.rf.calls V.rf.hits):=λj v hj=>by
  exact acX
 have hok':=ae hok;have hrl:=ae (show rZ V.rf k=if V.rf.calls k=1000000 then false else rE V.rf k from rfl);have hrs:=ae (show V.ref k={ V with rf:=if V.rf.calls k=1000000 then V.rf else fD V.rf k } from rfl);generalize rZ V.rf k=R at *;generalize V.ref k=V2 at *;clear hc hr hz hA hn hok hV;go_enter func167,ntmps167
 go_wp2_with (first
  | (refine wpList_load_mid rfl 58 (.tmp 11) rfl b 67585 rfl (aH (.slice A n cap) V.rf.calls V.rf.hits) _ pQ underlying58 rfl dP ?_))
 clear pQ;refine HN.out.mono ?_;rintro e w1 hN;rcases hN with ⟨hc,rfl,hb1⟩|⟨hc,v,rfl,hv⟩
 ·exact aiO
 ·rw [if_neg hc] at hrl hrs
  obtain ⟨A2,c2,rfl,v1,v2,v3,v4,v5,hb1⟩:=hv;have hS2:uf (fD V.rf k):=NF hok'.out hk hc;have hbz:=aQ w1 (.cells (aH (.slice A2 V.rf.rules.length c2) (fD V.rf k).calls (fD V.rf k).hits).toArray 58);have hb2:=hb1.zt hbz;have hput:=hV'.out.CR (fD V.rf k) A2 V.rf.rules.length c2 hb2 rfl (v1.fB hbz) v5.1 v4 hS2 (λg o e h=>(v5.2 g o e h).imp λcr hc=>hc.call hbz);have hV2:=hV'.out.call hb2;have hE:=ae (And.intro hrl.out hrs.out);have hsz:=hV2.lt;obtain ⟨cs9,A9,n9,c9,k9,h9,h10⟩:=hV2.ex;have acY:=h9.size;have kz:=af.new w1 58 (aH (.slice A2 V.rf.rules.length c2) (fD V.rf k).calls (fD V.rf k).hits).toArray;clear h10;clear hrl hrs hc HN hk0 hok' hS2 hb2 hb1 v1 hV2 h9;generalize V.rf.rules.length=n2 at *;generalize (fD V.rf k).calls=cs2 at *;generalize (fD V.rf k).hits=hs2 at *;have mO:=ae hput;clear hput;rw [<-hE.out.1];rw [<-hE.out.2] at mO;clear hE hV';unfold aH at hbz k9 mO kz;unfold ic aH;obtain ⟨s,hs⟩:=ah (w1.heap.size);rw [hs] at kz;go_upto_region 3 with fail
  generalize w1.alloc _=w2 at *;clear hs hbz;have cz:=kz.cell;have ht:w2.there b 67585 (aH (.slice A2 n2 c2) cs2 hs2).toArray.size:=dL k9 67585 15 zo;have hone:=Go.all_oneCell_toArray (j3 (v:=.slice A2 n2 c2) rfl cs2 hs2);clear acY k9 kz;have zw:Hid (aA (w2.setCells b 67585 (aH (.slice A2 n2 c2) cs2 hs2)) b V2/\ag (λk=>k=b) w (w2.setCells b 67585 (aH (.slice A2 n2 c2) cs2 hs2))):=mO;clear mO;cases R with
  | true =>
   go_wp2_with (refine wpList_store_mid rfl 58 (.tmp 23) (.tmp 21) rfl b 67585 (aH (.slice A2 n2 c2) cs2 hs2).toArray ?hxx ?hyy ht dP hone ?_)
   case hxx=>rfl
   case hyy=>rfl
   exact acW
  | false =>
   go_wp2_with (refine wpList_store_mid rfl 58 (.tmp 23) (.tmp 21) rfl b 67585 (aH (.slice A2 n2 c2) cs2 hs2).toArray ?hxy ?hyz ht dP hone ?_)
   case hxy=>rfl
   case hyz=>rfl
   exact acW
theorem YU {P:Prop} (h:P:=by
 rw [if_pos zo] at hR;simp only [Prod.mk.injEq] at hR;obtain ⟨rfl,rfl⟩:=hR;have c0:=k0.cell;clear hs;go_enter func118,ntmps118;go_upto_region 1 with fail
 generalize w.alloc _=w0 at *;simp only [hs'.out];go_wp2_with fail;refine (HI.out _ V0).zr λw9 cZ=>?_
 replace cZ:=cZ.symm;subst cZ;go_wp2_with fail;go_ret;exact ⟨rfl,V0,F0⟩):P:=h
theorem EW (b call:Nat) (a n:Int) (pr:Pg->Bool) (fd:Pg->Pg) (g1 g2:Nat) (lb1 lb2:Array Value) (V:Vm) (w:World) (hV:aA w b V) (hc:call<7)
  (e1:∀args w,(callFunc g1 args).run prog w= .ok (.enter g1 args) w) (e2:∀args w,(callFunc g2 args).run prog w= .ok (.enter g2 args) w)
  (hp1:∀p,p<1024->∀V' W,aA W b V'->ag (λk=>k=b) w W->Calls prog g1 (#[.pointer (some ⟨b,1+p*66,none⟩)]++lb1) W λe W'=>e= .returned (.bool (pr (V'.pg p)))/\Below W.heap.size W W')
  (hp2:∀p,p<1024->∀V' W,aA W b V'->ag (λk=>k=b) w W->Calls prog g2 (#[.pointer (some ⟨b,1+p*66,none⟩)]++lb2) W λe W'=>e= .returned (.tuple #[])/\aA W' b (V'.gq p (fd (V'.pg p)))/\ag (λk=>k=b) W W') :
  Calls prog 118 #[zP b,zI a,zI n,.agg #[zI call,.func (.func g1) #[] lb1,.func (.func g2) #[] lb2]] w λe w'=>e= .returned (zI (gX V a n call pr fd).1)/\dw b (gX V a n call pr fd).2 w w':=by
 have hb0:=aQ w (.cells #[zI call,.func (.func g1) #[] lb1,.func (.func g2) #[] lb2] 200);have k0:=af.new w 200 #[zI call,.func (.func g1) #[] lb1,.func (.func g2) #[] lb2];have V0:=hV.call hb0;have F0:ag (λk=>k=b) w (w.alloc (.cells #[zI call,.func (.func g1) #[] lb1,.func (.func g2) #[] lb2] 200)):=.of_below hb0;have hbs:=hV.lt;have HI:=ae (λW h=>vC b V W h);have HA:=ae (λ(aa nn:Nat) (h:aa+nn<=1024) W (hW:aA W b V) (hF:ag (λk=>k=b) w W)=>RD b aa nn pr g1 lb1 V W h e1 (λp hp W' hb=>hp1 p hp V W' (hW.call hb) (hF.trans (.of_below hb))));have HR:=ae (λW h=>Hr b call V W h hc);have HE:=ae (λ(aa nn:Nat) (h:aa+nn<=1024) V' W (hW:aA W b V') (hF:ag (λk=>k=b) w W)=>NJ b aa nn fd g2 lb2 V' W hW h e2 (λp hp V2 W' h2 hF2=>hp2 p hp V2 W' h2 (hF.trans hF2)));obtain ⟨R,hR⟩:=ah (gX V a n call pr fd);rw [hR];unfold gX at hR;obtain ⟨re,rV⟩:=R;obtain ⟨s,hs⟩:=ah (w.heap.size);rw [hs] at k0 hbs;have hs':=ae hs;simp only;unfold dw;clear hp1 hp2 hb0 hV e1 e2;by_cases c1:n<1
 ·have d1:=bU c1
  exact YU
 have d1:=bV c1;by_cases c2:a<0
 ·have d2:=bU c2
  exact YU
 have d2:=bV c2;by_cases c3:1024<=a
 ·have d3:=bU c3
  exact YU
 have d3:=bV c3;have hw:IntKind.i64.wrap (1024 - a)=1024 - a:=by rw [IntKind.wrap_i64];omega
 by_cases c4:1024 - a<n
 ·have d4:=bU c4
  exact YU
 have d4:=bV c4;rw [if_neg zo] at hR;obtain ⟨aa,rfl⟩:∃aa:Nat,a=(aa:Int):=⟨a.toNat,zo⟩;obtain ⟨nn,rfl⟩:∃nn:Nat,n=(nn:Int):=⟨n.toNat,zo⟩;simp only [Int.toNat_natCast] at hR;have hsum:aa+nn<=1024:=zo;have HA':=ae (HA.out aa nn hsum);have HE':=ae (HE.out aa nn hsum);generalize qR V aa nn pr=al at *;cases al with
 | false =>
  rw [if_pos rfl] at hR;simp only [Prod.mk.injEq] at hR;obtain ⟨rfl,rfl⟩:=hR;have c0:=k0.cell;clear hs;go_enter func118,ntmps118;go_upto_region 1 with fail
  generalize w.alloc _=w0 at *;simp only [hs'.out];go_wp2_with fail;refine (HI.out _ V0).zr λw9 cZ=>?_
  replace cZ:=cZ.symm;subst cZ;go_wp2_with fail;refine (HA'.out _ V0 F0).zr λw1 hb1=>?_
  have V1:=V0.call hb1;have F1:ag (λk=>k=b) w w1:=F0.trans (.of_below hb1);go_wp2_with fail;go_ret;exact ⟨rfl,V1,F1⟩
 | true =>
  rw [if_neg zs] at hR;generalize rZ V.rf call=rb at *;cases rb with
  | true =>
   rw [if_pos rfl] at hR;simp only [Prod.mk.injEq] at hR;obtain ⟨rfl,rfl⟩:=hR;generalize V.ref call=V2 at *;have c0:=k0.cell;clear hs;go_enter func118,ntmps118;go_upto_region 1 with fail
   generalize w.alloc _=w0 at *;simp only [hs'.out];go_wp2_with fail;refine (HI.out _ V0).zr λw9 cZ=>?_
   replace cZ:=cZ.symm;subst cZ;go_wp2_with fail;refine (HA'.out _ V0 F0).zr λw1 hb1=>?_
   obtain ⟨k1,V1⟩:=bY hb1 k0 V0;have c1:=k1.cell;have F1:ag (λk=>k=b) w w1:=F0.trans (.of_below hb1);clear c0;go_wp2_with fail;refine (HR.out _ V1).zr ?_;rintro w2 ⟨V2',F2⟩;go_wp2_with fail;go_ret;exact ⟨rfl,V2',F1.trans F2⟩
  | false =>
   rw [if_neg zs] at hR;simp only [Prod.mk.injEq] at hR;obtain ⟨rfl,rfl⟩:=hR;generalize V.ref call=V2 at *;have c0:=k0.cell;clear hs;go_enter func118,ntmps118;go_upto_region 1 with fail
   generalize w.alloc _=w0 at *;simp only [hs'.out];go_wp2_with fail;refine (HI.out _ V0).zr λw9 cZ=>?_
   replace cZ:=cZ.symm;subst cZ;go_wp2_with fail;refine (HA'.out _ V0 F0).zr λw1 hb1=>?_
   obtain ⟨k1,V1⟩:=bY hb1 k0 V0;have c1:=k1.cell;have F1:ag (λk=>k=b) w w1:=F0.trans (.of_below hb1);clear c0;go_wp2_with fail;refine (HR.out _ V1).zr ?_;rintro w2 ⟨V2',F2⟩;have k2:=F2.blk k1 zo;have c2:=k2.cell;clear c1;go_wp2_with fail;refine (HE'.out _ _ V2' (F1.trans F2)).zr ?_;rintro w3 ⟨V3,F3⟩;go_wp2_with fail;go_ret;exact ⟨rfl,V3,(F1.trans F2).trans F3⟩
theorem mD (b call:Nat) (a n fr tk:Int) (s:Nat) (V:Vm) (w:World) (hV:aA w b V) (hc:call<7) (h1:af w s 3 #[zI fr]) (h2:af w (s+1) 3 #[zI tk]) (hb:s≠b/\s+1≠b) :
  Calls prog 118 #[zP b,zI a,zI n,.agg #[zI call,.func (.func 173) #[] #[zP s],.func (.func 174) #[] #[zP (s+1)]]] w λe w' =>
   e= .returned (zI (bK V a n call fr tk).1)/\dw b (bK V a n call fr tk).2 w w' :=
 EW b call a n (λg=>g.kind==fr&&!g.bP) (λ_=>gW tk) _ _ _ _ V w hV hc RG VQ
  (λp hp V' W hW hF=>acU fr b p s V' W hW hp (hF.blk h1 hb.1))
  (λp hp V' W hW hF=>agO tk b p (s+1) V' W hW hp (hF.blk h2 hb.2))
theorem YV {P:Prop} (h:P:=by
 go_wp2_with fail;refine HB.out.zr ?_;rintro w1 ⟨k1,k2,hb1⟩;have V1:=hV'.out.call hb1;have HM1:=ae (HM.out w1 _ V1 k1 k2 zo);clear HM HB k1 k2;go_wp2_with fail;refine HM1.out.zr ?_;rintro w2 ⟨V2,F2⟩;go_wp2_with fail;go_ret;exact ⟨rfl,V2,(ag.of_below hb1).trans F2⟩):P:=h
theorem O8 (b:Nat) (a n:Int) (V:Vm) (w:World) (hV:aA w b V) :
  Calls prog 62 #[zP b,zI a,zI n] w λe w'=>e= .returned (zI (bK V a n 0 0 1).1)/\dw b (bK V a n 0 0 1).2 w w':=by
 have HB:=ae (mr 0 0 1 w);have HM:=ae (λW s hW h1 h2 hb=>mD b 0 a n 0 1 s V W hW zo h1 h2 hb);have hbs:=hV.lt;have hV':=ae hV;obtain ⟨re,hre⟩:=ah ((bK V a n 0 0 1).1);obtain ⟨rV,CS⟩:=ah ((bK V a n 0 0 1).2);simp only [hre,CS] at HM ⊢;unfold dw at HM ⊢;clear hre CS hV;go_enter func62,ntmps62;exact YV
theorem RJ (b:Nat) (a n:Int) (V:Vm) (w:World) (hV:aA w b V) :
  Calls prog 74 #[zP b,zI a,zI n] w λe w'=>e= .returned (zI (bK V a n 2 1 2).1)/\dw b (bK V a n 2 1 2).2 w w':=by
 have HB:=ae (mr 2 1 2 w);have HM:=ae (λW s hW h1 h2 hb=>mD b 2 a n 1 2 s V W hW zo h1 h2 hb);have hbs:=hV.lt;have hV':=ae hV;obtain ⟨re,hre⟩:=ah ((bK V a n 2 1 2).1);obtain ⟨rV,CS⟩:=ah ((bK V a n 2 1 2).2);simp only [hre,CS] at HM ⊢;unfold dw at HM ⊢;clear hre CS hV;go_enter func74,ntmps74;exact YV
theorem aiP {P:Prop} (h:P:=by
 simp only [hre,CS] at HM ⊢;unfold dw at HM ⊢;clear hre CS hV;go_enter func84,ntmps84;go_wp2_with fail;refine HB.out.zr ?_;rintro w1 ⟨k1,k2,hb1⟩;have V1:=hV'.out.call hb1;have HM1:=ae (HM.out w1 _ V1 k1 k2 zo);clear HM HB k1 k2;go_wp2_with fail;refine HM1.out.zr ?_;rintro w2 ⟨V2,F2⟩;go_wp2_with fail;go_ret;exact ⟨rfl,V2,(ag.of_below hb1).trans F2⟩):P:=h
theorem VR (b:Nat) (a n:Int) (V:Vm) (w:World) (hV:aA w b V) :
  Calls prog 84 #[zP b,zI a,zI n,.bool true] w λe w'=>e= .returned (zI (bK V a n 4 1 3).1)/\dw b (bK V a n 4 1 3).2 w w':=by
 have HB:=ae (mr 4 1 3 w);have HM:=ae (λW s hW h1 h2 hb=>mD b 4 a n 1 3 s V W hW zo h1 h2 hb);have hbs:=hV.lt;have hV':=ae hV;obtain ⟨re,hre⟩:=ah ((bK V a n 4 1 3).1);obtain ⟨rV,CS⟩:=ah ((bK V a n 4 1 3).2);exact aiP
theorem sH (b:Nat) (a n:Int) (V:Vm) (w:World) (hV:aA w b V) :
  Calls prog 84 #[zP b,zI a,zI n,.bool false] w λe w'=>e= .returned (zI (bK V a n 4 3 1).1)/\dw b (bK V a n 4 3 1).2 w w':=by
 have HB:=ae (mr 4 3 1 w);have HM:=ae (λW s hW h1 h2 hb=>mD b 4 a n 3 1 s V W hW zo h1 h2 hb);have hbs:=hV.lt;have hV':=ae hV;obtain ⟨re,hre⟩:=ah ((bK V a n 4 3 1).1);obtain ⟨rV,CS⟩:=ah ((bK V a n 4 3 1).2);exact aiP
theorem aiQ {P:Prop} (h:P:=by
 have hn:¬(0<=p/\p<1024):=zo;rw [if_neg hn,if_neg hn,if_neg hn];clear hn;go_enter func58,ntmps58;go_wp2_with fail;refine HI.out.zr λw9 cZ=>?_
 replace cZ:=cZ.symm;subst cZ;go_wp2_with fail
 (try simp only [Exit.inBlock,Exit.then]);refine bodyPost_ret (results_tmp3 rfl _ _ _) rfl ?_
 exact ⟨rfl,Below.refl _ _⟩):P:=h
theorem Ju (b:Nat) (p:Int) (V:Vm) (w:World) (hV:aA w b V) :
  Calls prog 58 #[zP b,zI p] w λe w' =>
   e= .returned (.tuple #[zI (if 0<=p/\p<1024 then (V.pg p.toNat).kind else 0),.bool (if 0<=p/\p<1024 then (V.pg p.toNat).bP else false),zI (if 0<=p/\p<1024 then 0 else 7)])/\Below w.heap.size w w':=by
 have HI:=ae (vC b V w hV);by_cases c1:p<0
 ·have d1:=bU c1
  exact aiQ
 have d1:=bV c1;by_cases c2:1024<=p
 ·have d2:=bU c2
  exact aiQ
 have d2:=bV c2;have hn:0<=p/\p<1024:=zo;rw [if_pos hn,if_pos hn,if_pos hn];clear hn;obtain ⟨q,rfl⟩:∃q:Nat,p=(q:Int):=⟨p.toNat,zo⟩;simp only [Int.toNat_natCast];have hq:q<1024:=zo;have hq2:(q:Int)<1024:=zo;obtain ⟨cs,A,n,cap,hk,hc,_⟩:=hV.ex;have c0:=(hk.cell (1+q*66)).trans (hc.kind hq);have c1:=(hk.cell (1+q*66+1)).trans (hc.Bo hq);generalize (V.pg q).kind=kd at *;generalize (V.pg q).bP=hg at *;have z0:=λz:Ext w=>z.cell c0
 have z1:=λz:Ext w=>z.cell c1
 clear c0 c1 hk hc;go_enter func58,ntmps58;go_wp2_with fail;refine HI.out.zr λw9 cZ=>?_
 replace cZ:=cZ.symm;subst cZ;go_upto_region 5 with fail
 refine aD zk zk ?_
 repeat (go_big_quiet_step (fail))
 refine wpQuiet_nil ?_;rintro w1 ⟨⟨_,hw1⟩,rfl⟩;go_wp2_with fail
 (try simp only [Exit.inBlock,Exit.then]);refine bodyPost_ret (results_tmp3 rfl _ _ _) rfl ?_
 exact ⟨rfl,hw1⟩
theorem Jv:stS zeroCells105.toList=some (aH zN (λ_=>0) (λ_=>0)):=zk
theorem acZ (w:World) :
  Calls prog 14 #[.agg #[zN]] w (aoY w):=by
 have hb0:=aQ w (.cells #[zN] 31);have k0:=af.new w 31 #[zN];have c0:=k0.cell;have HS:=ae (λW=>Jl none 0 0 [] W rfl zo (λ_=>rfl) (λk hk=>absurd hk (by simp [fl])));go_enter func14,ntmps14;go_wp2_with fail;refine (HS.out _).mono ?_;rintro e w1 hS;rcases hS with ⟨h0,_⟩|⟨_,v,rfl,hv⟩
 ·exact absurd zd h0
 obtain ⟨A,cap,rfl,v1,v2,v3,v4,v5,hb1⟩:=hv;simp only [List.length_nil];have B1:=hb0.zt hb1;have hB2:=B1.alloc B1.size (.cells (aH (.slice A 0 cap) (λ_=>0) (λ_=>0)).toArray 58);have hzs:=zeroCells105_size;have hzz:=Jv;obtain ⟨zc,hzc⟩:=ah (zeroCells105);rw [hzc] at hzs hzz;have hne:¬zc=#[]:=λe=>by rw [e] at hzs;simp at hzs
 have hC:=ae (O9 hzz (.slice A 0 cap));have kz:=af.new w1 58 (aH (.slice A 0 cap) (λ_=>0) (λ_=>0)).toArray;clear hzz c0 k0 v1 HS;unfold aH at hB2 kz;unfold ic aH;go_upto_region 4 with fail
 generalize w1.alloc _=w2 at *;have cz:=kz.cell;have hB3:=hB2.alloc hB2.size (.cells (eX (eX zc 0 [.bool true]) 67585 (aH (.slice A 0 cap) (λ_=>0) (λ_=>0))) 105);have kS:=af.new w2 105 (eX (eX zc 0 [.bool true]) 67585 (aH (.slice A 0 cap) (λ_=>0) (λ_=>0)));have hbs:=hB2.size;go_wp2_with fail;go_ret2;refine ⟨w2.heap.size,rfl,?_,hbs,hB3⟩;refine ⟨_,A,0,cap,kS,hC.out,rfl,λk hk=>absurd hk (by simp [fl,iM]),v5.1,λg o e h=>absurd rfl h,⟨zd,λk _=>⟨Int.le_refl _,(by show (0:Int)<=1000000;decide)⟩,λk _=>rfl⟩,λg o e h=>absurd rfl h⟩
theorem xO (b:Nat) (a n:Int) (V:Vm) (w:World) (hV:aA w b V) :
  Calls prog 64 #[zP b,zI a,zI n] w λe w'=>e= .returned (zI (bK V a n 1 1 0).1)/\dw b (bK V a n 1 1 0).2 w w':=by
 have HB:=ae (mr 1 1 0 w);have HM:=ae (λW s hW h1 h2 hb=>mD b 1 a n 1 0 s V W hW zo h1 h2 hb);have hbs:=hV.lt;have hV':=ae hV;obtain ⟨re,hre⟩:=ah ((bK V a n 1 1 0).1);obtain ⟨rV,CS⟩:=ah ((bK V a n 1 1 0).2);simp only [hre,CS] at HM ⊢;unfold dw at HM ⊢;clear hre CS hV;go_enter func64,ntmps64;exact YV
theorem vT (b:Nat) (a n:Int) (V:Vm) (w:World) (hV:aA w b V) :
  Calls prog 76 #[zP b,zI a,zI n] w λe w'=>e= .returned (zI (bK V a n 3 2 1).1)/\dw b (bK V a n 3 2 1).2 w w':=by
 have HB:=ae (mr 3 2 1 w);have HM:=ae (λW s hW h1 h2 hb=>mD b 3 a n 2 1 s V W hW zo h1 h2 hb);have hbs:=hV.lt;have hV':=ae hV;obtain ⟨re,hre⟩:=ah ((bK V a n 3 2 1).1);obtain ⟨rV,CS⟩:=ah ((bK V a n 3 2 1).2);simp only [hre,CS] at HM ⊢;unfold dw at HM ⊢;clear hre CS hV;go_enter func76,ntmps76;exact YV
theorem ac0 {P:Prop} (h:P:=by
 rw [d1,d2,d3];clear d3 c3;go_enter func50,ntmps50;go_wp2_with fail;go_ret;exact ⟨rfl,rfl⟩):P:=h
theorem ac1 {P:Prop} (h:P:=by
 go_enter func50,ntmps50;go_wp2_with fail;go_ret;exact ⟨rfl,rfl⟩):P:=h
theorem ou (p:Int) (w:World):Calls prog 50 #[zI p] w λe w'=>e= .returned (.bool (jJ p))/\w'=w:=by
 unfold jJ;by_cases c1:0<=p
 ·have d1:=bU c1
  by_cases c2:p<1024
  ·have d2:=bU c2
   have hr:Int.tmod p 16=p % 16:=Int.tmod_eq_emod_of_nonneg c1;by_cases c3:p % 16=0
   ·have d3:=bU c3
    have d4:=Hd c3;exact ac0
   ·have d3:=bV c3
    have d4:=lV c3;exact ac0
  ·have d2:=bV c2
   rw [d1,d2];exact ac1
 ·have d1:=bV c1
  rw [d1];exact ac1
theorem Mk:∀args w,(callFunc 119 args).run prog w= .ok (.enter 119 args) w:=enters_of func119 zk rfl
theorem Ml:∀args w,(callFunc 120 args).run prog w= .ok (.enter 120 args) w:=enters_of func120 zk rfl
theorem VS {P:Prop} (h:P:=by
 go_wp2_with fail;go_ret;exact ⟨rfl,Below.refl _ _⟩):P:=h
theorem VT (b p:Nat) (V:Vm) (W:World) (hV:aA W b V) (hp:p<1024):Calls prog 119 #[.pointer (some ⟨b,1+p*66,none⟩)] W λe W'=>e= .returned (.bool ((V.pg p).kind==2))/\Below W.heap.size W W':=by
 obtain ⟨cs,A,n,cap,hk,hc,_⟩:=hV.ex;have c0:=(hk.cell (1+p*66)).trans (hc.kind hp);generalize (V.pg p).kind=kd at *;clear hk hc hV;go_enter func119,ntmps119;exact VS
theorem VU {P:Prop} (h:P:=by
 go_wp2_with fail
 go_end0
 exact ⟨rfl,hset.out.1,hset.out.2⟩):P:=h
theorem VV (b p:Nat) (V:Vm) (W:World) (hV:aA W b V) (hp:p<1024):Calls prog 120 #[.pointer (some ⟨b,1+p*66,none⟩)] W λe W'=>e= .returned (.tuple #[])/\aA W' b (V.gq p ((V.pg p).dQ true))/\ag (λk=>k=b) W W':=by
 have hset:=ae (hV.zD hp true);obtain ⟨cs,A,n,cap,hk,hc,_⟩:=hV.ex;have c0:=(hk.cell (1+p*66+1)).trans (hc.Bo hp);have f0:=hk.frozen;clear hk hc hV;go_enter func120,ntmps120;exact VU
theorem aiR {P:Prop} (h:P:=by
 go_enter func41,ntmps41;go_wp2_with fail;refine HI.out.zr λw9 cZ=>?_
 replace cZ:=cZ.symm;subst cZ;go_wp2_with fail;refine HF.out.zr λw8 hw8=>?_
 replace hw8:=hw8.symm;subst hw8;go_wp2_with fail;go_ret;exact ⟨rfl,hV'.out,ag.refl _ _⟩):P:=h
theorem ac2 {P:Prop} (h:P:=by
 go_wp2_with fail;refine HM.out.zr ?_;rintro w1 ⟨V1,F1⟩;go_wp2_with fail;go_ret;exact ⟨rfl,V1,F1⟩):P:=h
theorem VW (b:Nat) (p:Int) (V:Vm) (w:World) (hV:aA w b V) :
  Calls prog 41 #[zP b,zI p] w λe w'=>e= .returned (zI (Go.Pol.dY V p).1)/\dw b (Go.Pol.dY V p).2 w w':=by
 have HI:=ae (vC b V w hV);have HF:=ae (ou p w);have HM:=ae (EW b 5 p 16 (λg=>g.kind==2) (λg=>g.dQ true) _ _ #[] #[] V w hV zo Mk Ml (λq hq V' W hW _=>VT b q V' W hW hq) (λq hq V' W hW _=>VV b q V' W hW hq));have hV':=ae hV;obtain ⟨R,hR⟩:=ah (Go.Pol.dY V p);rw [hR];unfold Go.Pol.dY at hR;obtain ⟨re,rV⟩:=R;simp only;cases hf:jJ p with
 | false =>
  rw [hf] at HF;rw [if_pos hf] at hR;simp only [Prod.mk.injEq] at hR;obtain ⟨rfl,rfl⟩:=hR;clear hf HM;exact aiR
 | true =>
  rw [hf] at HF;rw [if_neg (by simp [hf])] at hR;have hp0:0<=p/\p<1024:=by
   unfold jJ at hf;simp at hf;omega
  obtain ⟨q,rfl⟩:∃q:Nat,p=(q:Int):=⟨p.toNat,zo⟩;simp only [Int.toNat_natCast] at hR;have hq:q<1024:=zo;have hq2:(q:Int)<1024:=zo;obtain ⟨cs,A,n,cap,hk,hc,_⟩:=hV.ex;have c1:=(hk.cell (1+q*66+1)).trans (hc.Bo hq);clear hk hc hf;cases hh:(V.pg q).bP with
  | true =>
   rw [hh] at c1;rw [if_pos hh] at hR;simp only [Prod.mk.injEq] at hR;obtain ⟨rfl,rfl⟩:=hR;clear hh HM;exact aiR
  | false =>
   rw [hh] at c1;rw [if_neg (by simp [hh])] at hR;have hR':=ae hR;generalize gX V (q:Int) 16 5 (λg=>g.kind==2) (λg=>g.dQ true)=M at *;obtain rfl:=hR;clear hh;unfold dw at HM;go_enter func41,ntmps41;go_wp2_with fail;refine HI.out.zr λw9 cZ=>?_
   replace cZ:=cZ.symm;subst cZ;go_wp2_with fail;refine HF.out.zr λw8 hw8=>?_
   replace hw8:=hw8.symm;subst hw8;exact ac2
end Go.Proofs.YtlgcpjhimomiaaaGreat
