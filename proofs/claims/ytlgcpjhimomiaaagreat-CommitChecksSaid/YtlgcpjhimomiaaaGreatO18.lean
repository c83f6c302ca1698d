/- Texts RWalkV, RWalkW, RSpecJ, RWalkX, RWalkY, RWalkZ, RLawC. -/
import Derived.Test.YtlgcpjhimomiaaaGreatO17
set_option maxRecDepth 100000
set_option maxHeartbeats 12800000
namespace Go.Pol
open Go Go.RowKit Go.Proofs.Tryz
theorem fA.kid {W W':World} {N y bs bb ts tb:Nat} {V U:Vm} {L L' K:List Nd} (h:fA W N y bs bb ts tb V U L K) (hb:bz W' bb L') (F:ag (λk=>k=bb\/lD bb W k) W W'):fA W' N y bs bb ts tb V U L' K:=by
 obtain ⟨_,_,kq,_⟩:=h.eO.ex;have hT:∀g t cs,af W g t cs->t≠145->t≠142->¬(g=bb\/lD bb W g):=by
  rintro g t cs hg g1 g2 (e|⟨_,ds,hd⟩)
  ·rw [e] at hg;exact hg.ne kq g1
  ·exact hg.ne hd g2
 obtain ⟨cv,hcv⟩:=h.sys.typed;obtain ⟨cr,hcr⟩:=h.ref.typed;obtain ⟨cb,hcb⟩:=h.wy.typed;exact ⟨h.sys.far F (hT _ _ _ hcv zd zd) (λ_ _ _ _ _ _ _ _ _ _ ⟨_,hq⟩=>hT _ _ _ hq zd zd),hb,
  h.ref.far F (λk hk=>⟨by have:=h.lo;rcases hk with rfl|⟨hk,_⟩ <;> omega,λe=>by subst e;exact hT _ _ _ hcr zd zd hk⟩),
  h.wy.far F (hT _ _ _ hcb zd zd) (λk ⟨_,ds,hd⟩=>hT _ _ _ hd zd zd),h.lo⟩
theorem fA.as2 {W W':World} {N y bs bb ts tb:Nat} {V U:Vm} {L K K':List Nd} (h:fA W N y bs bb ts tb V U L K) (hb:ed W' N tb K') (F:ag (λk=>zV N W k\/k=tb) W W'):fA W' N y bs bb ts tb V U L K':=by
 obtain ⟨cb,hcb⟩:=h.wy.typed;have hT:∀g t cs,af W g t cs->t≠180->t≠140->¬(zV N W g\/g=tb):=by
  rintro g t cs hg g1 g2 (⟨_,ds,hd⟩|e)
  ·exact hg.ne hd g2
  ·rw [e] at hg;exact hg.ne hcb g1
 obtain ⟨cv,hcv⟩:=h.sys.typed;obtain ⟨cr,hcr⟩:=h.ref.typed;obtain ⟨_,_,kq,_⟩:=h.eO.ex;exact ⟨h.sys.far F (hT _ _ _ hcv zd zd) (λ_ _ _ _ _ _ _ _ _ _ ⟨_,hq⟩=>hT _ _ _ hq zd zd),
  h.eO.far F (hT _ _ _ kq zd zd) (λk ⟨_,ds,hd⟩=>hT _ _ _ hd zd zd),
  h.ref.far F (λk hk=>⟨by have:=h.lo;rcases hk with ⟨hk,_⟩|rfl <;> omega,λe=>by subst e;exact hT _ _ _ hcr zd zd hk⟩),hb,h.lo⟩
theorem Ov:∀(L:List Sp) (m p:Int),mem p L=false->(fZ p m L).2≠0
 | [],_,_,_=>by rw [fZ];decide
 | x::r,m,p,h=>by
  rw [fZ];have h1:¬(x.1<=p/\p<x.1+x.2)/\mem p r=false:=by
   constructor
   ·intro e
    have:mem p (x::r)=true:=bH.2 (.inl e);rw [h] at this;cases this
   ·rw [Bool.eq_false_iff]
    intro e;have:mem p (x::r)=true:=bH.2 (.inr e);rw [h] at this;cases this
  rw [if_neg h1.1];exact Ov r _ p h1.2
structure RnI (V:Vm) (k:Nat) (l:List Rn):Prop where
 rng:∀x∈l,0<=x.1/\1<=x.2.1/\x.1+x.2.1<=k/\x.2.2≠0/\∀q:Nat,x.1<=q->(q:Int)<x.1+x.2.1->(V.pg q).kind=x.2.2
 cov:∀q:Nat,q<k->(V.pg q).kind≠0->∃x∈l,x.1<=q/\(q:Int)<x.1+x.2.1
 par:l.Pairwise λ(x y:Rn)=>x.1+x.2.1<=y.1/\(x.1+x.2.1=y.1->x.2.2≠y.2.2)
 lst:0<k->(V.pg (k - 1)).kind≠0->∃(r:List Rn) (x:Rn),l=r++[x]/\x.1+x.2.1=k
theorem Lr (V:Vm):∀k,RnI V k (aF V k)
 | 0=>⟨λ_ h=>(by cases h),λ_ h=>absurd h zo,List.Pairwise.nil,λh=>absurd h zo⟩
 | k+1=>by
  obtain ⟨h1,h2,h3,h4⟩:=Lr V k;rw [jc];by_cases c0:(V.pg k).kind=0
  ·rw [if_pos c0]
   refine ⟨λx hx=>?_,λq hq hn=>h2 q (by
    by_cases e:q=k
    ·subst e;exact absurd c0 hn
    ·omega) hn,h3,λ_ h=>absurd c0 h⟩
   obtain ⟨a,b,c,d,e⟩:=h1 x hx;exact ⟨a,b,zo,d,e⟩
  rw [if_neg c0];by_cases c1:0<k/\(V.pg (k - 1)).kind=(V.pg k).kind
  ·rw [if_pos c1]
   obtain ⟨r,x,hl,hx⟩:=h4 c1.1 (by rw [c1.2];exact c0);rw [hl] at h1 h2 h3;rw [hl,oz];obtain ⟨xa,xb,xc⟩:=x;simp only at hx;obtain ⟨a1,a2,a3,a4,a5⟩:=h1 (xa,xb,xc) zs;simp only at a1 a2 a3 a4 a5;have hkx:(V.pg k).kind=xc:=by rw [<-c1.2];exact a5 (k - 1) zo zo
   refine ⟨λy hy=>?_,λq hq hn=>?_,?_,λ_ _=>⟨r,_,rfl,by simp only;omega⟩⟩
   ·rcases List.mem_append.1 hy with hy|hy
    ·obtain ⟨b1,b2,b3,b4,b5⟩:=h1 y (by simp [hy])
     exact ⟨b1,b2,zo,b4,b5⟩
    ·simp only [List.mem_singleton] at hy
     subst hy;refine ⟨a1,by simp only;omega,by simp only;omega,a4,λq hq1 hq2=>?_⟩;simp only at hq1 hq2;by_cases e:q=k
     ·subst e;exact hkx
     ·exact a5 q hq1 zo
   ·by_cases e:q=k
    ·exact ⟨_,List.mem_append_right _ (List.mem_singleton.2 rfl),by simp only;omega,by simp only;omega⟩
    ·obtain ⟨y,hy,b1,b2⟩:=h2 q zo hn
     rcases List.mem_append.1 hy with hy|hy
     ·exact ⟨y,List.mem_append_left _ hy,b1,b2⟩
     ·simp only [List.mem_singleton] at hy
      subst hy;exact ⟨_,List.mem_append_right _ (List.mem_singleton.2 rfl),b1,by simp only at b2 ⊢;omega⟩
   ·rw [List.pairwise_append] at h3 ⊢
    refine ⟨h3.1,zs,λy hy z hz=>?_⟩;simp only [List.mem_singleton] at hz;subst hz;exact h3.2.2 y hy (xa,xb,xc) (List.mem_singleton.2 rfl)
  ·rw [if_neg c1]
   refine ⟨λy hy=>?_,λq hq hn=>?_,?_,λ_ _=>⟨_,_,rfl,by simp only;omega⟩⟩
   ·rcases List.mem_append.1 hy with hy|hy
    ·obtain ⟨b1,b2,b3,b4,b5⟩:=h1 y hy
     exact ⟨b1,b2,zo,b4,b5⟩
    ·simp only [List.mem_singleton] at hy
     subst hy;refine ⟨by simp only;omega,by simp only;omega,by simp only;omega,c0,λq hq1 hq2=>?_⟩;simp only at hq1 hq2;obtain rfl:q=k:=zo;rfl
   ·by_cases e:q=k
    ·subst e
     exact ⟨_,List.mem_append_right _ (List.mem_singleton.2 rfl),by simp only;omega,by simp only;omega⟩
    ·obtain ⟨y,hy,b1,b2⟩:=h2 q zo hn
     exact ⟨y,List.mem_append_left _ hy,b1,b2⟩
   ·rw [List.pairwise_append]
    refine ⟨h3,zs,λy hy z hz=>?_⟩;simp only [List.mem_singleton] at hz;subst hz;obtain ⟨b1,b2,b3,b4,b5⟩:=h1 y hy;refine ⟨b3,λe he=>c1 ?_⟩;simp only at e he;have:=b5 (k - 1) zo zo;exact ⟨zo,this.trans he⟩
def wD (U:Vm) (x:Rn):Vm:=U.dD x.1.toNat x.2.1.toNat (λg=>{ g with kind:=x.2.2 })
theorem FP (U:Vm) {x:Rn} (h0:0<=x.1) (h1:0<=x.2.1) (q:Nat):(wD U x).pg q=if x.1<=q/\(q:Int)<x.1+x.2.1 then { U.pg q with kind:=x.2.2 } else U.pg q:=by
 show (if x.1.toNat<=q/\q<x.1.toNat+x.2.1.toNat then _ else _)=_;by_cases h:x.1<=q/\(q:Int)<x.1+x.2.1
 ·rw [if_pos h,if_pos zo]
 ·rw [if_neg h,if_neg zo]
theorem Du {q:Nat}:∀(l:List Rn) (U:Vm),(∀x∈l,0<=x.1/\0<=x.2.1)->(∀x∈l,¬(x.1<=q/\(q:Int)<x.1+x.2.1))->(l.foldl wD U).pg q=U.pg q
 | [],_,_,_=>rfl
 | x::r,U,h,hn=>by
  rw [List.foldl_cons,Du r _ (λy hy=>h y (by simp [hy])) (λy hy=>hn y (by simp [hy])),FP U (h x zs).1 (h x zs).2,if_neg (hn x zs)]
theorem Ow {q:Nat} {c:Int}:∀(l:List Rn) (U:Vm),(∀x∈l,0<=x.1/\0<=x.2.1)->(∀x∈l,x.1<=q->(q:Int)<x.1+x.2.1->x.2.2=c)->(∃x∈l,x.1<=q/\(q:Int)<x.1+x.2.1)->(l.foldl wD U).pg q={ U.pg q with kind:=c }
 | [],_,_,_,⟨x,hx,_⟩=>by cases hx
 | x::r,U,h,hc,hx=>by
  have h0:=h x zs;rw [List.foldl_cons];by_cases hr:∃y∈r,y.1<=q/\(q:Int)<y.1+y.2.1
  ·rw [Ow r _ (λy hy=>h y (by simp [hy])) (λy hy=>hc y (by simp [hy])) hr,FP U h0.1 h0.2]
   split <;> rfl
  ·rw [Du r _ (λy hy=>h y (by simp [hy])) (λy hy hh=>hr ⟨y,hy,hh⟩),FP U h0.1 h0.2]
   obtain ⟨y,hy,hh⟩:=hx;rcases List.mem_cons.1 hy with rfl|hy
   ·rw [if_pos hh,hc y zs hh.1 hh.2]
   ·exact absurd ⟨y,hy,hh⟩ hr
theorem abl (V U:Vm) (hU:∀q,(U.pg q).kind=0) {q:Nat} (hq:q<1024):((aF V 1024).foldl wD U).pg q={ U.pg q with kind:=(V.pg q).kind }:=by
 obtain ⟨h1,h2,_,_⟩:=Lr V 1024;have hb:∀x∈aF V 1024,0<=x.1/\0<=x.2.1:=λx hx=>by
  obtain ⟨a,b,_⟩:=h1 x hx;exact ⟨a,zo⟩
 by_cases h0:(V.pg q).kind=0
 ·rw [Du _ _ hb (λx hx hh=>by
   obtain ⟨_,_,_,d,e⟩:=h1 x hx;have:=e q hh.1 hh.2;rw [h0] at this;exact d this.symm),h0,<-hU q]
 ·exact Ow _ _ hb (λx hx a b=>((h1 x hx).2.2.2.2 q a b).symm) (h2 q hq h0)
theorem Ox {q:Nat} (l:List Int) (U:Vm) (hl:∀p∈l,0<=p):(l.foldl (λU p=>U.dD p.toNat 16 (λg=>g.dQ true)) U).pg q={ U.pg q with bP:=(U.pg q).bP||l.any (λp=>decide (p<=q)&&decide ((q:Int)<p+16)) }:=by
 induction l generalizing U with
 | nil=>simp
 | cons p r ih =>
  rw [List.foldl_cons,ih _ (λy hy=>hl y (by simp [hy]))];have hp:=hl p zs;have e:(U.dD p.toNat 16 (λg=>g.dQ true)).pg q=if p.toNat<=q/\q<p.toNat+16 then (U.pg q).dQ true else U.pg q:=rfl
  rw [e,List.any_cons];by_cases h:p<=q/\(q:Int)<p+16
  ·rw [if_pos zo,decide_eq_true h.1,decide_eq_true h.2]
   simp [Pg.dQ]
  ·rw [if_neg zo]
   have:(decide (p<=(q:Int))&&decide ((q:Int)<p+16))=false:=by
    rw [Bool.eq_false_iff,Ne,Bool.and_eq_true,decide_eq_true_eq,decide_eq_true_eq];exact h
   rw [this,Bool.false_or]
theorem xy (V:Vm) (p:Int):∀k,p∈dC V k↔∃m:Nat,m<k/\p=m/\m % 16=0/\(V.pg m).bP=true
 | 0=>by simp [dC]
 | k+1=>by
  have ih:=xy V p k;rw [dC];by_cases h:k % 16=0/\(V.pg k).bP=true
  ·rw [if_pos h,List.mem_append,ih,List.mem_singleton]
   constructor
   ·rintro (⟨m,a,b⟩|e)
    ·exact ⟨m,zo,b⟩
    ·exact ⟨k,zo,e,h⟩
   ·rintro ⟨m,a,b,c⟩
    by_cases e:m=k
    ·subst e;exact .inr b
    ·exact .inl ⟨m,zo,b,c⟩
  ·rw [if_neg h,ih]
   constructor
   ·rintro ⟨m,a,b⟩
    exact ⟨m,zo,b⟩
   ·rintro ⟨m,a,b,c⟩
    by_cases e:m=k
    ·subst e;exact absurd c h
    ·exact ⟨m,zo,b,c⟩
theorem af7 {V:Vm} (h:jg V) {q:Nat} (hq:q<1024):(dC V 1024).any (λp=>decide (p<=(q:Int))&&decide ((q:Int)<p+16))=(V.pg q).bP:=by
 have hg:=h.Ur q (q / 16*16) hq zo zo;rw [hg,Bool.eq_iff_iff,List.any_eq_true];constructor
 ·rintro ⟨p,hp,hh⟩
  obtain ⟨m,a,b,c,d⟩:=(xy V p 1024).1 hp;rw [Bool.and_eq_true,decide_eq_true_eq,decide_eq_true_eq] at hh;obtain rfl:m=q / 16*16:=zo;exact d
 ·intro hh
  exact ⟨((q / 16*16:Nat):Int),(xy V _ 1024).2 ⟨q / 16*16,zo,rfl,zo,hh⟩,by rw [Bool.and_eq_true,decide_eq_true_eq,decide_eq_true_eq];omega⟩
theorem Oy (V:Vm):∀k,(dC V k).Pairwise (· < ·)
 | 0=>List.Pairwise.nil
 | k+1=>by
  have ih:=Oy V k;rw [dC];split
  ·rw [List.pairwise_append]
   refine ⟨ih,zs,λy hy z hz=>?_⟩;simp only [List.mem_singleton] at hz;obtain ⟨m,a,b,_⟩:=(xy V y k).1 hy;omega
  ·exact ih
theorem FQ (V:Vm) (p:Nat):∀k,p∈dS V k↔p<k/\zJ (V.pg p)=true
 | 0=>by simp [dS]
 | k+1=>by
  have ih:=FQ V p k;rw [dS];by_cases h:zJ (V.pg k)=true
  ·rw [if_pos h,List.mem_append,ih,List.mem_singleton]
   constructor
   ·rintro (⟨a,b⟩|rfl)
    ·exact ⟨zo,b⟩
    ·exact ⟨zo,h⟩
   ·rintro ⟨a,b⟩
    by_cases e:p=k
    ·exact .inr e
    ·exact .inl ⟨zo,b⟩
  ·rw [if_neg h,ih]
   constructor
   ·rintro ⟨a,b⟩
    exact ⟨zo,b⟩
   ·rintro ⟨a,b⟩
    by_cases e:p=k
    ·subst e;exact absurd b h
    ·exact ⟨zo,b⟩
theorem Oz (V:Vm):∀k,(dS V k).Pairwise (· < ·)
 | 0=>List.Pairwise.nil
 | k+1=>by
  have ih:=Oz V k;rw [dS];split
  ·rw [List.pairwise_append]
   refine ⟨ih,zs,λy hy z hz=>?_⟩;simp only [List.mem_singleton] at hz;have:=((FQ V y k).1 hy).1;omega
  ·exact ih
def Cj (V U:Vm) (p:Nat):Vm:=U.gq p { U.pg p with fe:=(V.pg p).fe }
theorem Ls (V:Vm) {q:Nat}:∀(l:List Nat) (U:Vm),(l.foldl (Cj V) U).pg q=if q∈l then { U.pg q with fe:=(V.pg q).fe } else U.pg q
 | [],U=>by simp
 | p::r,U=>by
  rw [List.foldl_cons,Ls V r];have e:(Cj V U p).pg q=if q=p then { U.pg p with fe:=(V.pg p).fe } else U.pg q:=rfl
  rw [e];by_cases h:q=p
  ·subst h
   rw [if_pos rfl,if_pos (show q∈q::r by simp)];split <;> rfl
  ·rw [if_neg h]
   by_cases hr:q∈r
   ·rw [if_pos hr,if_pos (by simp [hr])]
   ·rw [if_neg hr,if_neg (by simp [h,hr])]
theorem iA.setKind {cs:Array Value} {v:Value} {V:Vm} (h:iA cs v V) {p:Nat} (hp:p<1024) (x:Int):iA (cs.setIfInBounds (1+p*66) (zI x)) v (V.gq p { V.pg p with kind:=x }):=by
 have hs:=h.size;have hg:∀i,(cs.setIfInBounds (1+p*66) (zI x))[i]? = if 1+p*66=i then some (zI x) else cs[i]? := λi=>by
  rw [Array.getElem?_setIfInBounds];by_cases e:1+p*66=i
  ·rw [if_pos e,if_pos e,if_pos zo]
  ·rw [if_neg e,if_neg e]
 refine ⟨by simp [hs],?_,λq hq i hi=>?_,λi hi=>?_⟩
 ·rw [hg,if_neg zo];exact h.made
 ·rw [hg]
  by_cases e:q=p
  ·subst e
   have rF:(V.gq q { V.pg q with kind:=x }).pg q={ V.pg q with kind:=x }:=by simp [Vm.gq]
   rw [rF];by_cases e1:i=0
   ·subst e1;rw [if_pos zo];rfl
   ·rw [if_neg zo,h.page q hq i hi]
    unfold qd
    match i,e1 with
    | 1,_=>rfl
    | i+2,_=>rfl
  ·exact Jt
 ·rw [hg,if_neg zo];exact h.rf i hi
theorem aA.setKind {w:World} {b:Nat} {V:Vm} (h:aA w b V) {p:Nat} (hp:p<1024) (x:Int):aA (w.setCell ⟨b,1+p*66,none⟩ (zI x)) b (V.gq p { V.pg p with kind:=x })/\ag (λk=>k=b) w (w.setCell ⟨b,1+p*66,none⟩ (zI x)):=by
 obtain ⟨cs,A,n,cap,h1,h2,h3,h4,h5,h6,h7,h8⟩:=h.ex;have hF:ag (λk=>k=b) w (w.setCell ⟨b,1+p*66,none⟩ (zI x)):=ag.setCell (T:=λk=>k=b) (p:=⟨b,1+p*66,none⟩) (ag.refl _ _) (λ_=>rfl) _;exact ⟨⟨_,A,n,cap,h1.aM _ _,h2.setKind hp x,h3,(h4.keepR hF (λg' o e h=>h6 g' o e h)).more hF.size,h5,h6,h7,λg o e h=>(h8 g o e h).imp λcr hc=>hF.blk hc (h6 g o e h)⟩,hF⟩
theorem iA.Lu {cs:Array Value} {v:Value} {V:Vm} (h:iA cs v V) {p:Nat} (hp:p<1024) (g:Pg):iA (eX cs (1+p*66+2) (wR g)) v (V.gq p { V.pg p with fe:=g.fe }):=by
 have hs:=h.size;have hl:=NM g;have hg:=jG (wR g) cs (1+p*66+2) (by rw [hl];omega);rw [hl] at hg;refine ⟨by rw [jq];exact hs,?_,λq hq i hi=>?_,λi hi=>?_⟩
 ·rw [hg,if_neg zo];exact h.made
 ·rw [hg]
  by_cases e:q=p
  ·subst e
   have rF:(V.gq q { V.pg q with fe:=g.fe }).pg q={ V.pg q with fe:=g.fe }:=by simp [Vm.gq]
   rw [rF];by_cases e1:i<2
   ·rw [if_neg zo,h.page q hq i hi]
    unfold qd
    match i,e1 with
    | 0,_=>rfl
    | 1,_=>rfl
   ·rw [if_pos zo,show 1+q*66+i - (1+q*66+2)=i - 2 by omega]
    unfold qd wR
    match i,e1 with
    | i+2,_=>rfl
  ·exact Jt
 ·rw [hg,if_neg zo];exact h.rf i hi
theorem aA.Lu {w:World} {b:Nat} {V:Vm} (h:aA w b V) {p:Nat} (hp:p<1024) (g:Pg):aA (w.setCells b (1+p*66+2) (wR g)) b (V.gq p { V.pg p with fe:=g.fe })/\ag (λk=>k=b) w (w.setCells b (1+p*66+2) (wR g)):=by
 obtain ⟨cs,A,n,cap,h1,h2,h3,h4,h5,h6,h7,h8⟩:=h.ex;have hF:=ag.puts (T:=λk=>k=b) rfl (wR g) (1+p*66+2) w w (ag.refl _ _);exact ⟨⟨_,A,n,cap,af.puts (w:=w) (cs:=#[]) (wR g) (1+p*66+2) w cs h1,h2.Lu hp g,h3,(h4.keepR hF (λg' o e h=>h6 g' o e h)).more hF.size,h5,h6,h7,λg o e h=>(h8 g o e h).imp λcr hc=>hF.blk hc (h6 g o e h)⟩,hF⟩
theorem aA.agree {w:World} {b:Nat} {U V:Vm} (h:aA w b U) (hr:U.rf=V.rf) (hp:∀q,q<1024->(U.pg q).kind=(V.pg q).kind/\(U.pg q).bP=(V.pg q).bP/\∀k,k<64->(U.pg q).fe k=(V.pg q).fe k):aA w b V:=by
 obtain ⟨cs,A,n,cap,h1,h2,h3,h4,h5,h6,h7,h8⟩:=h.ex;rw [hr] at h3 h4 h6 h7 h8;refine ⟨cs,A,n,cap,h1,⟨h2.size,h2.made,λq hq i hi=>?_,λi hi=>by rw [<-hr];exact h2.rf i hi⟩,h3,h4,h5,h6,h7,h8⟩;rw [h2.page q hq i hi];obtain ⟨e1,e2,e3⟩:=hp q hq;have:qd (U.pg q)=qd (V.pg q):=by
  unfold qd;rw [e1,e2];congr 2;exact List.map_congr_left (λk hk=>by rw [e3 k (List.mem_range.1 hk)])
 rw [this]
theorem af8 {zc:Array Value} (h:stS zc.toList=some (aH zN (λ_=>0) (λ_=>0))) (v:Value) (S:Rf):iA (eX (eX zc 0 [.bool true]) 67585 (aH v S.calls S.hits)) v { iM with rf:=S }:=by
 have h0:=O9 h v;have hs1:(eX zc 0 [.bool true]).size=67600:=by have:=h0.size;rwa [jq] at this
 have e1:(aH v S.calls S.hits).length=15:=rfl;have e0:(aH v (λ_=>0) (λ_=>0)).length=15:=rfl;have g1:=jG (aH v S.calls S.hits) (eX zc 0 [.bool true]) 67585 (by rw [e1];omega);have g0:=jG (aH v (λ_=>0) (λ_=>0)) (eX zc 0 [.bool true]) 67585 (by rw [e0];omega);have lo:∀i,i<67585->(eX (eX zc 0 [.bool true]) 67585 (aH v S.calls S.hits))[i]? = (eX (eX zc 0 [.bool true]) 67585 (aH v (λ_=>0) (λ_=>0)))[i]? := λi hi=>by rw [g1,g0,if_neg zo,if_neg zo]
 exact ⟨by rw [jq];exact hs1,by rw [lo 0 zo];exact h0.made,λp hp i hi=>by rw [lo _ zo];exact h0.page p hp i hi,λi hi=>by rw [g1,if_pos zo,show 67585+i - 67585=i by omega]⟩
theorem iA.abm {cs:Array Value} {v:Value} {V:Vm} (h:iA cs v V) (u:Value):iA (cs.setIfInBounds 67585 u) u V:=by
 have hs:=h.size;have hg:∀i,(cs.setIfInBounds 67585 u)[i]? = if 67585=i then some u else cs[i]? := λi=>by
  rw [Array.getElem?_setIfInBounds];by_cases e:67585=i
  ·rw [if_pos e,if_pos e,if_pos zo]
  ·rw [if_neg e,if_neg e]
 refine ⟨by simp [hs],by rw [hg,if_neg zo];exact h.made,λp hp i hi=>by rw [hg,if_neg zo];exact h.page p hp i hi,λi hi=>?_⟩;rw [hg]
 match i with
 | 0=>rfl
 | i+1 =>
  rw [if_neg zo,h.rf (i+1) hi];rfl
def G9 (R:List Rn):Nat->Int×Int
 | 0=>(0,0)
 | i+1=>((R.getD i DW).1+(R.getD i DW).2.1,(R.getD i DW).2.2)
theorem abn {V:Vm} (hk:∀p,p<1024->0<=(V.pg p).kind/\(V.pg p).kind<=3) {i:Nat} (hi:i<(aF V 1024).length) {x:Rn} (hx:(aF V 1024).getD i DW=x) :
  (G9 (aF V 1024) i).1<=x.1/\0<=x.1/\1<=x.2.1/\x.1+x.2.1<=1024/\1<=x.2.2/\x.2.2<=3/\¬(x.1=(G9 (aF V 1024) i).1/\x.2.2=(G9 (aF V 1024) i).2):=by
 obtain ⟨h1,_,h3,_⟩:=Lr V 1024;have hget:∀j (hj:j<(aF V 1024).length),(aF V 1024).getD j DW=(aF V 1024)[j]:=λj hj=>by rw [List.getD_eq_getElem?_getD,List.getElem?_eq_getElem hj];rfl
 rw [hget i hi] at hx;obtain ⟨a,b,c,d,e⟩:=h1 x (by rw [<-hx];exact List.getElem_mem hi);have hkx:=hk x.1.toNat zo;rw [e x.1.toNat zo zo] at hkx
 match i,hi,hx with
 | 0,_,_=>exact ⟨a,a,b,c,zo,hkx.2,λh=>d (by rw [h.2];rfl)⟩
 | j+1,hi,hx =>
  have hp:=List.pairwise_iff_getElem.1 h3 j (j+1) zo hi zo;rw [hx] at hp;show ((aF V 1024).getD j DW).1+((aF V 1024).getD j DW).2.1<=x.1/\_;rw [G9,hget j zo];exact ⟨hp.1,a,b,c,zo,hkx.2,λh=>hp.2 h.1.symm h.2.symm⟩
end Go.Pol
namespace Go.Proofs.YtlgcpjhimomiaaaGreat
open Go Go.Proofs Go.RowKit Go.Pol Go.Shelf Tryz
attribute [local go_sem] Oper.semAt_some aC au aB ai
theorem Yl (V:Vm) (pg n f bk ev:Int):jh (lg V pg n f bk ev 1).1:=by
 unfold lg;dsimp only;by_cases c1:bq ⟨pg,n,f,bk,ev,1,0,[],false⟩≠0
 ·rw [if_pos c1];exact .inr rfl
 rw [if_neg c1];have hck:bQ pg n f bk ev=0:=bR.2 (fw.1 (by simpa using c1)).plan;have hp:∀c,jh ⟨pg,n,f,bk,ev,1,0,[],c⟩:=λc=>.inl ⟨hck,rfl⟩
 split
 ·exact .inr rfl
 ·split
  ·exact hp _
  ·split
   ·split
    ·exact .inr rfl
    ·exact hp _
   ·exact hp _
def as3 (N:Nat) (l:List Ru) (e:Ending) (w':World):Prop:=e= .returned (.tuple #[.pointer none,zI 2])\/∃y bs bb ts tb S,e= .returned (.tuple #[zP y,zI 0])/\gI w' N y bs bb ts tb l S
theorem QB (b:Nat) (m lim:Int) (w:World) (hB:bz w b (fK m)) (hm:0<=m/\m<=4096) (h1:lim<0\/4096<lim) :
  zK 31 #[zP b,zI 0,zI lim] w (.tuple #[zI 0,zI 7]):=by
 have HK:=ae (zx b 0 (fK m) w hB (yY hm).ch Nat.zero_lt_one);have hb1:=aQ w (.cells #[zI 0] 3);have HO:=ae (λW=>lK lim 4096 W);obtain ⟨w1,hw1⟩:=ah (w.alloc (.cells #[zI 0] 3));rw [show ((0:Nat):Int)=0 from rfl,hw1] at HK;rw [hw1] at hb1;rw [decide_eq_true h1] at HO;clear h1 hB;go_enter func31,ntmps31
 go_wp2_with (first|(go_at_call 80;refine HK.out.mono ?_;rintro e w2 ⟨rfl,hw2⟩;replace hw2:=hw2.symm;subst hw2)|(go_at_call 61;refine (HO.out _).mono ?_;rintro e w2 ⟨rfl,hw2⟩;replace hw2:=hw2.symm;subst hw2))
 go_ret2;exact ⟨rfl,hb1⟩
theorem afW {P:Prop} (h:P:=by
 go_wp2_with fail;go_ret2;exact ⟨.inr ⟨y,bs,bb,ts,tb,(sV,sL,sr),rfl,as4⟩,B16⟩):P:=h
theorem Ym (N:Nat) (A1 A2:Option Addr) (n1 c1 n2 c2:Nat) (pg n f bk ev lim:Int) (l:List Ru) (w:World) (hl:l.length=n1) (hm:n1<=1000) (hz:A1=none->c1=0) (hNe:N=w.heap.size) (hr:Rd w N A1 (fl iU l)) :
  Calls prog 8 #[.agg #[zI pg,zI n,zI f,zI bk,zI ev,zI lim,.slice A1 n1 c1,.slice A2 n2 c2]] w λe w'=>as3 N l e w'/\Below w.heap.size w w':=by
 have hb0:=aQ w (.cells #[zI pg,zI n,zI f,zI bk,zI ev,zI lim,.slice A1 n1 c1,.slice A2 n2 c2] 34);have k0:=af.new w 34 #[zI pg,zI n,zI f,zI bk,zI ev,zI lim,.slice A1 n1 c1,.slice A2 n2 c2];have HN:=ae (λW h=>aaS A1 n1 c1 l W hl hm hz h);have HN6:=ae (λW h1 h2=>Yh N A1 n1 c1 l W hl hz h1 h2);have kZ:=ae hr;have hN:N<=w.heap.size:=zo;have hNH:=ae hNe;obtain ⟨re,hre⟩:=ah ((iy l).2);have as7:=ae hre;rw [hre] at HN HN6;obtain ⟨s,hs⟩:=ah (w.heap.size);rw [hs] at k0;clear hl hz hr hre hNe;go_enter func8,ntmps8;go_upto_region 1 with fail
 generalize w.alloc _=w0 at *;try simp only [hs]
 have gN:=aQ w0 (.cells (twC none none bD zN) 47);have ky:=af.new w0 47 (twC none none bD zN);dsimp only [twC,bD] at gN ky;have k1:=k0.call gN;have B1:=hb0.zt gN;obtain ⟨y,hy⟩:=ah (w0.heap.size);have hyw:w.heap.size<=y:=by rw [<-hy];exact hb0.size
 rw [hy] at ky;go_upto_region 2 with fail
 generalize w0.alloc _=w1 at *;try simp only [hy]
 have c1':=k1.cell;have hr1:=(kZ.out.below (B1.mono hN)).more (Nat.le_trans hN B1.size);clear k0 gN hb0;go_wp2_with fail;refine (HN.out _ hr1).mono ?_;rintro e w2 ⟨hcase,hb2⟩;have B2:=B1.zt hb2;obtain ⟨jA,k2⟩:=bY hb2 ky k1;have cy2:=jA.cell;have fy2:=jA.frozen;have ack:=B1.size;clear HN hr1 ky k1 B1 hb2 c1';rcases hcase with ⟨h0,rfl⟩|⟨h0,bs,rfl,hV,hbs⟩
 ·have d0:(re != 0)=true:=by simpa using h0
  have Qe:=ae h0;have F3:ag (λk=>k=y) w2 (w2.setCell ⟨y,0,none⟩ (.pointer none)):=ag.setCell (T:=λk=>k=y) (p:=⟨y,0,none⟩) (ag.refl _ w2) (λ_=>rfl) _;have B3:=B2.setCell (p:=⟨y,0,none⟩) (by show w.heap.size<=y;omega) (.pointer none);have gT:=jA.aM 0 (.pointer none);have k3:=F3.blk k2 (λe=>by have e:s=y:=e;rw [e] at k2;exact k2.ne jA zd);clear h0 k2;go_upto_region 4 with fail
  generalize w2.setCell ⟨y,0,none⟩ _=w3 at *;simp only [List.setIfInBounds_toArray,List.set_cons_zero] at gT;have c3:=k3.cell;have hr3:=kZ.out.below (B3.mono hN);have hN3:=Nat.le_trans hN B3.size;clear jA cy2 fy2 F3 B2;go_wp2_with fail;refine (HN6.out _ hN3 hr3).mono ?_;rintro e w4 ⟨hcase,hb4⟩;rcases hcase with ⟨_,rfl⟩|⟨h0',_⟩
  ·have B4:=B3.zt hb4
   have nH:=gT.call hb4;have cy4:=nH.cell;have fy4:=nH.frozen;have B5:=B4.setCell (p:=⟨y,11,none⟩) (by show w.heap.size<=y;omega) (.pointer none);clear HN6 hr3 gT k3 c3 B3 hb4;go_wp2_with fail;go_ret2;exact ⟨.inl rfl,B5⟩
  ·exact absurd h0' Qe.out
 subst h0;have axF:w.heap.size<=bs:=Nat.le_trans ack hbs;have F3:ag (λk=>k=y) w2 (w2.setCell ⟨y,0,none⟩ (zP bs)):=ag.setCell (T:=λk=>k=y) (p:=⟨y,0,none⟩) (ag.refl _ w2) (λ_=>rfl) _;have B3:=B2.setCell (p:=⟨y,0,none⟩) (by show w.heap.size<=y;omega) (zP bs);have gT:=jA.aM 0 (zP bs);obtain ⟨cv,hcv⟩:=hV.typed;have hyb:y≠bs:=λe=>by subst e;exact jA.ne hcv zd
 have V3:=hV.far F3 (λe=>hyb e.symm) (λ_ _ _ _ _ _ q _ _ _ ⟨_,hq⟩ e=>by have e:q=y:=e;rw [e] at hq;exact hq.ne jA zd);have k3:=F3.blk k2 (λe=>by have e:s=y:=e;rw [e] at k2;exact k2.ne jA zd);have hQ0:Hid (uN l (vS iM l)):=ae ⟨jg.new.plan l,by rw [Oh l as7.out];rfl⟩;generalize vS iM l=V0 at *;clear hV hcv k2 hbs ack;go_upto_region 4 with fail
 generalize w2.setCell ⟨y,0,none⟩ _=w3 at *;simp only [List.setIfInBounds_toArray,List.set_cons_zero] at gT;have c3:=k3.cell;have hr3:=kZ.out.below (B3.mono hN);have hN3:=Nat.le_trans hN B3.size;clear jA cy2 fy2 F3 B2;go_wp2_with fail;refine (HN6.out _ hN3 hr3).mono ?_;rintro e w4 ⟨hcase,hb4⟩;rcases hcase with ⟨h0',_⟩|⟨_,ts,rfl,hU,hts⟩
 ·exact absurd rfl h0'
 have V4:=V3.call hb4;have B4:=B3.zt hb4;obtain ⟨nH,k4⟩:=bY hb4 gT k3;have cy4:=nH.cell;have fy4:=nH.frozen;have axG:w.heap.size<=ts:=Nat.le_trans B3.size hts;have F5:ag (λk=>k=y) w4 (w4.setCell ⟨y,11,none⟩ (zP ts)):=ag.setCell (T:=λk=>k=y) (p:=⟨y,11,none⟩) (ag.refl _ w4) (λ_=>rfl) _;have B5:=B4.setCell (p:=⟨y,11,none⟩) (by show w.heap.size<=y;omega) (zP ts);have qA:=nH.aM 11 (zP ts);have V5:=V4.far F5 (λe=>hyb e.symm) (λ_ _ _ _ _ _ q _ _ _ ⟨_,hq⟩ e=>by have e:q=y:=e;rw [e] at hq;exact hq.ne nH zd);obtain ⟨cu,Cz⟩:=hU.typed;have hyt:y≠ts:=λe=>by subst e;exact nH.ne Cz zd
 have U5:=hU.far F5 (λk hk=>⟨by have e:k=y:=hk;omega,λe=>by have e2:k=y:=hk;exact hyt (e2.symm.trans e)⟩);have k5:=F5.blk k4 (λe=>by have e:s=y:=e;rw [e] at k4;exact k4.ne nH zd);clear V4 V3 hU Cz k4 k3 c3 hr3 hN3 B3 hb4 HN6 hts gT;go_upto_region 5 with fail
 generalize w4.setCell ⟨y,11,none⟩ _=w5 at *;simp only [List.setIfInBounds_toArray,List.set_cons_zero,List.set_cons_succ] at qA;clear nH cy4 fy4 F5 B4;go_wp2_with fail;refine (Nw 4096 w5).mono ?_;rintro e w6 ⟨he,hb6⟩;rw [if_neg zd] at he;obtain ⟨bb,rfl,hbb,hB6⟩:=he;obtain ⟨V6,U6,jE,k6⟩:=vO hb6 V5 U5 qA k5;have B6:=B5.zt hb6;have axH:=B5.size;have Qh:=jE.cell;have Qi:=jE.frozen;have F7:ag (λk=>k=y) w6 (w6.setCell ⟨y,1,none⟩ (zP bb)):=ag.setCell (T:=λk=>k=y) (p:=⟨y,1,none⟩) (ag.refl _ w6) (λ_=>rfl) _;have B7:=B6.setCell (p:=⟨y,1,none⟩) (by show w.heap.size<=y;omega) (zP bb);have yP:=jE.aM 1 (zP bb);have V7:=V6.far F7 (λe=>hyb e.symm) (λ_ _ _ _ _ _ q _ _ _ ⟨_,hq⟩ e=>by have e:q=y:=e;rw [e] at hq;exact hq.ne jE zd);have U7:=U6.far F7 (λk hk=>⟨by have e:k=y:=hk;omega,λe=>by have e2:k=y:=hk;exact hyt (e2.symm.trans e)⟩);have EU:=hB6.far F7 (λe=>by obtain ⟨_,_,kq,_⟩:=hB6.ex;have e:bb=y:=e;rw [e] at kq;exact kq.ne jE zd) (λq ⟨_,_,hq⟩ e=>by have e:q=y:=e;rw [e] at hq;exact hq.ne jE zd);have k7:=F7.blk k6 (λe=>by have e:s=y:=e;rw [e] at k6;exact k6.ne jE zd);clear V6 V5 U6 U5 hB6 k6 k5 qA B5 hb6;go_upto_region 8 with fail
 generalize w6.setCell ⟨y,1,none⟩ _=w7 at *;simp only [List.setIfInBounds_toArray,List.set_cons_zero,List.set_cons_succ] at yP;have hN7:=Nat.le_trans hN B7.size;clear jE Qh Qi F7 B6;go_wp2_with fail;refine (aaK N w7 hN7).mono ?_;rintro e w8 ⟨tb,rfl,ry,htb,rU⟩;obtain ⟨V8,U8,hB8,FJ,k8⟩:=lM rU V7 U7 EU yP k7;have B8:=B7.zt rU;have cy8:=FJ.cell;have fy8:=FJ.frozen;have axI:=Nat.le_trans B7.size htb;have P8:fA w8 N y bs bb ts tb V0 V0 (fK 4096) (fK 4096):=⟨V8,hB8,U8,ry,by have:=B7.size;omega⟩;have F9:ag (λk=>k=y) w8 (w8.setCell ⟨y,12,none⟩ (zP tb)):=ag.setCell (T:=λk=>k=y) (p:=⟨y,12,none⟩) (ag.refl _ w8) (λ_=>rfl) _;have B9:=B8.setCell (p:=⟨y,12,none⟩) (by show w.heap.size<=y;omega) (zP tb);have Eu:=FJ.aM 12 (zP tb);have P9:=P8.Ch FJ F9;have k9:=F9.blk k8 (λe=>by have e:s=y:=e;rw [e] at k8;exact k8.ne FJ zd);clear V8 V7 U8 U7 hB8 EU ry k8 k7 yP B7 rU P8;go_upto_region 9 with fail
 generalize w8.setCell ⟨y,12,none⟩ _=w9 at *;simp only [List.setIfInBounds_toArray,List.set_cons_zero,List.set_cons_succ] at Eu;obtain ⟨cy9,c9⟩:=bB Eu k9;clear FJ cy8 fy8 F9 B8;have HD:=ae (λW h=>TF N tb (fK 4096) lim W h (yY zd) rfl);by_cases hlim:lim<0\/4096<lim
 ·have HC:=ae (QB bb 4096 lim w9 P9.eO zd hlim)
  have hCH:gB (fK 4096) lim=(7,fK 4096):=by unfold gB;rw [if_pos hlim]
  rw [hCH] at HD;simp only [show ¬((7:Int)=0) by decide,if_false] at HD;clear hCH hlim;go_wp2_with fail;refine HC.out.zr λiV GN=>?_
  obtain ⟨Yn,k10,vM⟩:=mY GN P9 k9 Eu;obtain ⟨Uc,c10⟩:=bB vM k10;have B10:=B9.zt GN;clear P9 Eu k9 B9 cy9 c9 HC GN;go_wp2_with fail;refine (HD.out _ Yn.wy).zr ?_;rintro w11 ⟨_,Bp⟩;have B11:=B10.trans (Bp.below B10.size (λk hk e=>by
   have:=hNH.out;rcases e with ⟨e,_⟩|rfl <;> omega))
  clear Bp HD Yn vM k10 B10 Uc c10;go_wp2_with fail;go_ret2;exact ⟨.inl rfl,B11⟩
 have HC:=ae (XE bb 4096 lim w9 P9.eO zd);have hch:=ae (aa0 (l:=lim));have afY:=ae (II (l:=lim) (m:=4096) zd);have hse:(gB (fK 4096) lim).1=0:=by unfold gB;rw [if_neg hlim]
 obtain ⟨CH,hCH⟩:=ah (gB (fK 4096) lim);rw [hCH] at HC HD hch afY hse;obtain ⟨se,sL⟩:=CH;simp only at HC HD hch afY hse;subst hse;rw [if_pos rfl] at HD;clear hCH hlim;go_wp2_with fail;refine HC.out.mono ?_;rintro e iV ⟨⟨ck,rfl,hck⟩,ak3,rO⟩;obtain rfl:=hck trivial;have Yn:=P9.kid ak3 rO;have hne:∀g t cs,af w9 g t cs->t≠145->t≠142->¬(g=bb\/lD bb w9 g):=by
  obtain ⟨_,_,kq,_⟩:=P9.eO.ex;rintro g t cs hg g1 g2 (e|⟨_,ds,hd⟩)
  ·rw [e] at hg;exact hg.ne kq g1
  ·exact hg.ne hd g2
 have vM:=rO.blk Eu (hne _ _ _ Eu zd zd);have k10:=rO.blk k9 (hne _ _ _ k9 zd zd);have B10:=B9.trans (rO.below B9.size (λk hk e=>by rcases e with rfl|⟨e,_⟩ <;> omega));obtain ⟨Uc,c10⟩:=bB vM k10;clear P9 Eu k9 B9 rO hne ak3 cy9 c9 HC;go_wp2_with fail;refine (HD.out _ Yn.wy).zr ?_;rintro w11 ⟨ak4,Bp⟩;have Yo:=Yn.as2 ak4 Bp;have hne:∀g t cs,af iV g t cs->t≠180->t≠140->¬(zV N iV g\/g=tb):=by
  obtain ⟨_,hcb⟩:=Yn.wy.typed;rintro g t cs hg g1 g2 (⟨_,ds,hd⟩|e)
  ·exact hg.ne hd g2
  ·rw [e] at hg;exact hg.ne hcb g1
 have GU:=Bp.blk vM (hne _ _ _ vM zd zd);have k11:=Bp.blk k10 (hne _ _ _ k10 zd zd);have B11:=B10.trans (Bp.below B10.size (λk hk e=>by
  have:=hNH.out;rcases e with ⟨e,_⟩|rfl <;> omega))
 obtain ⟨afj,c11⟩:=bB GU k11;clear Yn vM k10 B10 Bp hne ak4 Uc c10 HD;have HO:=ae (λW h=>GH bs V0 pg n f bk ev 1 W h hQ0.out.1.good.kinds);have HP:=ae (λW h=>Qs N ts V0 pg n f bk ev 1 W h);have hpl:=ae (Yl V0 pg n f bk ev);have Mj:=ae (aa4 (Bd l) hQ0.out pg n f bk ev 1);unfold ek at HO HP;generalize lg V0 pg n f bk ev 1=S at *;obtain ⟨sr,se,sV⟩:=S;simp only at HO HP hpl Mj;go_wp2_with fail;refine (HO.out _ Yo.sys).mono ?_;rintro e XK ⟨v12,rfl,⟨A12,c12,rfl,hl12,jO,sj⟩,Uw⟩;dsimp only [aj];have qx:=aR.iX Yo.sys Yo.eO Uw;have P12:=Yo.prog qx;have Ll:=qx.blk Yo.sys GU zd zd;have k12:=qx.blk Yo.sys k11 zd zd;have B12:=B11.trans (qx.far.below B11.size (λk hk e=>by rcases e with rfl|⟨e,_⟩ <;> omega));have ate:=Ll.cell;have atf:=Ll.frozen;clear Yo GU k11 B11 afj c11 Uw qx HO;go_upto_region 18 with fail
 have F13:=xq XK y sr (.slice A12 sr.kept.length c12);have B13:=B12.trans (F13.below B12.size (λk hk e=>by have e:k=y:=e;omega));have af1:=xm Ll sr (.slice A12 sr.kept.length c12);have k13:=F13.blk k12 (λe=>by have e:s=y:=e;rw [e] at k12;exact k12.ne Ll zd);have Yp:=P12.Ch Ll F13;have yC:=sj.far F13 (λg cs hG e=>by have e:g=y:=e;rw [e] at hG;exact hG.ne Ll zd);change Code.wp _ _ _ _ (xh XK y sr (.slice A12 sr.kept.length c12));generalize xh XK y sr (.slice A12 sr.kept.length c12)=Qk at *;obtain ⟨atg,c13⟩:=bB af1 k13;clear ate atf Ll k12 P12 F13 B12 sj;go_wp2_with fail;refine (HP.out _ Yp.ref).mono ?_;rintro e PD ⟨v14,rfl,⟨A14,c14,rfl,ath,ati,Am⟩,S14⟩;dsimp only [aj];have Dr:=bO.iX Yp.ref Yp.wy S14;have P14:=Yp.GZ Dr;have Lm:=Dr.blk Yp.ref af1 zd zd;have af3:=Dr.kept Yp.ref yC;have B14:=B13.trans (Dr.far.below B13.size (λk hk e=>by
  have:=hNH.out;rcases e with rfl|⟨e,_⟩ <;> omega))
 have atm:=Lm.cell;have atn:=Lm.frozen;clear Yp af1 k13 B13 atg c13 S14 Dr HP yC;go_upto_region 19 with fail
 have Le:=Bf PD y sr (.slice A14 sr.kept.length c14);have B15:=B14.trans (Le.below B14.size (λk hk e=>by have e:k=y:=e;omega));have af4:=Be Lm sr (.slice A14 sr.kept.length c14);have P15:=P14.Ch Lm Le;have Ao:=Am.far Le (λg cs hG e=>by have e:g=y:=e;rw [e] at hG;exact hG.ne Lm zd);have af5:=af3.far Le (λg cs hG e=>by have e:g=y:=e;rw [e] at hG;exact hG.ne Lm zd);change Code.wp _ _ _ _ (Aw PD y sr (.slice A14 sr.kept.length c14));generalize Aw PD y sr (.slice A14 sr.kept.length c14)=w15 at *;clear atm atn Lm P14 Le B14 Am af3;have BA:gI w15 N y bs bb ts tb l (sV,sL,sr):=⟨P15,⟨A12,c12,A14,c14,af4,af5,hl12,jO,Ao,ath,ati⟩,⟨Mj.out,afY.out,(hch.out trivial).2.1,hpl.out⟩⟩;clear P15 Ao af5;go_wp2_with fail;refine (uP N y bs bb ts tb l _ _ BA).zr λw16 af6=>?_
 obtain ⟨as4,Ev⟩:=bY af6 BA af4;have akC:=Ev.cell;have B16:=B15.zt af6;clear BA af4 B15 af6;by_cases h0:se=0
 ·subst h0
  exact afW
 have d0:=gJ h0;cases hcl:sr.cl with
 | true =>
  exact afW
 | false =>
  go_wp2_with fail;go_ret2;exact ⟨.inl rfl,B16⟩
theorem Yq (cs:Array Value) (f:Nat->Bool) (h:bC cs f) (k:Nat) (hk:k<1024) (W:World):(Instr.index 189 (.agg cs) (zI k)).run prog W= .ok (.bool (f k)) W:=by
 have u:=underlying189;have a3:=Tryz.isAgg4;have z3:=Tryz.sizeOf4;have hg:=h.at_ k hk;have h1:0<=(k:Int)/\(k:Int)<1024:=zo;exact acL
theorem ak5 {P:Prop} (h:P:=by
 have hbH:=ae hbm;clear hl hx1 hx2 hrg hbm;go_enter func59,ntmps59;go_wp2_with fail;refine (HI.out _).zr λw1 hb1=>?_
 have k1:=k0.call hb1;have c1:=k1.cell;have atq:=dR.out.on hb1;have B1:=hb0.zt hb1;clear c0 k0 HI;go_wp2_with fail;refine (nV.out _ atq).mono ?_;rintro e w2 ⟨cs,rfl,hM,hb2⟩;have B2:=B1.zt hb2;have hix:=λW=>Yq cs _ hM k hk W
 rw [hbH.out] at hix;clear hM;go_wp2_with fail;go_ret;exact ⟨rfl,B2⟩):P:=h
theorem Yr (r:Cr) (A:Option Addr) (cap:Nat) (p:Int) (w:World) (hk:RU w w.heap.size A r.kept) (hok:NV r) :
  zK 59 #[.agg (aj r (.slice A r.kept.length cap)),zI p] w (zI (if r.cl=true then -1 else jD r p)):=by
 have hb0:=aQ w (.cells (aj r (.slice A r.kept.length cap)) 28);have k0:=af.new w 28 (aj r (.slice A r.kept.length cap));have hz:bQ r.pg r.n r.f r.bk r.ev=0:=bR.2 hok.plan;have HI:=ae (λW=>BR r.pg r.n r.f r.bk r.ev p W (fZ p 0 (ay r.pg r.n r.f r.bk r.ev)) (by rw [if_pos hz]));have nV:=ae (λW h=>qy r A cap W h hok.can);have dR:=ae (hk.on hb0);have hW:jD r p=if mem p (ay r.pg r.n r.f r.bk r.ev)=true then (if GL r (fZ p 0 (ay r.pg r.n r.f r.bk r.ev)).1=true then 2 else 1) else 3:=rfl
 have hU:GL r (fZ p 0 (ay r.pg r.n r.f r.bk r.ev)).1=(decide ((fZ p 0 (ay r.pg r.n r.f r.bk r.ev)).1<r.live)||mem (fZ p 0 (ay r.pg r.n r.f r.bk r.ev)).1 r.kept):=rfl;have hrg:=mG (ay r.pg r.n r.f r.bk r.ev) 0 p (mi hok.plan);have hs1:=(lL hok.plan).2;have hx1:=FK (ay r.pg r.n r.f r.bk r.ev) 0 p;have hx2:=Ov (ay r.pg r.n r.f r.bk r.ev) 0 p;rw [hW,hU];generalize fZ p 0 (ay r.pg r.n r.f r.bk r.ev)=J at *;obtain ⟨j,je⟩:=J;generalize ay r.pg r.n r.f r.bk r.ev=RL at *;generalize mem p RL=mp at *;obtain ⟨pg,n,f,bk,ev,node,live,K,cl⟩:=r;simp only at *;generalize K.length=m at *;unfold ek at HI;dsimp only [aj] at k0 hb0 nV ⊢;have c0:=k0.cell;clear hW hU hk hok hz;cases cl with
 | true =>
  go_enter func59,ntmps59;go_wp2_with fail;go_ret;exact ⟨rfl,hb0⟩
 | false =>
  cases mp with
  | false =>
   have d1:(je != 0)=true:=by simpa using hx2 rfl
   clear hx1 hx2 hrg;go_enter func59,ntmps59;go_wp2_with fail;refine (HI.out _).zr λw1 hb1=>?_
   exact Jo
  | true =>
   obtain rfl:je=0:=hx1 rfl;obtain ⟨h1,h2⟩:=hrg rfl;obtain ⟨k,rfl⟩:∃k:Nat,j=k:=⟨j.toNat,zo⟩;have hk:k<1024:=zo;by_cases hl:(k:Int)<live
   ·have d1:=bU hl
    rw [d1];clear hl hx1 hx2 hrg;go_enter func59,ntmps59;go_wp2_with fail;refine (HI.out _).zr λw1 hb1=>?_
    have c1:=(k0.call hb1).cell;exact Jo
   ·have d1:=bV hl
    rw [d1];cases hbm:mem (k:Int) K with
    | true =>
     exact ak5
    | false =>
     exact ak5
theorem ak6 {P:Prop} (h:P:=by
 subst hbad;rw [if_neg zs] at hf2;have hf3:=ae hf2;clear hf2 hwn h1;go_wp2_with fail;refine (Ti.out tY).zr λw3 hb3=>?_
 have k3:=k2.call hb3;have B3:=B2.trans (hb3.mono (by have:=B2.size;omega));have q3:=((hkb.call hb3).cell p).trans hkd;go_wp2_with fail;go_roundw
 case rel=>exact ⟨j+1,by rw [show a+(j+1)=p+1 by omega];go_num,zo,hf3,k3,B3⟩
 case measure=>exact zm):P:=h
theorem ak7 {P:Prop} (h:P:=by
 go_wp2_with fail;refine (Ti.out tY).zr λw3 hb3=>?_
 have k3:=k2.call hb3;have B3:=B2.trans (hb3.mono (by have:=B2.size;omega));have q3:=((hkb.call hb3).cell p).trans hkd;go_wp2_with fail
 (try simp only [Exit.inBlock,Exit.then]);refine bodyPost_ret (results_tmp3 rfl _ _ _) rfl ?_
 exact ⟨rfl,B3⟩):P:=h
theorem Lp (B bs:Nat) (V:Vm) (r:Cr) (A:Option Addr) (cap:Nat) (w:World) (hV:bn w B bs V) (hcap:r.kept.length<=cap) (hcm:cap<=maxLen) (hk:RU w w.heap.size A r.kept) :
  zK 13 #[zP bs,.agg (aj r (.slice A r.kept.length cap))] w (.tuple #[.bool (mW V r).1,zI (mW V r).2.1,zI (mW V r).2.2]):=by
 have hb0:=aQ w (.cells (aj r (.slice A r.kept.length cap)) 28);have k0:=af.new w 28 (aj r (.slice A r.kept.length cap));have Bv:=ae (λW h=>iC r A cap W hcap hcm h);obtain ⟨R,hR⟩:=ah (mW V r);rw [hR];unfold mW at hR;have dR:=ae (hk.on hb0);by_cases h0:bq r=0
 case neg =>
  rw [if_pos h0] at hR;subst hR;generalize bq r=ck at *;have d1:(ck != 0)=true:=by simpa using h0
  obtain ⟨pg,n,f,bk,ev,node,live,K,cl⟩:=r;simp only at *;generalize K.length=m at *;dsimp only [aj] at k0 hb0 Bv ⊢;have c0:=k0.cell;clear h0;go_enter func13,ntmps13;go_wp2_with fail;refine (Bv.out _ dR.out).zr λw1 hb1=>?_
  go_wp2_with fail
  (try simp only [Exit.inBlock,Exit.then]);refine bodyPost_ret (results_tmp3 rfl _ _ _) rfl ?_
  exact ⟨rfl,hb0.zt hb1⟩
 rw [if_neg (by simpa using h0)] at hR;have hok:=fw.1 h0;rw [h0] at Bv;have HKd:=ae (λW p h=>Yr r A cap p W h hok);have att:=ae (λp=>(show Od V r p=if r.cl=true then (kd V p.toNat != 1&&kd V p.toNat != 3) else kd V p.toNat != jD r p from rfl));have hWn:=ae (λp=>(show 1<=jD r p/\jD r p<=3 by unfold jD;split <;> (try split) <;> omega));have hp0:=hok.plan.Cv;have hp1:=hok.plan.n0;have hp2:=hok.plan.n1;have hstep:=ae (λ(k:Nat) (p:Int)=>(show Ag V r (k+1) p=if Od V r p=true then (false,p) else Ag V r k (p+1) from rfl));have hzero:=ae (λ(p:Int)=>(show Ag V r 0 p=(true,-1) from rfl));generalize Ag V r=FL at *;generalize Od V r=BD at *;generalize jD r=WN at *;obtain ⟨pg,n,f,bk,ev,node,live,K,cl⟩:=r;simp only at *;obtain ⟨a,rfl⟩:∃a:Nat,pg=a:=⟨pg.toNat,zo⟩;obtain ⟨nb,rfl⟩:∃nb:Nat,n=nb:=⟨n.toNat,zo⟩;have hab:a+nb<=1024:=zo;rw [Int.toNat_natCast] at hR;generalize K.length=m at *;dsimp only [aj] at k0 hb0 Bv HKd ⊢;have c0:=k0.cell;have hRH:=ae hR;obtain ⟨s,hs⟩:=ah (w.heap.size);unfold zK;rw [hs] at k0 hb0 c0 ⊢;have RF:=ae hV;have Yt:=ae hk;rw [hs] at Yt;clear hok h0 hp0 hp1 hp2 hR hk hV;go_enter func13,ntmps13;go_upto_region 1 with fail
 try simp only [hs]
 generalize w.alloc _=w0 at *;go_wp2_with fail;refine (Bv.out _ dR.out).zr λw1 hb1=>?_
 have k1:=k0.call hb1;have c1:=k1.cell;have B1:=hb0.trans (hb1.mono (by have:=hb0.size;omega));clear c0 k0 Bv;go_wp2_with fail;clear c1
 go_loopw [8] (λv8 wr=>∃j:Nat,v8 = zI ((a+j:Nat):Int)/\j<=nb/\Hid (((FL (nb - j) ((a+j:Nat):Int)).1,(FL (nb - j) ((a+j:Nat):Int)).2,0)=R)/\af wr s 28 #[zI a,zI nb,zI f,zI bk,zI ev,zI node,zI live,.slice A m cap,.bool cl]/\Below s w wr) (λv _=>a+nb - (intOf v).toNat)
 case atStart=>exact ⟨0,rfl,zo,ae (by rw [Nat.sub_zero,Nat.add_zero];exact hRH.out),k1,B1⟩
 case round =>
  clear k1 B1;obtain ⟨j,rfl,hj,hfl,k2,B2⟩:=hrel;have c2:=k2.cell;by_cases hjn:j<nb
  ·have d1:decide (((a+j:Nat):Int)<(a:Int)+(nb:Int))=true:=by rw [decide_eq_true_eq];omega
   have hf2:=hfl.out;obtain ⟨q,hq⟩:∃q,nb - j=q+1:=⟨nb - j - 1,zo⟩;have hq2:q=nb - (j+1):=zo;rw [hq,hstep.out] at hf2;obtain ⟨p,hp⟩:=ah (a+j);have hp1:p<1024:=zo;have hpj:((p:Nat):Int)+1=((a+(j+1):Nat):Int):=zo;rw [hp] at hf2 d1 ⊢;rw [hpj,hq2] at hf2;have hV2:=RF.out.call (show Below w.heap.size w wr by rw [hs];exact B2);have hbad:=att.out (p:Int);rw [Int.toNat_natCast] at hbad;have hwn:=hWn.out (p:Int);have Ti:=ae (HKd.out wr (p:Int));have tY:RU wr wr.heap.size A K:=(Yt.out.below B2).more (by have:=B2.size;omega);obtain ⟨rcs,rA,rn,asY,hkb,hc,_⟩:=hV2.ex;have hkd:=hc.kind p hp1;have DV:kd V p=(V.pg p).kind:=rfl;rw [DV] at hbad;generalize (V.pg p).kind=kv at *;generalize WN (p:Int)=wv at *;generalize BD (p:Int)=bv at *;clear hc hV2 DV hfl dR;cases cl with
   | true =>
    rw [if_pos rfl] at Ti hbad;by_cases h1:kv=1
    ·subst h1
     rw [show ((1:Int) != 1)=false by decide,Bool.false_and] at hbad;subst hbad;rw [if_neg zs] at hf2;have hf3:=ae hf2;clear hf2 hwn;go_wp2_with fail;refine (Ti.out tY).zr λw3 hb3=>?_
     have k3:=k2.call hb3;have B3:=B2.trans (hb3.mono (by have:=B2.size;omega));have q3:=((hkb.call hb3).cell p).trans hkd;go_wp2_with fail;go_roundw
     case rel=>exact ⟨j+1,by rw [show a+(j+1)=p+1 by omega];go_num,zo,hf3,k3,B3⟩
     case measure=>exact zm
    have h1':=gJ h1;rw [h1',Bool.true_and] at hbad;by_cases h3:kv=3
    ·subst h3
     rw [show ((3:Int) != 3)=false by decide] at hbad;exact ak6
    have h3':=gJ h3;rw [h3'] at hbad;subst hbad;rw [if_pos rfl] at hf2;simp only at hf2;subst hf2;clear hwn h1 h3;exact ak7
   | false =>
    rw [if_neg zs] at Ti hbad;have d2:decide (0<=wv)=true:=by rw [decide_eq_true_eq];omega
    have d3:decide (wv<0)=false:=by rw [decide_eq_false_iff_not];omega
    by_cases h1:kv=wv
    ·have h1':=Ha h1
     rw [h1'] at hbad;exact ak6
    have h1':=gJ h1;rw [h1'] at hbad;subst hbad;rw [if_pos rfl] at hf2;simp only at hf2;subst hf2;clear hwn h1;exact ak7
  obtain rfl:j=nb:=zo;have d1:decide (((a+j:Nat):Int)<(a:Int)+(j:Int))=false:=by rw [decide_eq_false_iff_not];omega
  have hf2:=hfl.out;rw [Nat.sub_self,hzero.out] at hf2;simp only at hf2;subst hf2;go_wp2_with fail
  (try simp only [Exit.inBlock,Exit.then]);refine bodyPost_ret (results_tmp3 rfl _ _ _) rfl ?_
  exact ⟨rfl,B2⟩
def Yu (V:Vm) (w:World) (e:Ending) (w':World):Prop:=∃b,e= .returned (.tuple #[zP b,zI 0])/\aA w' b V/\w.heap.size<=b/\Below w.heap.size w w'
theorem MZ:∀args w,(callFunc 52 args).run prog w= .ok (.enter 52 args) w:=enters_of func52 zk rfl
theorem M0:∀args w,(callFunc 54 args).run prog w= .ok (.enter 54 args) w:=enters_of func54 zk rfl
theorem Yv (b p:Nat) (V:Vm) (W:World) (hV:aA W b V) (hp:p<1024):Calls prog 52 #[.pointer (some ⟨b,1+p*66,none⟩)] W λe W'=>e= .returned (.bool ((V.pg p).kind==2))/\Below W.heap.size W W':=by
 obtain ⟨cs,A,n,cap,hk,hc,_⟩:=hV.ex;have c0:=(hk.cell (1+p*66)).trans (hc.kind hp);generalize (V.pg p).kind=kd at *;clear hk hc hV;go_enter func52,ntmps52;exact VS
theorem Yw (b p:Nat) (V:Vm) (W:World) (hV:aA W b V) (hp:p<1024):Calls prog 54 #[.pointer (some ⟨b,1+p*66,none⟩)] W λe W'=>e= .returned (.tuple #[])/\aA W' b (V.gq p ((V.pg p).dQ true))/\ag (λk=>k=b) W W':=by
 have hset:=ae (hV.zD hp true);obtain ⟨cs,A,n,cap,hk,hc,_⟩:=hV.ex;have c0:=(hk.cell (1+p*66+1)).trans (hc.Bo hp);have f0:=hk.frozen;clear hk hc hV;go_enter func54,ntmps54;exact VU
theorem UD (A:Option Addr) (n cap:Nat) (l:List Ru) (w:World) (hn:l.length=n) (hm:n<=1000) (hr:Rd w w.heap.size A (fl iU l)) :
  Calls prog 49 #[.slice A n cap] w λe w'=>∃v,e= .returned v/\AR l w v w':=by
 cases A with
 | some ad=>exact vB (some ad) n cap l w hn hm (λh=>(by cases h)) hr
 | none =>
  have heq:=Nz;exact aiH
theorem Bg {α:Type} (f:Vm->α->Vm) (hf:∀U x,(f U x).rf=U.rf):∀(l:List α) (U:Vm),(l.foldl f U).rf=U.rf
 | [],_=>rfl
 | x::r,U=>by rw [List.foldl_cons,Bg f hf r,hf]
theorem Lv {P:Program} {ops:Array Oper} {C:World->Prop} {Q:Act->Prop} {a:Act} {o:Oper} {rest:List Oper} (x:Operand) (ty:TypeId) (p:Addr) (v:Value) (hg:Region.wanted o (yielded ops a.tmps)=true) (h:o.op= .load ty x) (hx:a.eval x= .pointer (some p)) (hl:∀w,C w->(loadVar ty p).run P w= .ok v w)
  (hk:wpQuiet P ops C Q rest (a.put o.dst v)):wpQuiet P ops C Q (o::rest) a :=
 wpQuiet_step λK hK=>by
  rw [if_pos hg];refine ⟨v,λw hw=>?_,hK _ hk⟩;unfold Oper.quietAt;have e:(execOp a.eval o).run P w= .ok (.value v) w:=by
   unfold execOp;simp only [h];simp [hx,Instr.loadAt,Instr.sureAddr,Result.andThen,hl w hw]
  rw [e];exact ⟨rfl,rfl⟩
theorem ak8 {P:Prop} (h:P:=by
 refine aD zk zk ?_
 repeat (go_big_quiet_step (fail))
 refine Lv (.tmp 185) 100 ⟨g,1,none⟩ (.agg X) rfl rfl rfl (by rintro _ ⟨z,rfl⟩;exact hld z) ?_;simp only [Act.put,List.setIfInBounds_toArray,List.set_cons_zero,List.set_cons_succ]
 repeat (go_big_quiet_step (fail))
 refine wpQuiet_nil ?_;rintro w2 ⟨⟨_,hw2⟩,rfl⟩;go_wp2_with fail;go_meet
 case rel=>exact ⟨rfl,_,rfl,hw2⟩):P:=h
theorem ak9 {P:Prop} (h:P:=by
 clear FU;go_wp2_with fail;refine (HF.out _).zr λw7 hw7=>?_
 replace hw7:=hw7.symm;subst hw7;go_wp2_with fail;refine (HA.out _ U6).zr λw8 rU=>?_
 go_wp2_with fail;go_meet
 case rel=>exact ⟨rfl,rU⟩):P:=h
theorem af9 {P:Prop} (h:P:=by
 clear e1 z7 U6 k6;go_wp2_with fail;go_meet
 case rel=>exact ⟨rfl,rfl⟩):P:=h
theorem abo (S:Value) (V:Vm) (w:World) (hS:JG w S V) (hH:jg V) (hok:uf V.rf) :
  Calls prog 10 #[S] w (Yu V w):=by
 obtain ⟨A1,A2,A3,A4,n1,c1,n2,c2,n3,c3,n4,c4,rfl,h1,r1,h2,r2,h3,r3,h4,r4⟩:=hS.ex;have hm4:n4<=1000:=by have:=(lZ.1 hok.plan).1;omega
 have hn1:=qU V 1024;have hn2:=wP V 1024;have hn3:=wQ V 1024;have hb0:=aQ w (.cells (gG (.slice A1 n1 c1) (.slice A2 n2 c2) (.slice A3 n3 c3) (.slice A4 n4 c4) V.rf.calls V.rf.hits).toArray 60);have k0:=af.new w 60 (gG (.slice A1 n1 c1) (.slice A2 n2 c2) (.slice A3 n3 c3) (.slice A4 n4 c4) V.rf.calls V.rf.hits).toArray;have r40:=r4.fB hb0;have Bv:=ae (λW h=>yu A4 n4 c4 V.rf W hok h4 h);have Sa:=ae (λW h=>UD A4 n4 c4 V.rf.rules W h4 hm4 h);have hrc:=ae (λi (hi:i<(aF V 1024).length) x (hx:(aF V 1024).getD i DW=x)=>abn hH.good.kinds hi hx);have r1H:=ae r1;have r2H:=ae r2;have r3H:=ae r3;obtain ⟨s,hs⟩:=ah (w.heap.size);rw [hs] at k0;unfold gG aH at k0 hb0 r40;unfold ic aH at Bv;have hLO:Yu V w=λe w'=>∃b,e= .returned (.tuple #[zP b,zI 0])/\aA w' b V/\w.heap.size<=b/\Below w.heap.size w w':=rfl
 obtain ⟨QQ,hQQ⟩:=ah (Yu V w);have hQH:=ae (hQQ.symm.trans hLO);have hzs:=zeroCells105_size;have hzz:=Jv;obtain ⟨zc,hzc⟩:=ah (zeroCells105);rw [hzc] at hzs hzz;have hne:¬zc=#[]:=λe=>by rw [e] at hzs;simp at hzs
 have hC:=ae (af8 hzz (.slice A4 n4 c4) V.rf);have atu:=ae hok;have h4H:=ae h4;clear hzz r1 r2 r3 r4 hS hok hLO h4;rw [hQQ];clear hQQ;unfold gG aH;generalize zg:V.rf.calls=ca at *;generalize hhi:V.rf.hits=hi at *;clear zg hhi;go_enter func10,ntmps10;go_upto_region 1 with fail
 generalize w.alloc _=w0 at *;try simp only [hs]
 have c0:=k0.cell;go_wp2_with fail;refine (Bv.out _ r40).zr λw1 hb1=>?_
 have B1:=hb0.zt hb1;have k1:=k0.call hb1;have r41:=r40.fB hb1;have c1':=k1.cell;clear c0 k0 hb0 hb1 Bv r40;go_upto_region 4 with fail
 obtain ⟨bS,hbS⟩:=ah (w1.heap.size);have hsb:s<bS:=by have:=k1.lt;omega
 have hwb:w.heap.size<=bS:=by have:=B1.size;omega
 have hb2:=aQ w1 (.cells (eX (eX zc 0 [.bool true]) 67585 (aH (.slice A4 n4 c4) ca hi)) 105);have kS:=af.new w1 105 (eX (eX zc 0 [.bool true]) 67585 (aH (.slice A4 n4 c4) ca hi));have k2:=k1.call hb2;have r42:=r41.fB hb2;have B2:=B1.zt hb2;rw [hbS] at kS;go_upto_region 5 with fail
 try simp only [hbS]
 change Code.wp _ _ _ _ (w1.alloc (.cells (eX (eX zc 0 [.bool true]) 67585 (aH (.slice A4 n4 c4) ca hi)) 105));generalize w1.alloc _=w2 at *;obtain ⟨cS,hcS⟩:=ah (eX (eX zc 0 [.bool true]) 67585 (aH (.slice A4 n4 c4) ca hi));rw [hcS] at kS hC;have c2':=k2.cell;clear hcS hne hzs hzc k1 r41 c1' B1 hb2 hbS;go_wp2_with fail;refine (Sa.out _ r42).mono ?_;rintro e w3 ⟨v3,rfl,A5,c5,rfl,hr5,hl5,hm5,aga,agb,hb3⟩;obtain ⟨Yx,k3⟩:=bY hb3 kS k2;have B3:=B2.zt hb3;have aty:=kS.lt;have fq3:=Yx.frozen;have ck3:=k3.cell;have hold:∃v0,w3.cell? ⟨bS,67585,none⟩=some v0:=⟨_,(Yx.cell 67585).trans (hC.out.rf 0 zo)⟩;have F4:ag (λk=>k=bS) w3 (w3.setCell ⟨bS,67585,none⟩ (.slice A5 V.rf.rules.length c5)):=ag.setCell (T:=λk=>k=bS) (p:=⟨bS,67585,none⟩) (ag.refl _ w3) (λ_=>rfl) _;have U4:aA (w3.setCell ⟨bS,67585,none⟩ (.slice A5 V.rf.rules.length c5)) bS { iM with rf:=V.rf }:=by
  refine ⟨_,A5,V.rf.rules.length,c5,Yx.aM 67585 _,hC.out.abm _,rfl,(hr5.keepR F4 (λg o e h=>?_)).more F4.size,agb.1,λg o e h=>?_,atu.out,λg o e h=>?_⟩
  all_goals (obtain ⟨cr,hcr⟩:=agb.2 g o e h)
  ·exact λe2=>by have e2:g=bS:=e2;rw [e2] at hcr;exact af.ne hcr Yx zd
  ·exact λe2=>by rw [e2] at hcr;exact af.ne hcr Yx zd
  ·exact ⟨cr,F4.blk hcr (λe2=>by have e2:g=bS:=e2;rw [e2] at hcr;exact af.ne hcr Yx zd)⟩
 have k4:=F4.blk k3 zo;have B4:=B3.trans (F4.below B3.size (λk hk e=>by have e:k=bS:=e;omega));obtain ⟨R1,hR1⟩:∃R,aF V 1024=R:=⟨_,rfl⟩;have hUf:=ae (λq hq=>abl V { iM with rf:=V.rf } (λ_=>rfl) (q:=q) hq);rw [hR1] at h1 hn1 hrc r1H hUf;have h1H:=ae h1;obtain ⟨v0,hold⟩:=hold;have hU0:Hid ((∀q,(({ iM with rf:=V.rf }:Vm).pg q).bP=false/\∀k,(({ iM with rf:=V.rf }:Vm).pg q).fe k=0)/\({ iM with rf:=V.rf }:Vm).rf=V.rf):=ae ⟨λq=>⟨rfl,λk=>rfl⟩,rfl⟩;generalize ({ iM with rf:=V.rf }:Vm)=U0 at *;clear ck3 Yx k3 B3 F4 agb aga hm5 hl5 hr5 hb3 kS hC k2 r42 B2 c2' Sa aty h1;go_upto_region 6 with fail
 generalize w3.setCell ⟨bS,67585,none⟩ _=w4 at *;have TP:=k4.cell;clear fq3 hold;go_wp2_with fail;clear TP
 go_loopw [6,7,38] (λv6 v7 v38 wr=>∃i:Nat,v38 = zI i/\i<=n1/\v6 = zI (G9 R1 i).1/\v7 = zI (G9 R1 i).2/\aA wr bS ((R1.take i).foldl wD U0)/\af wr s 60 #[.slice A1 n1 c1,.slice A2 n2 c2,.slice A3 n3 c3,.slice A4 n4 c4,zI (ca 0),zI (ca 1),zI (ca 2),zI (ca 3),zI (ca 4),zI (ca 5),zI (ca 6),zI (hi 0),zI (hi 1),zI (hi 2),zI (hi 3),zI (hi 4),zI (hi 5),zI (hi 6)]/\Below w.heap.size w wr) (λ_ _ v _=>n1 - (intOf v).toNat)
 case atStart=>exact ⟨0,rfl,zo,rfl,rfl,by rw [List.take_zero];exact U4,k4,B4⟩
 case round =>
  clear U4 k4 B4;obtain ⟨i,rfl,hin,rfl,rfl,U5,k5,B5⟩:=hrel;by_cases hi1:i<n1
  ·have d1:decide ((i:Int)<(n1:Int))=true:=by rw [decide_eq_true_eq];omega
   have Mv:i<R1.length:=by have:=h1H.out;omega
   obtain ⟨ab,ao,rfl,hab,hac⟩:=r1H.out.elem uh zo DW (k:=i) Mv;obtain ⟨x,hx⟩:=ah (R1.getD i DW);have hcx:=hrc.out i Mv x hx;have htk:=nK DW R1 Mv;have hend:G9 R1 (i+1)=(x.1+x.2.1,x.2.2):=by rw [<-hx];rfl
   rw [hx] at hac htk;obtain ⟨xa,xb,xc⟩:=x;simp only at hcx hend;have hax:∀j v,(rG (xa,xb,xc))[j]? = some v->wr.cell? ⟨ab,ao+i*3+j,none⟩=some v:=λj v hv=>(B5.cell (p:=⟨ab,ao+i*3+j,none⟩) hab).trans (hac j v hv)
   have q0:=hax 0 _ rfl;have q1:=hax 1 _ rfl;have q2:=hax 2 _ rfl;rw [Nat.add_zero] at q0;obtain ⟨E,hE⟩:=ah (G9 R1 i);rw [hE] at hcx;simp only [hE];obtain ⟨nx,la⟩:=E;simp only at hcx ⊢;obtain ⟨z1,z2,z3,z4,z5,z6,z7⟩:=hcx;obtain ⟨a,rfl⟩:∃a:Nat,xa=a:=⟨xa.toNat,zo⟩;obtain ⟨c,rfl⟩:∃c:Nat,xb=c:=⟨xb.toNat,zo⟩;have ala:(R1.take (i+1)).foldl wD U0=((R1.take i).foldl wD U0).dD a c (λg=>{ g with kind:=xc }):=by
    rw [htk,List.foldl_append];rfl
   have agd:=ae ala;have age:=ae hend;have hbx:=aQ wr (.cells #[zI a,zI c,zI xc] 110);have kx:=af.new wr 110 #[zI a,zI c,zI xc];obtain ⟨U6,k6⟩:=bY hbx U5 k5;have B6:=B5.zt hbx;obtain ⟨g,hg⟩:=ah (wr.heap.size);have hgb:bS<g:=by have:=U5.lt;omega
   have hgs:s<g:=zo;rw [hg] at kx;clear ala hend htk hx hE hac hax U5 k5 B5 hbx;go_upto_region 10 with fail
   try simp only [hg]
   generalize wr.alloc _=wx at *;have cx:=kx.cell;clear q0 q1 q2 hg
   go_cut [80] from 42 to 80 (λs80 W=>.bool false=s80/\wx=W)
   case first =>
    have d2:decide ((a:Int)<nx)=false:=by rw [decide_eq_false_iff_not];omega
    have d3:decide ((c:Int)<1)=false:=by rw [decide_eq_false_iff_not];omega
    have d4:decide (1024 - (a:Int)<(c:Int))=false:=by rw [decide_eq_false_iff_not];omega
    have d5:decide (xc<1)=false:=by rw [decide_eq_false_iff_not];omega
    have d6:decide (3<xc)=false:=by rw [decide_eq_false_iff_not];omega
    by_cases e1:(a:Int)=nx
    ·have e2:(xc==la)=false:=by rw [beq_eq_false_iff_ne];exact λe=>z7 ⟨e1,e⟩
     have e3:=Hd e1;exact af9
    ·have e3:=lV e1
     exact af9
   obtain ⟨rfl,rfl⟩:=hcut;obtain ⟨Ui,hUi⟩:=ah ((R1.take i).foldl wD U0);rw [hUi] at U6 agd;clear hUi z7;go_wp2_with fail;clear cx
   go_loopw [83] (λv83 wq=>∃m:Nat,v83 = zI m/\m<=c/\aA wq bS (Ui.dD a m (λg=>{ g with kind:=xc }))/\af wq g 110 #[zI a,zI c,zI xc]/\af wq s 60 #[.slice (some ⟨ab,ao,none⟩) n1 c1,.slice A2 n2 c2,.slice A3 n3 c3,.slice A4 n4 c4,zI (ca 0),zI (ca 1),zI (ca 2),zI (ca 3),zI (ca 4),zI (ca 5),zI (ca 6),zI (hi 0),zI (hi 1),zI (hi 2),zI (hi 3),zI (hi 4),zI (hi 5),zI (hi 6)]/\Below w.heap.size w wq) (λv _=>c - (intOf v).toNat)
   case atStart=>exact ⟨0,rfl,zo,by rw [Vm.zA];exact U6,kx,k6,B6⟩
   case round =>
    clear U6 kx k6 B6;obtain ⟨m,rfl,hm,U7,Bq,k7,B7⟩:=hrel;by_cases hmc:m<c
    ·have d1:decide ((m:Int)<(c:Int))=true:=by rw [decide_eq_true_eq];omega
     have e0:=λx:Ext wr=>(x.blk Bq).cell
     go_upto_region 15 with fail
     refine df 11 zk zk ?_;simp only [List.take_succ_cons,List.take_zero,List.drop_succ_cons,List.drop_zero]
     repeat (go_big_quiet_step (fail))
     refine wpQuiet_nil ?_;intro z;have U8:=U7.call z.le;have kx8:=Bq.call z.le;have k8:=k7.call z.le;have B8:=B7.zt z.le;have ham:a+m<1024:=zo;obtain ⟨U9,F9⟩:=U8.setKind ham xc;obtain ⟨ucs,uA,un,alb,hkb,Cz,_⟩:=U8.ex;have q0:=(hkb.cell (1+(a+m)*66)).trans (Cz.kind ham);have f0:=hkb.frozen;have hset:=ae (And.intro U9 F9);clear U8 U9 F9 hkb Cz U7 Bq k7 B7 e0;go_wp2_with fail;obtain ⟨U9,F9⟩:=hset.out;go_roundw
     case rel=>exact ⟨m+1,by go_num,zo,by rw [Vm.zC];exact U9,F9.blk kx8 zo,F9.blk k8 zo,B8.trans (F9.below (by have:=B8.size;omega) (λk hk e=>by have e:k=bS:=e;omega))⟩
     case measure=>exact zm
    obtain rfl:m=c:=zo;have d1:decide ((m:Int)<(m:Int))=false:=by rw [decide_eq_false_iff_not];omega
    have e0:=λx:Ext wr=>(x.blk Bq).cell
    rw [<-agd.out] at U7;go_upto_region 17 with fail
    refine aD zk zk ?_
    repeat (go_big_quiet_step (fail))
    refine wpQuiet_nil ?_;rintro w9 ⟨⟨_,cZ⟩,rfl⟩;obtain ⟨U9,k9⟩:=bY cZ U7 k7;have B9:=B7.zt cZ;go_wp2_with fail;go_roundw
    case rel=>exact ⟨i+1,by go_num,zo,by rw [age.out],by rw [age.out],U9,k9,B9⟩
    case measure=>exact zm
  ·obtain rfl:n1=i:=zo
   have d1:decide ((n1:Int)<(n1:Int))=false:=by rw [decide_eq_false_iff_not];omega
   rw [List.take_of_length_le (by have:=h1H.out;omega)] at U5;have agf:=ae ((Bg wD (λ_ _=>rfl) R1 U0).trans hU0.out.2);obtain ⟨UA,hUA⟩:=ah (R1.foldl wD U0);rw [hUA] at U5 hUf agf;obtain ⟨H1,hH1⟩:∃H,dC V 1024=H:=⟨_,rfl⟩;have Lx:=ae (λp=>xy V p 1024);have Yy:=ae (Oy V 1024);have Yz:=ae (λq hq=>af7 hH (q:=q) hq);rw [hH1] at r2H h2 hn2 Lx Yy Yz;have h2H:=ae h2;have FC:=k5.cell;clear hUA hH1 hrc r1H h1H h2;go_wp2_with fail;clear FC
   go_loopw [109] (λv109 wr=>∃j:Nat,v109 = zI j/\j<=n2/\aA wr bS ((H1.take j).foldl (λU p=>U.dD p.toNat 16 (λg=>g.dQ true)) UA)/\af wr s 60 #[.slice A1 n1 c1,.slice A2 n2 c2,.slice A3 n3 c3,.slice A4 n4 c4,zI (ca 0),zI (ca 1),zI (ca 2),zI (ca 3),zI (ca 4),zI (ca 5),zI (ca 6),zI (hi 0),zI (hi 1),zI (hi 2),zI (hi 3),zI (hi 4),zI (hi 5),zI (hi 6)]/\Below w.heap.size w wr) (λv _=>n2 - (intOf v).toNat)
   case atStart=>exact ⟨0,rfl,zo,by rw [List.take_zero];exact U5,k5,B5⟩
   case round =>
    clear U5 k5 B5;obtain ⟨j,rfl,hj,U6,k6,B6⟩:=hrel;by_cases hjn:j<n2
    ·have d1:decide ((j:Int)<(n2:Int))=true:=by rw [decide_eq_true_eq];omega
     have hjH:j<H1.length:=by have:=h2H.out;omega
     obtain ⟨hb,ho,rfl,hhb,hc⟩:=r2H.out.at_ (k:=j) hjH;have q0:=(B6.cell (p:=⟨hb,ho+j,none⟩) hhb).trans hc;have hmm:H1.getD j 0∈H1:=by rw [List.getD_eq_getElem?_getD,List.getElem?_eq_getElem hjH];exact List.getElem_mem hjH
     obtain ⟨m,hm1,hm2,Yj,atE⟩:=(Lx.out _).1 hmm;have htk:=nK 0 H1 hjH;have FU:Hid (∀k,j=k+1->∃z:Int,z<(m:Int)/\wr.cell? ⟨hb,ho+k,none⟩=some (zI z)):=ae (λk hk=>by
      obtain ⟨hb',ho',e,_,hc'⟩:=r2H.out.at_ (k:=k) zo;cases e;refine ⟨_,?_,(B6.cell (p:=⟨hb,ho+k,none⟩) hhb).trans hc'⟩;have hp:=List.pairwise_iff_getElem.1 Yy.out k j zo hjH zo;rw [List.getD_eq_getElem?_getD,List.getElem?_eq_getElem (by omega:k<H1.length),Option.getD_some];rw [List.getD_eq_getElem?_getD,List.getElem?_eq_getElem hjH,Option.getD_some] at hm2;omega)
     rw [hm2] at q0 htk;obtain ⟨Uj,hUj⟩:=ah ((H1.take j).foldl (λU p=>U.dD p.toNat 16 (λg=>g.dQ true)) UA);have hkj:∀q,q<1024->(Uj.pg q).kind=(V.pg q).kind:=λq hq=>by
      rw [<-hUj,Ox _ _ (λp hp=>by obtain ⟨a,_,b,_⟩:=(Lx.out p).1 (List.mem_of_mem_take hp);omega)];show (UA.pg q).kind=_;rw [hUf.out q hq]
     have hall:qR Uj m 16 (λg=>g.kind==2)=true:=iQ.2 (λq h1 h2=>by
      have h3:(V.pg q).bP=true:=by rw [hH.Ur q m zo hm1 zo];exact atE
      rw [hkj q zo,hH.good.Bo q zo h3];rfl)
     have hstep:(H1.take (j+1)).foldl (λU p=>U.dD p.toNat 16 (λg=>g.dQ true)) UA=Uj.dD m 16 (λg=>g.dQ true):=by
      rw [htk,List.foldl_append,hUj];rfl
     rw [hUj] at U6;have Y1:jJ (m:Int)=true:=FO.2 ⟨zo,zo,zo⟩;have HF:=ae (λW=>ou (m:Int) W);rw [Y1] at HF;have HA:=ae (λW (h:aA W bS Uj)=>RD bS m 16 (λg=>g.kind==2) _ #[] Uj W zo MZ (λq hq W' hb'=>Yv bS q Uj W' (h.call hb') hq));rw [hall] at HA;have HE:=ae (λW (h:aA W bS Uj)=>NJ bS m 16 (λg=>g.dQ true) _ #[] Uj W h zo M0 (λq hq V' W' hW _=>Yw bS q V' W' hW hq));rw [show ((16:Nat):Int)=16 from rfl] at HA HE;have ahW:=ae hstep;have c6':=k6.cell;clear hUj hkj hall hstep Y1 htk hmm hc;go_upto_region 22 with fail
     clear c6' q0
     go_cut [136] from 114 to 136 (λatF W=>.bool false=atF/\Below wr.heap.size wr W)
     case first =>
      have c6':=k6.cell;by_cases hj0:j=0
      ·subst hj0
       exact ak9
      ·obtain ⟨z,hz,qz⟩:=FU.out (j - 1) zo
       have d2:decide ((0:Int)<(j:Int))=true:=by rw [decide_eq_true_eq];omega
       have d3:decide ((m:Int)<=z)=false:=by rw [decide_eq_false_iff_not];omega
       exact ak9
     obtain ⟨rfl,hbc⟩:=hcut;obtain ⟨U7,k7⟩:=bY hbc U6 k6;have B7:=B6.zt hbc;clear U6 k6 B6 FU HF HA hbc;go_wp2_with fail;refine (HE.out _ U7).zr ?_;rintro w9 ⟨U9,F9⟩;have k9:=F9.blk k7 zo;have B9:=B7.trans (F9.below B7.size (λk hk e=>by have e:k=bS:=e;omega));rw [<-ahW.out] at U9;clear U7 k7 B7 HE F9;go_wp2_with fail;go_roundw
     case rel=>exact ⟨j+1,by go_num,zo,U9,k9,B9⟩
     case measure=>exact zm
    ·obtain rfl:n2=j:=zo
     have d1:decide ((n2:Int)<(n2:Int))=false:=by rw [decide_eq_false_iff_not];omega
     rw [List.take_of_length_le (by have:=h2H.out;omega)] at U6;have hUB:Hid (∀q,q<1024->(((H1.foldl (λU p=>U.dD p.toNat 16 (λg=>g.dQ true)) UA).pg q).kind=(V.pg q).kind/\((H1.foldl (λU p=>U.dD p.toNat 16 (λg=>g.dQ true)) UA).pg q).bP=(V.pg q).bP/\∀k,((H1.foldl (λU p=>U.dD p.toNat 16 (λg=>g.dQ true)) UA).pg q).fe k=0)):=ae (λq hq=>by
      rw [Ox _ _ (λp hp=>by obtain ⟨a,_,b,_⟩:=(Lx.out p).1 hp;omega),hUf.out q hq];simp only;rw [Yz.out q hq,(hU0.out.1 q).1,Bool.false_or];exact ⟨by first|trivial|rfl,by first|trivial|rfl,(hU0.out.1 q).2⟩)
     have agh:=ae ((Bg (λ(U:Vm) (p:Int)=>U.dD p.toNat 16 (λg=>g.dQ true)) (λ_ _=>rfl) H1 UA).trans agf.out);obtain ⟨UB,alc⟩:=ah (H1.foldl (λU p=>U.dD p.toNat 16 (λg=>g.dQ true)) UA);rw [alc] at U6 hUB agh;obtain ⟨D1,hD1⟩:∃D,dS V 1024=D:=⟨_,rfl⟩;have QC:=ae (λp=>FQ V p 1024);have QD:=ae (Oz V 1024);rw [hD1] at r3H h3 hn3 QC QD;have h3H:=ae h3;have c6':=k6.cell;clear alc hD1 agf hUf r2H h2H Lx Yy Yz h3;go_wp2_with fail;clear c6'
     go_loopw [144] (λatG wr=>∃i:Nat,atG = zI i/\i<=n3/\aA wr bS ((D1.take i).foldl (Cj V) UB)/\af wr s 60 #[.slice A1 n1 c1,.slice A2 n2 c2,.slice A3 n3 c3,.slice A4 n4 c4,zI (ca 0),zI (ca 1),zI (ca 2),zI (ca 3),zI (ca 4),zI (ca 5),zI (ca 6),zI (hi 0),zI (hi 1),zI (hi 2),zI (hi 3),zI (hi 4),zI (hi 5),zI (hi 6)]/\Below w.heap.size w wr) (λv _=>n3 - (intOf v).toNat)
     case atStart=>exact ⟨0,rfl,zo,by rw [List.take_zero];exact U6,k6,B6⟩
     case round =>
      clear U6 k6 B6;obtain ⟨i,rfl,hi,U7,k7,B7⟩:=hrel;by_cases hin:i<n3
      ·have d1:decide ((i:Int)<(n3:Int))=true:=by rw [decide_eq_true_eq];omega
       have E9:i<D1.length:=by have:=h3H.out;omega
       obtain ⟨db,YA,rfl,LH,hac⟩:=r3H.out.elem (zL V) zo 0 (k:=i) E9;obtain ⟨p,hp⟩:=ah (D1.getD i 0);have hpm:p∈D1:=by rw [<-hp,List.getD_eq_getElem?_getD,List.getElem?_eq_getElem E9];exact List.getElem_mem E9
       obtain ⟨hp1,hnz⟩:=(QC.out p).1 hpm;have hpn:p∉D1.take i:=λhh=>by
        obtain ⟨k,hk,he⟩:=List.mem_iff_getElem.1 hh;rw [List.length_take] at hk;rw [List.getElem_take] at he;have Ii:=List.pairwise_iff_getElem.1 QD.out k i zo E9 zo;rw [List.getD_eq_getElem?_getD,List.getElem?_eq_getElem E9,Option.getD_some] at hp;omega
       have FU:Hid (∀k,i=k+1->∃z:Nat,z<p/\wr.cell? ⟨db,YA+k*65,none⟩=some (zI z)):=ae (λk hk=>by
        obtain ⟨db',axJ,e,_,atH⟩:=r3H.out.elem (zL V) zo 0 (k:=k) zo;cases e;refine ⟨_,?_,(B7.cell (p:=⟨db,YA+k*65+0,none⟩) LH).trans (atH 0 _ rfl)⟩;have Ii:=List.pairwise_iff_getElem.1 QD.out k i zo E9 zo;rw [List.getD_eq_getElem?_getD,List.getElem?_eq_getElem E9,Option.getD_some] at hp;rw [List.getD_eq_getElem?_getD,List.getElem?_eq_getElem (by omega:k<D1.length),Option.getD_some];omega)
       have htk:=nK 0 D1 E9;rw [hp] at hac htk;have rF:((D1.take i).foldl (Cj V) UB).pg p=UB.pg p:=by rw [Ls,if_neg hpn]
       have hstep:Hid ((D1.take (i+1)).foldl (Cj V) UB=((D1.take i).foldl (Cj V) UB).gq p { ((D1.take i).foldl (Cj V) UB).pg p with fe:=(V.pg p).fe }):=ae (by rw [htk,List.foldl_append];rfl);have hkp:(((D1.take i).foldl (Cj V) UB).pg p).kind=2:=by
        rw [rF,(hUB.out p hp1).1];by_cases h2:(V.pg p).kind=2
        ·exact h2
        ·have:=hH.good.fe p hp1 h2
         unfold zJ at hnz;obtain ⟨k,_,hk⟩:=List.any_eq_true.1 hnz;rw [this k] at hk;exact absurd hk zd
       generalize (D1.take i).foldl (Cj V) UB=Ui at *;have hax:wr.rangeAt db (YA+i*65) (rJ V p):=λj v hv=>(B7.cell (p:=⟨db,YA+i*65+j,none⟩) LH).trans (hac j v hv)
       clear hac hpn hpm hp htk rF;obtain ⟨X,hX⟩:=ah (fP .u8 64 (V.pg p).fe);have zM:X.size=64:=by rw [<-hX];simp [fP]
       have hXl:X.toList=wR (V.pg p):=by rw [<-hX];rfl
       have hXo:X.all (·.oneCell')=true:=by
        exact adv
       have heq:∀W,(Op.equalIn 10000 100 (.agg X) (.agg (fP .u8 64 (λ_=>0)))).run prog W= .ok false W:=λW=>by
        have h:=E5 (V.pg p).fe (λ_=>0) W;rw [hX,JH,hnz] at h;exact h
       simp only [fP,List.range,List.range.loop,List.map_cons,List.map_nil] at heq;have hDl:(rJ V p).length=65:=zL V p;have hDc:∀j,(rJ V p)[j+1]? = X.toList[j]? := λj=>by rw [hXl];rfl
       have Wp:∀u∈rJ V p,u.oneCell'=true:=λu hu=>JB V [p] u (by simpa [fl] using hu)
       have hD0:(rJ V p)[0]? = some (zI (p:Int)):=rfl;obtain ⟨D,hD⟩:=ah (rJ V p);rw [hD] at hax hDl hDc Wp hD0;have atJ:=ae hXl;have YB:(prog.info? 118).map (·.size)=some D.length:=by rw [hDl];exact Lb
       have ZB:(prog.info? 118).map (·.size)=some D.toArray.size:=by rw [List.size_toArray];exact YB
       have ald:D.toArray.all (·.oneCell')=true:=Go.all_oneCell_toArray Wp;have ht:∀Z:Array Value,Z.size=65->(wr.alloc (.cells Z 118)).there wr.heap.size 0 D.toArray.size:=λZ hZ=>dL (af.new wr _ Z) 0 D.toArray.size (by rw [List.size_toArray];omega)
       have cZ:∀(Z:Array Value) w9,(wr.alloc (.cells Z 118)).setCells wr.heap.size 0 D=w9->Z.size=65->af w9 wr.heap.size 118 D.toArray/\Below wr.heap.size wr w9:=λZ w9 h hZ=>by
        have kP:=af.puts (g:=wr.heap.size) (t:=118) (w:=wr) (cs:=#[]) D 0 _ _ (af.new wr 118 Z);rw [eH zo] at kP;have hF:=ag.puts (T:=λk=>k=wr.heap.size) rfl D 0 wr _ ((ag.refl _ wr).alloc (.cells Z 118));exact adw
       obtain ⟨g,hg⟩:=ah (wr.heap.size);have hgb:bS<g:=by have:=U7.lt;omega
       rw [hg] at ht cZ;have ale:=ae U7;clear hX hD hXl Wp U7 hnz;go_upto_region 29 with (first
        | (refine wpList_load_mid rfl 118 (.tmp 147) rfl db (YA+i*65) rfl D _ hax underlying118 rfl YB ?_)
        | (refine wpList_store_mid rfl 118 (.tmp 14) (.tmp 148) rfl g 0 D.toArray rfl rfl (ht _ rfl) ZB ald ?_))
       try simp only [hg]
       generalize R8:World.setCells _ g 0 D=w9;obtain ⟨kD,jS⟩:=cZ _ _ R8 rfl;have jS:Below wr.heap.size wr w9:=by rw [hg];exact jS
       have U9:=ale.out.call jS;have k9:=k7.call jS;have B9:=B7.zt jS;have qD:w9.cell? ⟨g,0,none⟩=some (zI p):=(kD.cell 0).trans (by rw [List.getElem?_toArray];exact hD0);have qK:w9.cell? ⟨bS,1+p*66,none⟩=some (zI 2):=by
        obtain ⟨ucs,uA,un,alb,hkb,Cz,_⟩:=U9.ex;rw [<-hkp];exact (hkb.cell (1+p*66)).trans (Cz.kind hp1)
       have EC:Hid (∀W,af W g 118 D.toArray->(loadVar 100 ⟨g,1,none⟩).run prog W= .ok (.agg X) W):=ae (λW hk=>by
        have:=run_loadVar_mid (P:=prog) W g 1 100 X.toList _ (λj v hj=>by rw [hk.cell,List.getElem?_toArray,Nat.add_comm,hDc];exact hj) underlying100 rfl (by rw [Array.length_toList,zM];kernel_rfl)
        rwa [Array.toArray_toList] at this)
       have hld:=λz:Ext w9=>EC.out _ (z.blk kD)
       have kDH:=ae (And.intro kD qD);have atK:=ae hXo;have eS:=λz:Ext w9=>(z.blk k9).cell
       have eD:=λz:Ext w9=>z.cell qD
       have eK:=λz:Ext w9=>z.cell qK
       have d4:decide ((p:Int)<0)=false:=by rw [decide_eq_false_iff_not];omega
       have d5:decide (1024<=(p:Int))=false:=by rw [decide_eq_false_iff_not];omega
       have U9H:=ae U9;have Ir:Hid (∀k,i=k+1->∃z:Nat,z<p/\w9.cell? ⟨db,YA+k*65,none⟩=some (zI z)):=ae (λk hk=>by
        obtain ⟨z,h1,h2⟩:=FU.out k hk;exact ⟨z,h1,(jS.cell (p:=⟨db,YA+k*65,none⟩) (by show db<_;have:=B7.size;omega)).trans h2⟩)
       have axK:=hkp;clear FU U9 kD ale cZ k7 B7 hax ht R8 jS qD qK hkp ald YB ZB hDc hDl hD0 hXo;simp only [Act.put]
       go_cut [189] from 149 to 189 (λatM W=>.bool false=atM/\∃iV,iV=W/\Below w9.heap.size w9 iV)
       case first =>
        by_cases hi0:i=0
        ·subst hi0
         clear Ir;exact ak8
        ·obtain ⟨zp,hz,qz⟩:=Ir.out (i - 1) zo
         have d2:decide ((0:Int)<(i:Int))=true:=by rw [decide_eq_true_eq];omega
         have d3:decide ((p:Int)<=(zp:Int))=false:=by rw [decide_eq_false_iff_not];omega
         have d2':decide (0<i)=true:=by rw [decide_eq_true_eq];omega
         have d3':decide (p<=zp)=false:=by rw [decide_eq_false_iff_not];omega
         have eP:=λz:Ext w9=>z.cell qz
         clear Ir qz;exact ak8
       obtain ⟨rfl,iV,rfl,hbc⟩:=hcut;have U10:=U9H.out.call hbc;have k10:=k9.call hbc;have B10:=B9.zt hbc;have agi:=kDH.out.1.call hbc;have alf:=λz:Ext iV=>EC.out _ (z.blk agi)
       have alg:iV.cell? ⟨g,0,none⟩=some (zI p):=by rw [agi.cell,<-kDH.out.1.cell];exact kDH.out.2
       have atO:=λz:Ext iV=>z.cell alg
       have atP:=ae U10;clear hld EC kDH agi alg eS eD eK k9 B9 U9H U10 Ir heq d4 d5 hbc;go_upto_region 31 with fail
       refine df 9 zk zk ?_;simp only [List.take_succ_cons,List.take_zero,List.drop_succ_cons,List.drop_zero]
       iterate 4 go_big_quiet_step (fail)
       refine l9 (.tmp 193) 100 ⟨g,1,none⟩ (.agg X) rfl rfl rfl (by rintro _ ⟨z,rfl⟩;exact alf z) ?_;simp only [Act.put,List.setIfInBounds_toArray,List.set_cons_zero,List.set_cons_succ]
       repeat (go_big_quiet_step (fail))
       refine wpQuiet_nil ?_;intro z;have U11:=atP.out.call z.le;have k11:=k10.call z.le;have B11:=B10.zt z.le;have hth:z.w.there bS (1+p*66+2) X.size:=by
        obtain ⟨ucs,uA,un,alb,hkb,Cz,_⟩:=U11.ex;exact dL hkb _ _ (by rw [Cz.size,zM];omega)
       obtain ⟨U12,F12⟩:=U11.Lu hp1 (V.pg p);rw [<-atJ.out] at U12 F12;have hset:=ae (And.intro U12 F12);clear U12 F12 U11 atO alf
       go_wp2_with (refine wpList_store_mid rfl 100 (.tmp 198) (.tmp 194) rfl bS (1+p*66+2) X rfl rfl hth (by rw [zM];kernel_rfl) atK.out ?_)
       obtain ⟨U12,F12⟩:=hset.out;go_roundw
       case rel=>exact ⟨i+1,by go_num,zo,by rw [hstep.out];exact U12,F12.blk k11 zo,B11.trans (F12.below (by have:=B11.size;omega) (λk hk e=>by have e:k=bS:=e;omega))⟩
       case measure=>exact zm
      ·obtain rfl:n3=i:=zo
       have d1:decide ((n3:Int)<(n3:Int))=false:=by rw [decide_eq_false_iff_not];omega
       rw [List.take_of_length_le (by have:=h3H.out;omega)] at U7;have U8:aA wr bS V:=U7.agree ((Bg (Cj V) (λ_ _=>rfl) D1 UB).trans agh.out) (λq hq=>by
        rw [Ls];obtain ⟨a,b,c⟩:=hUB.out q hq;by_cases hm:q∈D1
        ·rw [if_pos hm]
         exact ⟨a,b,λk _=>rfl⟩
        ·rw [if_neg hm]
         refine ⟨a,b,λk hk=>?_⟩;rw [c k];by_cases e:(V.pg q).fe k=0
         ·exact e.symm
         ·exact absurd ((QC.out q).2 ⟨hq,by unfold zJ;rw [List.any_eq_true];exact ⟨k,List.mem_range.2 hk,by simpa using e⟩⟩) hm)
       clear U7 hUB agh QC QD r3H h3H;go_wp2_with fail;rw [hQH.out];exact ⟨bS,rfl,U8,hwb,B7⟩
theorem ah0 (t1 t2:TypeId) (a p:Array Value) (w:World):∃w0:World,w0=(w.alloc (.cells a t1)).alloc (.cells p t2)/\Below w.heap.size w w0/\af w0 w.heap.size t1 a/\af w0 (w.heap.size+1) t2 p:=by
 have e1:=World.size_alloc w (.cells a t1);have k1:=(af.new w t1 a).alloc (.cells p t2);have k2:=af.new (w.alloc (.cells a t1)) t2 p;have hb:=(aQ w (.cells a t1)).alloc zo (.cells p t2);rw [e1] at k2;exact ⟨_,rfl,hb,k1,k2⟩
theorem YC {P:Prop} (h:P:=by
 go_wp2_with fail;refine (Dq _).zr λwS hbS=>?_
 go_wp2_with fail;go_ret;exact ⟨rfl,B1.zt hbS⟩):P:=h
theorem agk {P:Prop} (h:P:=by
 clear hn hin yM;go_wp2_with fail;go_meet
 case rel=>exact ⟨by rw [hT'],rfl⟩):P:=h
theorem LC (r:Cr) (A:Option Addr) (m cap:Nat) (A1 A2:Option Addr) (n1 c1 n2 c2:Nat) (pg n f bk ev lim:Int) (l:List Ru) (us:List (Int×Int)) (w:World)
  (hkl:r.kept.length=m) (hcap:m<=cap) (hcm:cap<=maxLen) (hk:RU w w.heap.size A r.kept)
  (hl:l.length=n1) (hr:Rd w w.heap.size A1 (fl iU l)) (hz:A1=none->c1=0) (hul:us.length=n2) (hA2:Rd w w.heap.size A2 (fl acC us))
  (HZ:∀x∈us,0<=x.1/\x.1<=255/\-9223372036854775808<=x.2/\x.2<=9223372036854775807) :
  zK 3 #[.agg (aj r (.slice A m cap)),.agg #[zI pg,zI n,zI f,zI bk,zI ev,zI lim,.slice A1 n1 c1,.slice A2 n2 c2]] w (.bool true):=by
 subst hkl;have HFa:=ae (λW=>XN A1 A2 n1 c1 n2 c2 pg n f bk ev lim W);have UE:=ae (λW h=>o6 r A cap W hcap hcm h);have UF:=ae (λW h=>iC r A cap W hcap hcm h);have LD:=ae (λbs V W h1 h2 h3=>KH bs V r A cap W h1 h2 hcap hcm h3);have LF:=ae (λB bs V W h1 h2=>Lp B bs V r A cap W h1 hcap hcm h2);obtain ⟨FT,hFT⟩:∃FT:Vm->Bool×Int×Int,∀V,mW V r=FT V:=⟨λV=>mW V r,λ_=>rfl⟩;simp only [hFT] at LD LF;obtain ⟨ck,hck⟩:=ah (bq r);rw [hck] at UE UF;clear hFT hck;have Yt:=ae hk;clear hk;obtain ⟨rpg,rn,rf,rbk,rev,agl,agm,K,rcl⟩:=r;dsimp only [aj] at UE UF LD LF hcap Yt ⊢;obtain ⟨m,hm⟩:=ah (K.length);rw [hm] at UE UF LD LF hcap ⊢;clear hm;obtain ⟨w0,hw0,hb0,k0,p0⟩:=ah0 28 34 #[zI rpg,zI rn,zI rf,zI rbk,zI rev,zI agl,zI agm,.slice A m cap,.bool rcl] #[zI pg,zI n,zI f,zI bk,zI ev,zI lim,.slice A1 n1 c1,.slice A2 n2 c2] w;obtain ⟨s,hs⟩:=ah (w.heap.size);rw [hs] at k0 p0;have alh:=ae hA2;have agn:=ae hul;have ali:=ae HZ;have kZ:=ae hr;clear hA2 hul HZ hr;obtain ⟨F,hF⟩:=ah (((decide (100<n)||decide (30<(n2:Int)))||decide (60<(n1:Int))));rw [hF] at HFa;have hFH:=ae hF;clear hF;go_enter func3,ntmps3;go_upto_region 1 with fail
 rw [<-hw0];try simp only [hs]
 clear hw0;obtain ⟨q0,qp⟩:=bB k0 p0;go_wp2_with fail;refine (HFa.out _).zr λw1 hb1=>?_
 have B1:=hb0.zt hb1;obtain ⟨k1,p1⟩:=bY hb1 k0 p0;have q1:=k1.cell;clear q0 qp k0 p0 hb0 hb1 HFa;cases F with
 | true =>
  clear hFH UE UF LD LF;exact YC
 | false =>
 by_cases h1:100<rn
 ·have d1:=bU h1
  clear h1 hFH UE UF LD LF;exact YC
 have d1:=bV h1;by_cases h2:600<m
 ·have d2:decide ((600:Int)<(m:Int))=true:=by rw [decide_eq_true_eq];omega
  have d2':decide (600<m)=true:=by rw [decide_eq_true_eq];omega
  clear h1 h2 hFH UE UF LD LF;exact YC
 have d2:decide ((600:Int)<(m:Int))=false:=by rw [decide_eq_false_iff_not];omega
 have d2':decide (600<m)=false:=by rw [decide_eq_false_iff_not];omega
 have hn1:n1<=60:=by have:=hFH.out;simp at this;omega
 have hn2:n2<=30:=by have:=hFH.out;simp at this;omega
 have HPl:=ae (λN W h1 h2=>Ym N A1 A2 n1 c1 n2 c2 pg n f bk ev lim l W hl zo hz h1 h2);have hk1:=(Yt.out.below B1).more B1.size;have G1:=ae (λz:Ext w1=>Ext.call (x:=z) (UE.out z.w (hk1.on z.le)));have G2:=ae (λz:Ext w1=>Ext.call (x:=z) (UF.out z.w (hk1.on z.le)));have e1:=λz:Ext w1=>(z.blk k1).cell
 clear hl hz h1 h2 hFH hk1;go_upto_region 3 with fail
 clear q1;refine aD zk zk ?_
 repeat (go_big_quiet_step ((first|(go_at_call 6;exact G1.out _)|(go_at_call 7;exact G2.out _))))
 refine wpQuiet_nil ?_;rintro w2 ⟨⟨_,hw2⟩,rfl⟩;obtain ⟨k2,p2⟩:=bY hw2 k1 p1;have B2:=B1.zt hw2;have hr2:=kZ.out.fB B2;have qp:=p2.cell;have hps:=p2.lt;clear k1 p1 hw2 e1 G1 G2 UE UF B1 d1 d2 d2';go_wp2_with fail;refine (HPl.out _ w2 rfl hr2).mono ?_;rintro e w3 ⟨hcase,hb3⟩;have B3:=B2.zt hb3;obtain ⟨k3,p3⟩:=bY hb3 k2 p2;have alj:=hb3.size;clear qp k2 p2 hb3 hr2 HPl B2;rcases hcase with rfl|⟨y,bs,bb,ts,tb,S,rfl,hP⟩
 ·clear LD LF
  go_wp2_with fail;refine (Dq _).zr λwS hbS=>?_
  go_wp2_with fail;go_ret;exact ⟨rfl,B3.zt hbS⟩
 obtain ⟨N,hN⟩:=ah (w2.heap.size);rw [hN] at hP;have hsN:s+1<N:=by rw [<-hN];exact hps
 have alk:N<=w3.heap.size:=by rw [<-hN];exact alj
 have hwN:w.heap.size<=N:=zo;clear hN hps alj;go_upto_region 8 with fail
 go_wp2_with fail
 go_loopw [7] (λu wr=>∃(i:Nat) (S:Vm×List Nd×Cr),u = zI i/\i<=n2/\gI wr N y bs bb ts tb l S/\Below w.heap.size w wr/\N<=wr.heap.size/\af wr s 28 #[zI rpg,zI rn,zI rf,zI rbk,zI rev,zI agl,zI agm,.slice A m cap,.bool rcl]/\af wr (s+1) 34 #[zI pg,zI n,zI f,zI bk,zI ev,zI lim,.slice A1 n1 c1,.slice A2 n2 c2]) (λu _=>n2 - (intOf u).toNat)
 case atStart=>exact ⟨0,S,rfl,zo,hP,B3,alk,k3,p3⟩
 case round =>
  clear k3 p3 B3 hP alk;obtain ⟨i,S,rfl,hi,hP,hB,hNw,kr,kp⟩:=hrel;have cp:=kp.cell;obtain ⟨Aa,ca,Ab,cb,ky,hka,hla,hma,hkb,hlb,hmb⟩:=hP.two;dsimp only [K8] at ky;have cy:=ky.cell;obtain ⟨T,hT⟩:=ah ((decide (i<n2)&&decide (0<S.2.2.n)));have yM:=ae hT;clear hT;go_upto_region 9 with fail
  go_cut [59] from 46 to 59 (λs59 W=>.bool T=s59/\wr=W)
  case first =>
   clear LD LF;by_cases hin:i<n2
   ·have d1:decide ((i:Int)<(n2:Int))=true:=by rw [decide_eq_true_eq];omega
    have d1':decide (i<n2)=true:=by rw [decide_eq_true_eq];omega
    by_cases hn:0<S.2.2.n
    ·have d2:=bU hn
     have hT':T=true:=by rw [<-yM.out,d1',d2];rfl
     exact agk
    ·have d2:=bV hn
     have hT':T=false:=by rw [<-yM.out,d1',d2];rfl
     exact agk
   ·have d1:decide ((i:Int)<(n2:Int))=false:=by rw [decide_eq_false_iff_not];omega
    have d1':decide (i<n2)=false:=by rw [decide_eq_false_iff_not];omega
    have hT':T=false:=by rw [<-yM.out,d1'];rfl
    clear hin yM;go_wp2_with fail;go_meet
    case rel=>exact ⟨by rw [hT'],rfl⟩
  obtain ⟨rfl,rfl⟩:=hcut;cases T with
  | true =>
   have hin:i<n2:=by have:=yM.out;simp at this;exact this.1
   have d1:decide ((i:Int)<(n2:Int))=true:=by rw [decide_eq_true_eq];omega
   obtain ⟨ab,ao,rfl,hab,hac⟩:=(alh.out).elem TY zo (0,0) (k:=i) (by have:=agn.out;omega);have hx:=ali.out (us.getD i (0,0)) (Nb _ (by have:=agn.out;omega));generalize us.getD i (0,0)=x at *;obtain ⟨xa,xb⟩:=x;have x0:=(hB.cell (p:=⟨ab,ao+i*2+0,none⟩) hab).trans (hac 0 _ rfl);have x1:=(hB.cell (p:=⟨ab,ao+i*2+1,none⟩) hab).trans (hac 1 _ rfl);simp only [Nat.add_zero] at x0;simp only at hx;have HA:=ae (abk N y bs bb ts tb l S xa xb wr hP hNw ⟨hx.1,hx.2.1⟩ hx.2.2.1 hx.2.2.2);clear hac hP cy ky yM hka hla hma hkb hlb hmb LD LF;go_wp2_with fail;refine HA.out.zr ?_;rintro w4 ⟨hP4,hb4⟩;have kp4:af w4 (s+1) 34 _:=(hb4.block (s+1) hsN).trans kp;have Ef:af w4 s 28 _:=(hb4.block s zo).trans kr;have B4:=hB.trans (hb4.mono hwN);have hN4:N<=w4.heap.size:=Nat.le_trans hNw hb4.size;generalize rX S (xa,xb)=S4 at *;clear HA kp kr cp hB hNw x0 x1;go_wp2_with fail;go_roundw
   case rel=>exact ⟨i+1,S4,by go_num,zo,hP4,B4,hN4,Ef,kp4⟩
   case measure=>exact zm
  | false =>
   have hinv:=hP.inv;have HS:=ae (λW h=>JS N ts S.1 W h hinv.sys.1.good);have HL:=ae (λSv W h=>abo Sv S.1 W h hinv.sys.1 hP.both.sys.ok);have HF3:=ae (λb8 W h1 h3=>aaO b8 S.1 S.2.2 Ab cb W h1 hinv.sys.1.good.kinds hlb hmb h3);have HF4:=ae (λW h1 h2=>Lp N ts S.1 S.2.2 Ab cb W h1 hlb hmb h2);have agp:=ae (λb8 W h1 h3=>LD.out b8 S.1 W h1 hinv.sys.1.good.kinds h3);have agq:=ae (λW h1 h2=>LF.out N ts S.1 W h1 h2);obtain ⟨⟨f1,f2,f3⟩,hf⟩:∃x,FT S.1=x:=⟨_,rfl⟩;rw [hf] at agp agq;obtain ⟨⟨g1,g2,g3⟩,hg⟩:∃x,mW S.1 S.2.2=x:=⟨_,rfl⟩;rw [hg] at HF3 HF4;dsimp only [aj] at HF3 HF4;have V0:=hP.both.ref;have b0:=hkb;have y0:=ky;have r0:=kr;have B0:=hB;have cy:=y0.cell;clear LD LF hf hg hinv yM hka hla hma hkb hlb hmb cp hP ky kr kp hB alh agn ali kZ;go_wp2_with fail;refine (HS.out _ V0).mono ?_;rintro e w4 ⟨Sv,rfl,hVs,hb4⟩;obtain ⟨V4,y4,b4⟩:=mY hb4 V0 y0 b0;have B4:=B0.zt hb4;have r4:=r0.call hb4;clear V0 y0 b0 B0 hb4 r0 HS cy;go_wp2_with fail;refine (HL.out Sv _ hVs).mono ?_;rintro e w5 ⟨g8,rfl,S5,aga,hb5⟩;obtain ⟨V5,y5,b5⟩:=mY hb5 V4 y4 b4;have B5:=B4.zt hb5;have r5:=r4.call hb5;have hk5:=(Yt.out.below B5).more B5.size;have cr5:=r5.cell;clear V4 y4 b4 B4 hb5 r4 HL hVs aga;go_wp2_with fail;refine (agp.out g8 _ S5 hk5).zr λw6 hb6=>?_
   obtain ⟨V6,y6,b6⟩:=mY hb6 V5 y5 b5;have B6:=B5.zt hb6;obtain ⟨r6,S6⟩:=bY hb6 r5 S5;have wZ:=(Yt.out.below B6).more B6.size;have G:=ae (λz:Ext w6=>Ext.call (x:=z) (agq.out z.w (V6.call z.le) (wZ.on z.le)));have e6:=λz:Ext w6=>(z.blk r6).cell
   have y6':=λz:Ext w6=>(z.blk y6).cell
   clear V5 y5 b5 B5 hb6 r5 S5 hk5 wZ cr5 agp agq;go_upto_region 16 with fail
   refine aD zk zk ?_
   repeat (go_big_quiet_step ((go_at_call 13;exact G.out _)))
   refine wpQuiet_nil ?_;rintro w7 ⟨⟨_,Dj⟩,rfl⟩;obtain ⟨V7,y7,b7⟩:=mY Dj V6 y6 b6;have B7:=B6.zt Dj;have S7:=S6.call Dj;have cy7:=y7.cell;clear V6 y6 b6 B6 Dj S6 r6 e6 y6' G;go_wp2_with fail;refine (HF3.out g8 _ S7 b7).zr λw8 rU=>?_
   obtain ⟨V8,y8,b8⟩:=mY rU V7 y7 b7;have B8:=B7.zt rU;have G:=ae (λz:Ext w8=>Ext.call (x:=z) (HF4.out z.w (V8.call z.le) (b8.call z.le).ru));have y8':=λz:Ext w8=>(z.blk y8).cell
   clear V7 y7 b7 B7 rU S7 cy7 HF3 HF4;go_upto_region 20 with fail
   refine aD zk zk ?_
   repeat (go_big_quiet_step ((go_at_call 13;exact G.out _)))
   refine wpQuiet_nil ?_;rintro w9 ⟨⟨_,jS⟩,rfl⟩;have B9:=B8.zt jS;clear V8 y8 b8 B8 jS y8' G;go_wp2_with fail;refine (Dq _).zr λwS hbS=>?_
   go_wp2_with fail;go_ret;exact ⟨rfl,B9.zt hbS⟩
end Go.Proofs.YtlgcpjhimomiaaaGreat
