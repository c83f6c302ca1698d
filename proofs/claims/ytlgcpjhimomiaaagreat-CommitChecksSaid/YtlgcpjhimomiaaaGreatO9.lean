/- Texts GWalkM, QWalkZE, QWalkZF, ZWalkYJ, CWalkA, CWalkB, CLibA, CWalkC, CWalkD. -/
import Derived.Test.YtlgcpjhimomiaaaGreatO8
set_option maxRecDepth 100000
set_option maxHeartbeats 12800000
namespace Go.Pol
open Go Go.RowKit Go.Proofs.Tryz
def Sz (B b:Nat) (r:List Sp×Int×Vm) (w:World) (e:Ending) (w':World):Prop :=
 ∃(A:Option Addr) (cap:Nat),e= .returned (.tuple #[.slice A r.1.length cap,zI r.2.1])/\RU w' w'.heap.size A r.1/\(∀g o,A=some ⟨g,o,none⟩->w.heap.size<=g)/\r.1.length<=maxLen/\bn w' B b r.2.2/\ag (λk=>k=b) w w'
def jH (S:List Sp×Vm) (x:Sp):List Sp×Vm:=(if (bK S.2 x.1 x.2 4 3 1).1=0 then S.1 else x::S.1,(bK S.2 x.1 x.2 4 3 1).2)
def pU (G:List Sp):List Sp->List Sp->Vm->List Sp×Int×Vm
 | _,[],V=>(G,0,V)
 | d,x::r,V=>if (bK V x.1 x.2 4 1 3).1=0 then pU G (x::d) r (bK V x.1 x.2 4 1 3).2 else ((d.foldl jH ([],(bK V x.1 x.2 4 1 3).2)).1,(bK V x.1 x.2 4 1 3).1,(d.foldl jH ([],(bK V x.1 x.2 4 1 3).2)).2)
def jL (V:Vm) (ck:Int) (G:List Sp):List Sp×Int×Vm:=if ck=0 then pU G [] G V else ([],ck,V)
theorem aeb {w:World} {base:Nat} {e:TypeId} {a b:Value} (hb:base<=w.heap.size):(w.alloc (.cells #[a,b] e)).ownsRow base e 2 (.slice (some ⟨w.heap.size,0,none⟩) 1 1) 1 [a,b] :=
 ⟨rfl,.inr ⟨w.heap.size,1,#[a,b],rfl,hb,heap_alloc_new w _,Nat.le_refl _,by unfold maxLen;omega,rfl,rfl⟩⟩
def vZ (w:World) (lo hi:Nat):List Nat->List Sp->Prop
 | [],[]=>True
 | p::ps,x::xs=>(lo<=p/\p<hi/\af w p 85 #[zI x.1,zI x.2])/\vZ w lo hi ps xs
 | _,_=>False
theorem vZ.far {w w':World} {T:Nat->Prop} {lo hi:Nat} (hF:ag T w w') (hT:∀k,lo<=k->k<hi->¬T k):∀(ps:List Nat) (xs:List Sp),vZ w lo hi ps xs->vZ w' lo hi ps xs
 | [],[],_=>trivial
 | [],_::_,h=>h
 | _::_,[],h=>h
 | _::ps,_::xs,h=>⟨⟨h.1.1,h.1.2.1,hF.blk h.1.2.2 (hT _ h.1.1 h.1.2.1)⟩,vZ.far hF hT ps xs h.2⟩
theorem vZ.more {w:World} {lo hi hi':Nat} (hh:hi<=hi'):∀(ps:List Nat) (xs:List Sp),vZ w lo hi ps xs->vZ w lo hi' ps xs
 | [],[],_=>trivial
 | [],_::_,h=>h
 | _::_,[],h=>h
 | _::ps,_::xs,h=>⟨⟨h.1.1,Nat.lt_of_lt_of_le h.1.2.1 hh,h.1.2.2⟩,vZ.more hh ps xs h.2⟩
theorem vU.five {cs:Array Value} (h:vU cs 5):∃a b c d e:Int,cs=#[zI a,zI b,zI c,zI d,zI e]:=by
 obtain ⟨a,ha⟩:=h.at_ 0 zo;obtain ⟨b,hb⟩:=h.at_ 1 zo;obtain ⟨c,hc⟩:=h.at_ 2 zo;obtain ⟨d,hd⟩:=h.at_ 3 zo;obtain ⟨e,he⟩:=h.at_ 4 zo;refine ⟨a,b,c,d,e,?_⟩;apply Array.ext_getElem?;intro i;have hs:=h.size
 match i with
 | 0=>simpa using ha
 | 1=>simpa using hb
 | 2=>simpa using hc
 | 3=>simpa using hd
 | 4=>simpa using he
 | i+5=>rw [Array.getElem?_eq_none zo,Array.getElem?_eq_none zs]
theorem J2 {P:Program} {ops:Array Oper} {Q:Exit->Act->World->Prop} {md:Region.Mode} {S:World->Prop} {tl:List Nat} {i:Nat} {oi:Oper} {v:Value} (hi:ops[i]? = some oi) (hsel:∀(j:Nat) (o:Oper) cs b,ops[j]? = some o->o.op≠.select cs b)
  (hQ:∀c a w,Q (.panic c) (a.put oi.dst v) w->Q (.panic c) a w) (hti:tl.contains i=true) :
  ∀(fuel:Nat) (listed:Array Bool) (a:Act) (w:World),
   (∀j oj,ops[j]? = some oj->j≠i->listed.getD j true=false->(∀e∈oj.after,Region.binds md e=true->e.on≠i)->oi.apart ops oj=true) ->
   i∈Region.ready md ops listed->YieldsIf P ops (λ_=>True) oi v a ->
   eQ P md ops Q S tl fuel (listed.setIfInBounds i true) (a.put oi.dst v) w->eQ P md ops Q S tl (fuel+1) listed a w:=by
 have hno:∀w:World,tl.contains i=false->S w:=λw h=>by rw [hti] at h;cases h
 intro fuel;induction fuel with
 | zero =>
  intro listed a w _ hr hy H;refine ⟨λh=>(by rw [h] at hr;cases hr),λj hj=>?_⟩;by_cases hji:j=i
  ·subst hji;exact hy.wpOp hi trivial ⟨hno w,H⟩
  ·have:=ready_mono hj hji
   rw [H.1] at this;cases this
 | succ fuel ih =>
  intro listed a w hfree hr hy H;refine ⟨λh=>(by rw [h] at hr;cases hr),λj hj=>?_⟩;by_cases hji:j=i
  ·subst hji;exact hy.wpOp hi trivial ⟨hno w,H⟩
  ·have h1:=H.2 j (ready_mono hj hji)
   obtain ⟨hjun,oj,hoj,hall⟩:=mem_ready.1 hj;have hun:listed.getD i false=false:=getD_both (mem_ready.1 hr).1;have hnot:∀e∈oj.after,Region.binds md e=true->e.on≠i:=λe he hb heq=>by
    exact UN
   have h2:=wpOp_putIf hoj (hfree j oj hoj hji hjun hnot) (λcs b=>hsel i oi cs b hi) (λcs b=>hsel j oj cs b hoj) hQ hy h1;have hfree':∀k ok,ops[k]? = some ok->k≠i->(listed.setIfInBounds j true).getD k true=false ->
     (∀e∈ok.after,Region.binds md e=true->e.on≠i)->oi.apart ops ok=true:=λk ok hk hki hun hno=>by
    exact UL
   refine wpOp_mono (λa' w' h3=>⟨h3.2.1,ih (listed.setIfInBounds j true) a' w' hfree' (ready_mono hr (Ne.symm hji)) h3.1 ?_⟩) h2;exact UM
theorem MC {P:Program} {ops:Array Oper} {Q:Exit->Act->World->Prop} {md:Region.Mode} {S:World->Prop} {tl:List Nat} {i:Nat} {oi:Oper} {v:Value} {fuel:Nat} {listed:Array Bool} {a:Act} {w:World} (hi:ops[i]? = some oi)
  (hB:(Region.noSelect ops&&Region.free md ops listed i&&(Region.ready md ops listed).contains i&&tl.contains i)=true)
  (hQ:∀c a w,Q (.panic c) (a.put oi.dst v) w->Q (.panic c) a w) (hy:YieldsIf P ops (λ_=>True) oi v a)
  (h:eQ P md ops Q S tl fuel (listed.setIfInBounds i true) (a.put oi.dst v) w):eQ P md ops Q S tl (fuel+1) listed a w:=by
 simp only [Bool.and_eq_true] at hB;obtain ⟨⟨⟨h1,h2⟩,h3⟩,h5⟩:=hB;exact J2 hi (Region.noSelect_spec h1) hQ h5 fuel listed a w (Region.free_spec hi h2) (by simpa using h3) hy h
theorem ig {P:Program} {ops:Array Oper} {Q:Exit->Act->World->Prop} {md:Region.Mode} {S:World->Prop} {tl:List Nat} (i:Nat) {oi:Oper} {v:Value} {fuel:Nat} {listed:Array Bool} {a b:Act} {w:World} (h:eQ P md ops Q S tl fuel (listed.setIfInBounds i true) b w) (hi:ops[i]? = some oi:=by (simp only [List.getElem?_toArray,List.getElem?_cons_succ,List.getElem?_cons_zero];rfl)) (hB:(Region.noSelect ops&&Region.free md ops listed i&&(Region.ready md ops listed).contains i&&tl.contains i)=true:=by kernel_rfl) (hQ:∀c a w,Q (.panic c) (a.put oi.dst v) w->Q (.panic c) a w:=by exact λ_ _ _ h=>h) (hy:YieldsIf P ops (λ_=>True) oi v a:=by (refine Or.inl ⟨rfl,?_⟩;intro wS hSw;go_simp;(try with_reducible rfl))) (hb:a.put oi.dst v=b:=by (try simp only [Act.put,iE,iF,iG]);exact rfl):eQ P md ops Q S tl (fuel+1) listed a w:=MC hi hB hQ hy (hb ▸ h)
def Fh (s:Nat) (live:Int) (v:Value) (W:World):Prop:=W.cell? ⟨s,6,none⟩=some (zI live)/\W.cell? ⟨s,7,none⟩=some v
theorem Fh.call {s:Nat} {live:Int} {v:Value} {W W':World} (h:Fh s live v W) (hb:Below W.heap.size W W'):Fh s live v W':=by
 have hl:s<W.heap.size:=block_lt_of_cell h.1;exact ⟨(hb.cell (p:=⟨s,6,none⟩) hl).trans h.1,(hb.cell (p:=⟨s,7,none⟩) hl).trans h.2⟩
instance {s:Nat} {live:Int} {v:Value} {W W':World}:ZC W W' (Fh s live v W) (Fh s live v W'):=⟨λh k=>k.call h⟩
def bD:Cr:=⟨0,0,0,0,0,0,0,[],false⟩
theorem below_alloc2 {w w1:World} (h:Below w.heap.size w w1) (o:Obj):Below w.heap.size w (w1.alloc o):=h.alloc h.size o
theorem af.dV {w:World} {g:Nat} {t:TypeId} {cs:Array Value} (h:af w g t cs) (o:Obj):af (w.alloc o) g t cs:=h.call ((Below.refl _ _).alloc (Nat.le_refl _) o)
theorem af.oG (w:World) (o:Obj) (t:TypeId) (cs:Array Value):af ((w.alloc o).alloc (.cells cs t)) (w.heap.size+1) t cs:=by
 have:=af.new (w.alloc o) t cs
 rwa [World.size_alloc] at this
def aP (W:World) (g:Nat) (r:Cr) (v:Value):World :=
 ((((((((W.setCell ⟨g,0,none⟩ (zI r.pg)).setCell ⟨g,1,none⟩ (zI r.n)).setCell ⟨g,2,none⟩ (zI r.f)).setCell ⟨g,3,none⟩ (zI r.bk)).setCell ⟨g,4,none⟩ (zI r.ev)).setCell ⟨g,5,none⟩ (zI r.node)).setCell ⟨g,6,none⟩ (zI r.live)).setCell ⟨g,7,none⟩ v).setCell ⟨g,8,none⟩ (.bool r.cl)
theorem aK {W:World} {g:Nat} {t:TypeId} {a0 a1 a2 a3 a4 a5 a6 a7 a8:Value} (h:af W g t #[a0,a1,a2,a3,a4,a5,a6,a7,a8]) (r:Cr) (v:Value):af (aP W g r v) g t (aj r v):=by
 have:=((((((((h.aM 0 (zI r.pg)).aM 1 (zI r.n)).aM 2 (zI r.f)).aM 3 (zI r.bk)).aM 4 (zI r.ev)).aM 5 (zI r.node)).aM 6 (zI r.live)).aM 7 v).aM 8 (.bool r.cl);simpa [aP,aj] using this
theorem aL (W:World) (g:Nat) (r:Cr) (v:Value):ag (λk=>k=g) W (aP W g r v) :=
 ag.setCell (T:=λk=>k=g) (p:=⟨g,8,none⟩) (ag.setCell (T:=λk=>k=g) (p:=⟨g,7,none⟩) (ag.setCell (T:=λk=>k=g) (p:=⟨g,6,none⟩) (ag.setCell (T:=λk=>k=g) (p:=⟨g,5,none⟩) (ag.setCell (T:=λk=>k=g) (p:=⟨g,4,none⟩) (ag.setCell (T:=λk=>k=g) (p:=⟨g,3,none⟩) (ag.setCell (T:=λk=>k=g) (p:=⟨g,2,none⟩) (ag.setCell (T:=λk=>k=g) (p:=⟨g,1,none⟩) (ag.setCell (T:=λk=>k=g) (p:=⟨g,0,none⟩) (ag.refl _ _) (λ_=>rfl) (zI r.pg)) (λ_=>rfl) (zI r.n)) (λ_=>rfl) (zI r.f)) (λ_=>rfl) (zI r.bk)) (λ_=>rfl) (zI r.ev)) (λ_=>rfl) (zI r.node)) (λ_=>rfl) (zI r.live)) (λ_=>rfl) v) (λ_=>rfl) (.bool r.cl)
theorem dG {s:Nat} {W0 W:World} (h:Below s W0 W) {g:Nat} (hg:s<=g) (r:Cr) (v:Value):Below s W0 (aP W g r v) :=
 ((((((((h.setCell (p:=⟨g,0,none⟩) hg (zI r.pg)).setCell (p:=⟨g,1,none⟩) hg (zI r.n)).setCell (p:=⟨g,2,none⟩) hg (zI r.f)).setCell (p:=⟨g,3,none⟩) hg (zI r.bk)).setCell (p:=⟨g,4,none⟩) hg (zI r.ev)).setCell (p:=⟨g,5,none⟩) hg (zI r.node)).setCell (p:=⟨g,6,none⟩) hg (zI r.live)).setCell (p:=⟨g,7,none⟩) hg v).setCell (p:=⟨g,8,none⟩) hg (.bool r.cl)
def iN (r:Cr) (tt:Int):Cr×Int :=
 if bq r≠0 then (r,bq r) else if r.cl=true then (r,9) else if tt<0\/r.live<tt then (r,7)
 else ({ r with kept:=setOf (r.kept++bJ tt r.live),live:=tt },0)
structure KeptAt (w:World) (A:Option Addr) (us:List Sp):Prop where
 ru:RU w w.heap.size A us
 ty:us≠[]->∃(g o:Nat) (cs:Array Value),A=some ⟨g,o,none⟩/\af w g 85 cs
theorem KeptAt.none (w:World) (A:Option Addr):KeptAt w A []:=⟨RU.nil,λh=>absurd rfl h⟩
theorem KeptAt.far {w w':World} {A:Option Addr} {us:List Sp} {T:Nat->Prop} (h:KeptAt w A us) (hF:ag T w w') (hT:∀g cs,af w g 85 cs->¬T g):KeptAt w' A us:=by
 refine ⟨λk hk=>?_,λhn=>?_⟩
 ·obtain ⟨g,o,cs,e,kb⟩:=h.ty (λhn=>by subst hn;simp at hk)
  obtain ⟨b,o,e',hb,c1,c2⟩:=h.ru.at_' hk;rw [e] at e';cases e';exact ⟨_,_,e,Nat.lt_of_lt_of_le hb hF.size,hF.cell c1 (hT _ _ kb),hF.cell c2 (hT _ _ kb)⟩
 ·obtain ⟨g,o,cs,e,kb⟩:=h.ty hn
  exact ⟨g,o,cs,e,hF.blk kb (hT _ _ kb)⟩
theorem KeptAt.call {w w':World} {A:Option Addr} {us:List Sp} (h:KeptAt w A us) (hb:Below w.heap.size w w'):KeptAt w' A us :=
 h.far (T:=λ_=>False) (ag.of_below hb) (λ_ _ _=>id)
instance {w w':World} {A:Option Addr} {us:List Sp}:ZC w w' (KeptAt w A us) (KeptAt w' A us):=⟨λh k=>k.call h⟩
theorem KeptAt.own {w:World} {v:Value} {base n:Nat} {us:List Sp} (h:w.ownsRow base 85 2 v n (ax us)) (hn:us.length=n):∃(A:Option Addr) (cap:Nat),v= .slice A n cap/\KeptAt w A us/\n<=cap/\cap<=maxLen:=by
 obtain ⟨A,cap,rfl,dR,h1,h2,_,_⟩:=lQ h hn;refine ⟨A,cap,rfl,⟨dR,λhne=>?_⟩,h1,h2⟩;rcases h.2 with ⟨hv,h0⟩|⟨g,cap',cur,hv,_,hk,_⟩
 ·subst h0
  exact absurd (List.eq_nil_of_length_eq_zero hn) hne
 ·cases hv
  exact ⟨g,0,cur,rfl,hk⟩
def o7 (w:World) (us:List Sp) (er:Int) (e:Ending) (w':World):Prop :=
 ∃(A:Option Addr) (cap:Nat),e= .returned (.tuple #[.slice A us.length cap,zI er])/\KeptAt w' A us/\us.length<=cap/\cap<=maxLen/\Below w.heap.size w w'
def Dc (r:Cr) (w':World) (v:Value):Prop :=
 ∃(A':Option Addr) (cap:Nat),v= .agg (aj r (.slice A' r.kept.length cap))/\r.kept.length<=cap/\cap<=maxLen/\KeptAt w' A' r.kept
theorem af.ne {w:World} {g:Nat} {t u:TypeId} {cs ds:Array Value} (h:af w g t cs) (k:af w g u ds) (hne:t≠u:=by decide):False:=by
 have:=Option.some.inj (h.symm.trans k);simp only [Obj.cells.injEq] at this;exact hne this.2.1
theorem RU.Y7 {w w':World} {B:Nat} {A:Option Addr} {us:List Sp} {T:Nat->Prop} (h:RU w B A us) (hF:ag T w w') (hT:∀g o,A=some ⟨g,o,none⟩->¬T g):RU w' B A us:=λk hk=>by
 obtain ⟨b,o,e,hb,c1,c2⟩:=h.at_' hk;exact ⟨b,o,e,hb,hF.cell c1 (hT b o e),hF.cell c2 (hT b o e)⟩
theorem AZ {r:Cr} (h:dO r.pg r.n r.f r.bk r.ev):pJ r<=1024:=by
 unfold pJ;rw [if_pos (bR.2 h)];exact (lL h).2
theorem mF {a b:Int} (h0:0<=a) (h1:b<=1024):Can (bJ a b):=by
 unfold bJ;by_cases h:b<=a
 ·rw [if_pos h];exact ⟨zs,rfl⟩
 ·rw [if_neg h];exact Can.one (av.2 ⟨h0,by show a<1024;omega,by show 1<=b - a;omega,by show b - a<=1024 - a;omega⟩)
def mJ (w:World) (bs bb k:Nat):Prop:=k=bs\/lD bb w k
structure aR (bs bb:Nat) (V:Vm) (L:List Nd) (w w':World):Prop where
 sys:aA w' bs V
 eO:bz w' bb L
 far:ag (mJ w bs bb) w w'
theorem aA.typed {w:World} {b:Nat} {V:Vm} (h:aA w b V):∃cs,af w b 105 cs:=by
 obtain ⟨cs,A,n,cap,hk,_⟩:=h.ex;exact ⟨cs,hk⟩
theorem aA.amC {w:World} {b:Nat} {V:Vm} {bb:Nat} (h:aA w b V):¬lD bb w b:=λ⟨_,ds,hd⟩=>by
 obtain ⟨cs,hc⟩:=h.typed;exact hc.ne hd zd
theorem aei {P:Prop} (h:P:=by
 rintro (rfl|⟨_,ds,hd⟩)
 ·obtain ⟨es,he⟩:=h.typed
  exact hg.ne he h1
 ·exact hg.ne hd h2):P:=h
theorem mJ.not {w:World} {bs bb:Nat} {V:Vm} (h:aA w bs V) {g:Nat} {t:TypeId} {cs:Array Value} (hg:af w g t cs) (h1:t≠105) (h2:t≠142):¬mJ w bs bb g:=by
 exact aei
theorem aR.blk {bs bb:Nat} {V V0:Vm} {L:List Nd} {w w':World} (h:aR bs bb V L w w') (h0:aA w bs V0) {g:Nat} {t:TypeId} {cs:Array Value} (hg:af w g t cs) (h1:t≠105:=by decide) (h2:t≠142:=by decide):af w' g t cs :=
 h.far.blk hg (mJ.not h0 hg h1 h2)
theorem aR.kept {bs bb:Nat} {V V0:Vm} {L:List Nd} {w w':World} (h:aR bs bb V L w w') (h0:aA w bs V0) {A:Option Addr} {us:List Sp} (hk:KeptAt w A us):KeptAt w' A us :=
 hk.far h.far (λ_ _ hg=>mJ.not h0 hg zd zd)
theorem aR.below {bs bb:Nat} {V:Vm} {L:List Nd} {w w':World} (hV:aA w bs V) (hB:bz w bb L) (h:Below w.heap.size w w'):aR bs bb V L w w':=⟨hV.call h,hB.call h,ag.of_below h⟩
theorem aR.iX {bs bb:Nat} {V V':Vm} {L:List Nd} {w w':World} (hV:aA w bs V) (hB:bz w bb L) (h:dw bs V' w w'):aR bs bb V' L w w':=by
 refine ⟨h.1,?_,h.2.mono (λk _ hk=>.inl hk)⟩;obtain ⟨cs,hc⟩:=hV.typed;refine hB.far h.2 (λe=>?_) (λk ⟨_,ds,hd⟩ e=>?_)
 ·obtain ⟨A,cap,k,_⟩:=hB.ex
  have e:bb=bs:=e;subst e;exact k.ne hc zd
 ·have e:k=bs:=e
  subst e;exact hd.ne hc zd
theorem aR.mU {bs bb:Nat} {V:Vm} {L:List Nd} {w w':World} (hV:aA w bs V) (h:O0 bb L w w'):aR bs bb V L w w' :=
 ⟨hV.far h.2 hV.amC (λ_ _ _ _ _ _ _ _ _ _ ⟨_,hc⟩ ⟨_,_,hd⟩=>hc.ne hd zd),h.1,h.2.mono (λ_ _ hk=>.inr hk)⟩
theorem mJ.back {w w1:World} {bs bb k:Nat} (hF:ag (mJ w bs bb) w w1) (hk:k<w.heap.size) (h:mJ w1 bs bb k):mJ w bs bb k:=by
 rcases h with h|⟨hb,cs,hcs⟩
 ·exact .inl h
 ·by_cases h0:mJ w bs bb k
  ·exact h0
  ·exact .inr ⟨hb,cs,(hF.block k hk h0).symm.trans hcs⟩
theorem aR.trans {bs bb:Nat} {V V1:Vm} {L L1:List Nd} {w w1 w2:World} (h:aR bs bb V1 L1 w w1) (k:aR bs bb V L w1 w2):aR bs bb V L w w2 :=
 ⟨k.sys,k.eO,h.far.trans' k.far (λ_ hi ht=>mJ.back h.far hi ht)⟩
theorem aR.aU {bs bb:Nat} {V:Vm} {L:List Nd} {w w1 w2:World} (h:aR bs bb V L w w1) (k:Below w1.heap.size w1 w2):aR bs bb V L w w2:=h.trans (.below h.sys h.eO k)
theorem aR.size {bs bb:Nat} {V:Vm} {L:List Nd} {w w1:World} (h:aR bs bb V L w w1):w.heap.size<=w1.heap.size:=h.far.size
theorem aR.fresh {bs bb:Nat} {V:Vm} {L:List Nd} {w w1 w2:World} {T:Nat->Prop} (h:aR bs bb V L w w1) (hF:ag T w1 w2) (hT:∀k,T k->w.heap.size<=k) (hty:∀k,T k->∃t cs,af w1 k t cs/\t≠105/\t≠142/\t≠145/\t≠108):aR bs bb V L w w2:=by
 refine ⟨?_,?_,h.far.trans' hF (λi hi ht=>absurd (hT i ht) zo)⟩
 ·obtain ⟨cs,hc⟩:=h.sys.typed
  refine h.sys.far hF (λht=>?_) (λ_ _ _ _ _ _ _ _ _ _ ⟨_,hr⟩ ht=>?_)
  ·obtain ⟨t,ds,hd,h1,_⟩:=hty _ ht
   exact hd.ne hc h1
  ·obtain ⟨t,ds,hd,_,_,_,h4⟩:=hty _ ht
   exact hd.ne hr h4
 ·refine h.eO.far hF (λht=>?_) (λk ⟨_,es,he⟩ ht=>?_)
  ·obtain ⟨A,cap,k,_⟩:=h.eO.ex
   obtain ⟨t,ds,hd,_,_,h3,_⟩:=hty _ ht;exact hd.ne k h3
  ·obtain ⟨t,ds,hd,_,h2,_⟩:=hty _ ht
   exact hd.ne he h2
end Go.Pol
namespace Go.Proofs.YtlgcpjhimomiaaaGreat
open Go Go.Proofs Go.RowKit Go.Pol Tryz
theorem JW (pg n f b ev:Int) (w:World) :
  Calls prog 160 #[ek pg n f b ev] w (OI w (eY pg n f b ev) (bQ pg n f b ev)):=by
 unfold eY;have HC:=ae (λW=>oU pg n f b ev W);have hb0:=aQ w (.cells (bg pg n f b ev) 25);have k0:=af.new w 25 (bg pg n f b ev);have c0:=k0.cell;by_cases hc:bQ pg n f b ev=0
 ·have hp:=bR.1 hc
  rw [hc] at HC ⊢;rw [if_pos rfl];have HS:=ae (λW=>Gg pg n f b ev false W hp _ (Ra hp));clear hp hc;generalize aZ (ay pg n f b ev) (pg,n)=G at *;go_enter func160,ntmps160
  go_wp2_with (first
   | (go_at_call 91;refine (HC.out _).mono ?_;rintro e w1 ⟨rfl,hq⟩;have k1:=k0.call hq;have c1:=k1.cell)
   | (go_at_call 157;refine (HS.out _).mono ?_;rintro e w2 ⟨A,cap,rfl,dR,h1,h2,h3,hq2⟩))
  go_ret2;have hb1:=hb0.zt hq;exact ⟨A,cap,rfl,dR,h1,h2,λb o e=>by have:=h3 b o e;have:=hb1.size;omega,hb1.zt hq2⟩
 ·rw [if_neg hc]
  generalize bQ pg n f b ev=er at *;have hc':(er != 0)=true:=by simpa using hc
  clear hc;go_enter func160,ntmps160
  go_wp2_with (go_at_call 91;refine (HC.out _).mono ?_;rintro e w1 ⟨rfl,hq⟩)
  go_ret2;exact ⟨none,0,rfl,RU.nil,zs,by unfold maxLen;omega,λb o e=>(by cases e),hb0.zt hq⟩
theorem uy (pg n f b ev:Int) (w:World) (hp:dO pg n f b ev) (L:List Int) (hL:bA (ay pg n f b ev)=L) :
  Calls prog 92 #[ek pg n f b ev] w λe w'=>∃(A':Option Addr) (cap':Nat),e= .returned (.slice A' L.length cap')/\RI w' w'.heap.size A' L/\Below w.heap.size w w':=by
 have hb0:=aQ w (.cells (bg pg n f b ev) 25);have k0:=af.new w 25 (bg pg n f b ev);have c0:=k0.cell;have HS:=ae (λW=>Gg pg n f b ev true W hp _ (Vu hp));have HP:=ae (λA cap W h1 h2=>LW A (ay pg n f b ev).length cap (ay pg n f b ev) W rfl h1 h2 (bN hp) L hL);clear hp hL;generalize ay pg n f b ev=G at *;go_enter func92,ntmps92
 go_wp2_with (first
  | (go_at_call 157;refine (HS.out _).mono ?_;rintro e w1 ⟨A,cap,rfl,dR,h1,h2,h3,hq⟩)
  | (go_at_call 156;refine (HP.out _ _ _ (Nat.le_trans h1 h2) dR).mono ?_;rintro e w2 ⟨A2,cap2,rfl,vQ,hq2⟩))
 go_ret;have hb1:=hb0.zt hq;exact ⟨A2,cap2,rfl,vQ,hb1.zt hq2⟩
theorem vY (pg n f b ev:Int) (w:World) :
  zK 27 #[ek pg n f b ev] w (.tuple #[zI (lT pg n f b ev).1,zI (lT pg n f b ev).2,zI (bQ pg n f b ev)]):=by
 have HC:=ae (λW=>oU pg n f b ev W);have hb0:=aQ w (.cells (bg pg n f b ev) 25);have k0:=af.new w 25 (bg pg n f b ev);have c0:=k0.cell;unfold lT;by_cases hc:bQ pg n f b ev=0
 ·have hp:=bR.1 hc
  rw [hc] at HC ⊢;rw [if_pos rfl];have HU:=ae (λW=>uy pg n f b ev W hp _ rfl);have hsum:=iB (ay pg n f b ev) (λx hx=>by have:=(av.1 ((bN hp).1 x hx)).2.2.1;omega);have hsb:=iK (ay pg n f b ev) (bN hp).1;have hl:=(bN hp).len;have hn1:=hp.n1;have hn0:=hp.n0;have rF:=hp.Cv;generalize bA (ay pg n f b ev)=L at *;rw [<-hsum] at hsb ⊢;generalize hLL:L.length=LL at *;clear hsum hp;go_enter func27,ntmps27
  go_wp2_with (first
   | (go_at_call 91;refine (HC.out _).mono ?_;rintro e w1 ⟨rfl,hq⟩;have k1:=k0.call hq;have c1:=k1.cell)
   | (go_at_call 92;refine (HU.out _).mono ?_;rintro e w2 ⟨A2,cap2,rfl,vQ,hq2⟩;have k2:=k1.call hq2;have c2:=k2.cell))
  have hb1:=hb0.zt hq;have hb2:=hb1.zt hq2;have e1:=λz:Ext w2=>(z.blk k2).cell
  refine aD zk zk ?_
  repeat (go_big_quiet_step (fail))
  refine wpQuiet_nil ?_;rintro w3 ⟨⟨_,hw3⟩,rfl⟩;go_wp2_with fail;refine bodyPost_ret (v:=.tuple #[zI (LL:Int),zI (n - LL),zI 0]) (by simp [results,results27,go_sem]) rfl ⟨rfl,hb2.zt hw3⟩
 ·rw [if_neg hc]
  generalize bQ pg n f b ev=er at *;have hc':(er != 0)=true:=by simpa using hc
  clear hc;go_enter func27,ntmps27
  go_wp2_with (go_at_call 91;refine (HC.out _).mono ?_;rintro e w1 ⟨rfl,hq⟩)
  refine bodyPost_ret (v:=.tuple #[zI 0,zI 0,zI er]) (by simp [results,results27,go_sem]) rfl ⟨rfl,hb0.zt hq⟩
theorem ajw {P:Prop} (h:P:=by
 clear hR h1;go_enter func107,ntmps107
 go_wp2_with (first
  | (go_at_call 91;refine (HC.out _).mono ?_;rintro e w1 ⟨rfl,hq⟩;have k1:=k0.call hq;have c1:=k1.cell)
  | (go_at_call 92;refine (HU.out _).mono ?_;rintro e w2 ⟨A2,cap2,rfl,vQ,hq2⟩))
 have hb1:=hb0.zt hq;have hb2:=hb1.zt hq2;refine bodyPost_ret (v:=.tuple #[zI 0,zI 7]) (by simp [results,results107,go_sem]) rfl ⟨by rw [hE.out],hb2⟩):P:=h
theorem zX (pg n f b ev i:Int) (w:World) (R:Int×Int) (hR:(if bQ pg n f b ev=0 then lS (ay pg n f b ev) i else (0,bQ pg n f b ev))=R) :
  zK 107 #[ek pg n f b ev,zI i] w (.tuple #[zI R.1,zI R.2]):=by
 have HC:=ae (λW=>oU pg n f b ev W);have hb0:=aQ w (.cells (bg pg n f b ev) 25);have k0:=af.new w 25 (bg pg n f b ev);have c0:=k0.cell;by_cases hc:bQ pg n f b ev=0
 ·have hp:=bR.1 hc
  rw [if_pos hc,qO _ _ (λx hx=>(av.1 ((bN hp).1 x hx)).2.2.1)] at hR;rw [hc] at HC;have HU:=ae (λW=>uy pg n f b ev W hp _ rfl);have hsum:=iB (ay pg n f b ev) (λx hx=>by have:=(av.1 ((bN hp).1 x hx)).2.2.1;omega);have hsb:=iK (ay pg n f b ev) (bN hp).1;have hl:=(bN hp).len;generalize bA (ay pg n f b ev)=L at *;generalize hLL:L.length=LL at *;rw [<-hsum] at hsb;clear hsum hp hc;by_cases h1:i<0
  ·have h1':=bU h1
   have hE:Hid (R=(0,7)):=ae (by rw [<-hR,wJ,if_pos (.inl h1)]);exact ajw
  ·have h1':=bV h1
   by_cases h2:(LL:Int)<=i
   ·have h2':=bU h2
    have hE:Hid (R=(0,7)):=ae (by rw [<-hR,wJ,if_pos (.inr (by rw [hLL];exact h2))]);exact ajw
   ·have h2':=bV h2
    have hE:Hid (R=(L.getD i.toNat 0,0)):=ae (by rw [<-hR,wJ,if_neg (by rw [hLL];omega)]);have hi:0<=i/\i<LL:=zo;clear hR;obtain ⟨y,hy⟩:=ah (L.getD i.toNat 0);rw [hy] at hE;have hy':=ae hy;clear hy;go_enter func107,ntmps107
    go_wp2_with (first
     | (go_at_call 91;refine (HC.out _).mono ?_;rintro e w1 ⟨rfl,hq⟩;have k1:=k0.call hq;have c1:=k1.cell)
     | (go_at_call 92;refine (HU.out _).mono ?_;rintro e w2 ⟨A2,cap2,rfl,vQ,hq2⟩;obtain ⟨bb,oo,rfl,hbb,hcc⟩:=RI.at_ vQ (k:=i.toNat) zo;rw [hy'.out] at hcc))
    have hb1:=hb0.zt hq;have hb2:=hb1.zt hq2;refine bodyPost_ret (v:=.tuple #[zI y,zI 0]) (by simp [results,results107,go_sem]) rfl ⟨by rw [hE.out],hb2⟩
 ·rw [if_neg hc] at hR
  generalize bQ pg n f b ev=er at *;have hc':(er != 0)=true:=by simpa using hc
  have hE:Hid (R=(0,er)):=ae hR.symm;clear hc hR;go_enter func107,ntmps107
  go_wp2_with (go_at_call 91;refine (HC.out _).mono ?_;rintro e w1 ⟨rfl,hq⟩)
  refine bodyPost_ret (v:=.tuple #[zI 0,zI er]) (by simp [results,results107,go_sem]) rfl ⟨by rw [hE.out],hb0.zt hq⟩
theorem WT (page:Int) (L:List Int) (k:Nat) (hk:k<L.length):wK page k (L.drop k)=if L.getD k 0=page then ((k:Int),0) else wK page ((k:Int)+1) (L.drop (k+1)):=by
 rw [drop_cons 0 L k hk,wK]
theorem BR (pg n f b ev page:Int) (w:World) (R:Int×Int) (hR:(if bQ pg n f b ev=0 then fZ page 0 (ay pg n f b ev) else (0,bQ pg n f b ev))=R) :
  zK 134 #[ek pg n f b ev,zI page] w (.tuple #[zI R.1,zI R.2]):=by
 have HC:=ae (λW=>oU pg n f b ev W);have hb0:=aQ w (.cells (bg pg n f b ev) 25);have k0:=af.new w 25 (bg pg n f b ev);have c0:=k0.cell;by_cases hc:bQ pg n f b ev=0
 ·have hp:=bR.1 hc
  rw [if_pos hc,zl _ _ _ (λx hx=>(av.1 ((bN hp).1 x hx)).2.2.1)] at hR;rw [hc] at HC;have HU:=ae (λW=>uy pg n f b ev W hp _ rfl);have hsum:=iB (ay pg n f b ev) (λx hx=>by have:=(av.1 ((bN hp).1 x hx)).2.2.1;omega);have hsb:=iK (ay pg n f b ev) (bN hp).1;have hl:=(bN hp).len;generalize bA (ay pg n f b ev)=L at *;generalize hLL:L.length=LL at *;rw [<-hsum] at hsb;have aea:=ae hLL;have hR':=ae hR;clear hsum hp hc hR;go_enter func134,ntmps134
  go_wp2_with (first
   | (go_at_call 91;refine (HC.out _).mono ?_;rintro e w1 ⟨rfl,hq⟩;have k1:=k0.call hq;have c1:=k1.cell)
   | (go_at_call 92;refine (HU.out _).mono ?_;rintro e w2 ⟨A2,cap2,rfl,vQ,hq2⟩))
  have hb1:=hb0.zt hq;have hb2:=hb1.zt hq2
  go_loopw [8] (λi wr=>∃(k:Nat),k<=LL/\i = zI k/\Below w.heap.size w wr/\RI wr wr.heap.size A2 L/\Hid (R=wK page k (L.drop k))) (λi _=>LL - (intOf i).toNat)
  case atStart=>exact ⟨0,zo,rfl,hb2,vQ,ae (by rw [<-hR'.out];rfl)⟩
  case round =>
   obtain ⟨k,hk,rfl,hb2,vQ,hH⟩:=hrel;by_cases hlt:k<LL
   ·have hlt':decide ((k:Int)<(LL:Int))=true:=by simp;omega
    obtain ⟨bb,oo,rfl,hbb,hcc⟩:=RI.at_ vQ (k:=k) (by have:=aea.out;omega);have hdr:=ae (WT page L k (by have:=aea.out;omega));generalize L.getD k 0=y at *;by_cases hy:y=page
    ·have hy':=Hd hy
     have hE:Hid (R=((k:Int),0)):=ae (by rw [hH.out,hdr.out,if_pos hy]);clear hy;go_wp2_with fail;refine bodyPost_ret (v:=.tuple #[zI (k:Int),zI 0]) (by simp [results,results134,go_sem]) rfl ⟨by rw [hE.out],hb2⟩
    ·have hy':=lV hy
     have hN:Hid (R=wK page ((k+1:Nat):Int) (L.drop (k+1))):=ae (by rw [hH.out,hdr.out,if_neg hy];rfl);clear hy;go_wp2_with fail;go_roundw
     case rel=>exact ⟨k+1,zo,zs,hb2,vQ,hN⟩
     case measure=>exact zm
   ·have hlt':decide ((k:Int)<(LL:Int))=false:=by simp;omega
    have hE:Hid (R=(0,4)):=ae (by rw [hH.out,List.drop_of_length_le (by have:=aea.out;omega)];rfl);go_wp2_with fail;refine bodyPost_ret (v:=.tuple #[zI 0,zI 4]) (by simp [results,results134,go_sem]) rfl ⟨by rw [hE.out],hb2⟩
 ·rw [if_neg hc] at hR
  generalize bQ pg n f b ev=er at *;have hc':(er != 0)=true:=by simpa using hc
  have hE:Hid (R=(0,er)):=ae hR.symm;clear hc hR;go_enter func134,ntmps134
  go_wp2_with (go_at_call 91;refine (HC.out _).mono ?_;rintro e w1 ⟨rfl,hq⟩)
  refine bodyPost_ret (v:=.tuple #[zI 0,zI er]) (by simp [results,results134,go_sem]) rfl ⟨by rw [hE.out],hb0.zt hq⟩
open Go.Shelf
attribute [local go_sem] Oper.semAt_some aC au aB ai
theorem BS (B b:Nat) (a n:Int) (V:Vm) (w:World) (hV:bn w B b V) :
  Calls prog 126 #[zP b,zI a,zI n,.bool false] w λe w'=>e= .returned (zI (bK V a n 4 3 1).1)/\eF B b (bK V a n 4 3 1).2 w w':=by
 have HC:=ae (oD B b a n 3 1 4 V w hV zd);clear hV;generalize bK V a n 4 3 1=R at *;exact ajv
theorem MB (B b:Nat) (pg n f bk ev:Int) (V:Vm) (w:World) (hV:bn w B b V) (WU:(eY pg n f bk ev).length<=512) :
  Calls prog 100 #[zP b,ek pg n f bk ev] w (Sz B b (jL V (bQ pg n f bk ev) (eY pg n f bk ev)) w):=by
 obtain ⟨j0,hj,hy0,hy1,hy2⟩:=dW;have hb0:=aQ w (.cells (bg pg n f bk ev) 25);have k0:=af.new w 25 (bg pg n f bk ev);have HA:=ae (λW=>JW pg n f bk ev W);have V0:=hV.call hb0;have hbw:=hV.lt;have hBb:=hV.base;have c0:=k0.cell;obtain ⟨R,hR⟩:=ah (jL V (bQ pg n f bk ev) (eY pg n f bk ev));rw [hR];have hR':=ae hR;unfold jL at hR';generalize bQ pg n f bk ev=ck at *;generalize eY pg n f bk ev=G at *;unfold OI at HA;obtain ⟨gn,hgn⟩:=ah (G.length);rw [hgn] at HA WU;have uz:=ae hgn;clear hV hR hgn;by_cases h0:ck=0
 case neg =>
  have h0':=gJ h0;have hR2:Hid (R=([],ck,V)):=ae (by rw [<-hR'.out,if_neg h0]);clear hR' h0;go_enter func100,ntmps100;go_wp2_with fail;refine (HA.out _).mono ?_;rintro e w1 ⟨A1,c1,rfl,g1,g2,g3,g4,g5⟩;have B1:=hb0.zt g5;have V1:=V0.call g5;clear HA V0;go_wp2_with fail;go_ret2;rw [hR2.out];exact ⟨none,0,rfl,RU.nil,λ_ _ h=>(by cases h),by unfold maxLen;simp,V1,.of_below B1⟩
 case pos =>
  subst h0;have hR2:Hid (pU G [] G V=R):=ae (by rw [<-hR'.out,if_pos rfl]);clear hR';go_enter func100,ntmps100;go_wp2_with fail;refine (HA.out (w.alloc (.cells (bg pg n f bk ev) 25))).mono ?_;rintro e w1 ⟨A1,c1,rfl,g1,g2,g3,g4,g5⟩;have B1:=hb0.zt g5;have V1:=ae (V0.call g5);have hs1:=B1.size;have hA1:∀g o,A1=some ⟨g,o,none⟩->¬g=b:=λg o e h=>by have:=g4 g o e;have:=hb0.size;omega
  have ajx:∀g o,A1=some ⟨g,o,none⟩->w.heap.size<=g:=λg o e=>by have:=g4 g o e;have:=hb0.size;omega
  have g1':=ae g1;have hgm:gn<=maxLen:=zo;have ajy:=ae hgm;have Gy:=ae hA1;have aec:=ae ajx;unfold maxLen at hgm;have hB1:=ae B1;clear HA V0 g1 g2 g3 g4 g5 hA1 ajx c0 k0 hb0 B1;go_wp2_with fail
  go_loopw [7,8] (λv7 i wr=>∃(k:Nat) (z7:Int) (T:Vm),k<=gn/\i = zI k/\v7 = zI z7/\Hid (pU G (G.take k).reverse (G.drop k) T=R)/\Hid (bn wr B b T)/\ag (λk=>k=b) w1 wr) (λ_ i _=>gn - (intOf i).toNat)
  case atStart=>exact ⟨0,_,V,zo,rfl,rfl,ae (by simpa using hR2.out),V1,ag.refl _ _⟩
  case round =>
   clear V1;obtain ⟨k,z7,T,hk,rfl,rfl,hfl,hT,hF⟩:=hrel;have hs4:=hF.size;have hbz:=hT.out.lt;by_cases hlt:k<gn
   ·have hlt':decide ((k:Int)<(gn:Int))=true:=by simpa using hlt
    obtain ⟨rb,ro,hAe,hrb,c5,c6⟩:=g1'.out.at_' (k:=k) (by have:=uz.out;omega);subst hAe;have hne:=Gy.out _ _ rfl;have hgA:=aec.out _ _ rfl;have d5:=hF.cell c5 (by show ¬rb=b;omega);have d6:=hF.cell c6 (by show ¬rb=b;omega);have hsn:=hfl.out;rw [Go.Pol.drop_cons (0,0) G k (by have:=uz.out;omega),pU] at hsn;have htk:Hid ((G.take (k+1)).reverse=G.getD k (0,0)::(G.take k).reverse):=ae (by rw [nK (0,0) G (by have:=uz.out;omega),List.reverse_append];rfl);generalize G.getD k (0,0)=x at *;obtain ⟨xa,xb⟩:=x;simp only at d5 d6 hsn;have zY:=ae hsn;have e1:=λx:Ext wr=>x.cell d5
    have e2:=λx:Ext wr=>x.cell d6
    clear hsn c5 c6 hfl;go_upto_region 7 with fail
    refine df 11 zk zk ?_;simp only [List.take_succ_cons,List.take_zero,List.drop_succ_cons,List.drop_zero]
    repeat (go_big_quiet_step (fail))
    refine wpQuiet_nil ?_;intro z;have Tx:=ae (hT.out.call z.le);have Jm:ag (λk=>k=b) w1 z.w:=hF.trans (.of_below z.le);have HD:=ae (Sy B b xa xb T z.w Tx.out);clear hT hF d5 d6 e1 e2;go_wp2_with fail;refine HD.out.zr ?_;rintro w6 ⟨V6,F6⟩;have V6':=ae V6;have Jr:=Jm.trans F6;generalize bK T xa xb 4 1 3=J at *;obtain ⟨je,jV⟩:=J;simp only at zY V6';have nz:=zY.out;clear HD Tx Jm F6 V6 zY;by_cases hj2:je=0
    ·subst hj2
     rw [if_pos rfl] at nz;have D9:=ae nz;clear nz;go_wp2_with fail;go_roundw
     case rel=>exact ⟨k+1,_,jV,zo,by go_num,rfl,by rw [htk.out];exact D9,V6',Jr⟩
     case measure=>exact zm
    ·have hj':=lV hj2
     rw [if_neg hj2] at nz;obtain ⟨D,hD⟩:=ah ((G.take k).reverse.foldl jH ([],jV));rw [hD] at nz;have jZ:=ae nz;have hD':=ae hD;have hs6:=Jr.size;clear nz hj2 hD htk;go_wp2_with fail
     go_loopw [9,10] (λv9 i wz=>∃(m:Nat) (y:Int) (L:List Sp) (U:Vm),m<=k/\i = zI y/\y=(m:Int) - 1/\L.length+m<=k/\Hid ((G.take m).reverse.foldl jH (L,U)=D)/\wz.ownsRow w1.heap.size 85 2 v9 L.length (ax L)/\Hid (bn wz B b U)/\ag (λk=>k=b) w1 wz) (λ_ i _=>((intOf i)+1).toNat)
     case atStart=>exact ⟨k,(k:Int) - 1,[],jV,zo,by go_num,rfl,zs,hD',World.ownsRow_nil _ _ _ _,V6',Jr⟩
     case round =>
      clear Jr V6' hD';obtain ⟨m,y,L,U,hmk,rfl,hy,hLm,Y4,hrow,hU,vR⟩:=hrel;have hs7:=vR.size;have axf:=hU.out.lt;by_cases hm0:m=0
      ·subst hm0
       have hyd:decide (0<=y)=false:=by rw [decide_eq_false_iff_not];omega
       have CX:Hid (R=(L,je,U)):=ae (by rw [<-jZ.out,<-Y4.out];rfl);obtain ⟨A5,cap5,rfl,SB,_,_,Y5,_⟩:=lQ hrow rfl;have FF:=(ag.of_below hB1.out).trans vR;clear jZ Y4 hy;go_wp2_with fail;go_ret2;rw [CX.out];exact ⟨A5,cap5,rfl,SB,λg o e=>by have:=Y5 g o e;omega,by have:=ajy.out;show L.length<=maxLen;omega,hU.out,FF⟩
      ·obtain ⟨q,hq⟩:∃q:Nat,m=q+1:=⟨m - 1,zo⟩
       subst hq;have hyq:y=(q:Int):=zo;subst hyq;have hyd:decide ((0:Int)<=(q:Int))=true:=by rw [decide_eq_true_eq];omega
       have hqg:q<gn:=zo;obtain ⟨rb2,uQ,apV,axg,c5,c6⟩:=g1'.out.at_' (k:=q) (by have:=uz.out;omega);cases apV;have d5:=vR.cell c5 (by show ¬rb=b;omega);have d6:=vR.cell c6 (by show ¬rb=b;omega);have hsn:=Y4.out;rw [nK (0,0) G (by have:=uz.out;omega),List.reverse_append,List.reverse_singleton,List.singleton_append,List.foldl_cons] at hsn;generalize G.getD q (0,0)=x at *;obtain ⟨ya,yb⟩:=x;rw [show jH (L,U) (ya,yb)=(if (bK U ya yb 4 3 1).1=0 then L else (ya,yb)::L,(bK U ya yb 4 3 1).2) from rfl] at hsn;simp only at d5 d6;have zY:=ae hsn;have e1:=λx:Ext wr=>x.cell d5
       have e2:=λx:Ext wr=>x.cell d6
       clear hsn c5 c6 Y4 hy hm0;go_upto_region 13 with fail
       refine df 11 zk zk ?_;simp only [List.take_succ_cons,List.take_zero,List.drop_succ_cons,List.drop_zero]
       repeat (go_big_quiet_step (fail))
       refine wpQuiet_nil ?_;intro z2;have Tx:=ae (hU.out.call z2.le);have aed:=aI hrow z2.le;have Jm:ag (λk=>k=b) w1 z2.w:=vR.trans (.of_below z2.le);have HD:=ae (BS B b ya yb U z2.w Tx.out);have f5:=z2.cell d5;have f6:=z2.cell d6;clear hU hrow vR d5 d6 e1 e2;go_wp2_with fail;refine HD.out.zr ?_;rintro w8 ⟨V8,F8⟩;have V8':=ae V8;have Y6:=aN aed F8 (λg hg h=>by have:=(aed.lt g hg).1;omega);have hF8:=Jm.trans F8;have d5:=F8.cell f5 (by show ¬rb=b;omega);have d6:=F8.cell f6 (by show ¬rb=b;omega);generalize bK U ya yb 4 3 1=K2 at *;obtain ⟨ke,kV⟩:=K2;simp only at zY V8';have nz:=zY.out;clear HD Tx aed Jm F8 V8 zY f5 f6;by_cases hk2:ke=0
       ·subst hk2
        rw [if_pos rfl] at nz;have D9:=ae nz;clear nz d5 d6;go_wp2_with fail;go_roundw
        case rel=>exact ⟨q,(q:Int) - 1,L,kV,zo,by go_num,rfl,zo,D9,Y6,V8',hF8⟩
        case measure=>simp [intOf]
       ·have hk':=gJ hk2
        rw [if_neg hk2] at nz;have D9:=ae nz;have hs8:=hF8.size;have hlc:=ae (dN L);have kN:=af.new w8 85 #[zI ya,zI yb];have hbN:Below w8.heap.size w8 (w8.alloc (.cells #[zI ya,zI yb] 85)):=(Below.refl _ _).alloc (Nat.le_refl _) _;obtain ⟨A5,cap5,rfl,SB,_,_,Y5,_⟩:=lQ Y6 rfl;have ho:(w8.alloc (.cells #[zI ya,zI yb] 85)).ownsRow w1.heap.size 85 2 (.slice (some ⟨w8.heap.size,0,none⟩) 1 1) 1 [zI ya,zI yb]:=aeb zo;have hA5:A5=none->L.length=0/\cap5=0:=λe=>by
         subst e;rcases Y6.2 with h|⟨g,c,cur,h,_⟩
         ·simp_all
         ·cases h
        have hnw:∀ad,A5=some ad->∀j u,(ax L)[j]? = some u->(w8.alloc (.cells #[zI ya,zI yb] 85)).cell? (ad.add j)=some u:=λad he j u hu=>by
         rcases Ip (SB.on hbN) with ⟨e,_⟩|⟨ad2,e,h⟩
         ·rw [e] at he;cases he
         ·rw [e] at he;cases he;exact h j u hu
        have h1o:=sG L;clear nz hk2 Y6
        go_wp2_with (refine uw rfl (.tmp 62) (.tmp 63) 26 rfl w1.heap.size 85 j0 (.agg #[zI 0,zI 0]) 2 16 underlying26 hj hy0 hy1 hy2 rfl zd _ 1 [zI ya,zI yb] rfl ho A5 L.length cap5 (ax L) rfl hA5 hlc.out hnw h1o (by unfold maxLen;omega) zo (by simp;omega) ?_;intro v' w9 hown' hgrow)
        go_roundw
        case rel =>
         have F7:ag (λk=>w1.heap.size<=k) w8 w9:=(ag.of_below hbN).grown hgrow (λg hg hlt=>(ho.lt g hg).1);have F37:ag (λk=>k=b) w1 w9:=hF8.trans' F7 (λi hi h=>by omega);exact ⟨q,(q:Int) - 1,(ya,yb)::L,kV,zo,by go_num,rfl,by rw [List.length_cons];omega,D9,by rw [List.length_cons,Nat.add_comm];exact hown',ae (V8'.out.far F7 (λk h=>by omega)),F37⟩
        case measure=>simp [intOf]
   ·obtain rfl:k=gn:=zo
    have hlt':decide ((k:Int)<(k:Int))=false:=by simp
    have jZ:Hid (R=(G,0,T)):=ae (by rw [<-hfl.out,List.drop_of_length_le (by have:=uz.out;omega)];rfl);have dR:=ae ((hF.ru g1'.out (λg o e=>Gy.out g o e)).more hF.size);have FF:=(ag.of_below hB1.out).trans hF;clear hR2 hfl;go_wp2_with fail;go_ret2;rw [jZ.out];exact ⟨A1,c1,by rw [uz.out];rfl,dR.out,aec.out,by have:=ajy.out;have:=uz.out;show G.length<=maxLen;omega,hT.out,FF⟩
def plD (s p:Nat):Deferred:={ target:=.fn (.func 137) #[zP (s+3),zP s,zP p,zP (s+2)],args:=#[] }
theorem JX:∀args w,(callFunc 137 args).run prog w= .ok (.enter 137 args) w:=enters_of func137 zk rfl
theorem Gz (s p:Nat) (w:World):(invoke (plD s p).target (plD s p).args).run prog w= .ok (.enter 137 #[zP (s+3),zP s,zP p,zP (s+2)]) w:=JX _ w
def StS (g4 g5:Nat) (x:Int) (W:World):Prop:=W.cell? ⟨g4,0,none⟩=some zN/\W.cell? ⟨g5,0,none⟩=some (zI x)
def PlI (b s base:Nat) (je:Int) (R:List Sp×Vm) (w0:World) (ds:List Deferred) (w:World):Prop :=
 ∃(Ds:List Nat) (D L:List Sp) (U:Vm) (v3:Value),ds=Ds.map (plD s)/\vZ w (s+4) base Ds D/\af w (s+3) 37 #[zI je]/\af w s 42 #[zP b]/\af w (s+2) 26 #[v3] /\
  w.ownsRow base 85 2 v3 L.length (ax L)/\(L=[]->v3 = zN)/\L.length+D.length<=512/\aA w b U/\D.foldl jH (L,U)=R/\ag (λk=>k=b) w0 w/\base<=w.heap.size
theorem aay (b s base:Nat) (je:Int) (R:List Sp×Vm) (w0:World) (hs:w0.heap.size=s) (hb:b<s) (hbase:s+4<=base) (hje:je≠0) (d:Deferred) (ds:List Deferred) (w:World) (h:PlI b s base je R w0 (d::ds) w) :
  ∃fv cap f args,d.target= .fn fv cap/\(invoke d.target d.args).run prog w= .ok (.enter f args) w/\CallsD prog f args .returning w (λe u' w'=>u'= .returning/\((∃v,e= .returned v)/\PlI b s base je R w0 ds w')):=by
 obtain ⟨Ds,D,L,U,v3,h1,h2,k0,k1,k3,hrow,hn,hl,hV,hR,hF,hbs⟩:=h
 match Ds,D,h1,h2 with
 | p::ps,x::xs,h1,h2 =>
  rw [List.map_cons] at h1;obtain ⟨rfl,rfl⟩:=List.cons.inj h1;obtain ⟨⟨q1,q2,k2⟩,h2⟩:=h2;obtain ⟨xa,xb⟩:=x;rw [List.length_cons] at hl;rw [List.foldl_cons,show jH (L,U) (xa,xb)=(if (bK U xa xb 4 3 1).1=0 then L else (xa,xb)::L,(bK U xa xb 4 3 1).2) from rfl] at hR;refine ⟨_,_,_,_,rfl,Gz s p w,?_⟩;by_cases hz:(bK U xa xb 4 3 1).1=0
  ·rw [if_pos hz] at hR
   refine (Mt b (s+3) s p (s+2) je xa xb U w hV hje k0 k1 k2 hz).mono ?_;rintro e u' w' ⟨rfl,hv,hS,hF'⟩;refine ⟨rfl,hv,ps,xs,L,_,v3,rfl,vZ.far hF' (λk hk _ h=>by omega) _ _ h2,hF'.blk k0 zo,hF'.blk k1 zo,hF'.blk k3 zo,aN hrow hF' (λg hg h=>by have:=(hrow.lt g hg).1;omega),hn,zo,hS,hR,hF.trans hF',by have:=hF'.size;omega⟩
  ·rw [if_neg hz] at hR
   refine (JV b (s+3) s p (s+2) base je xa xb U v3 L w hV hje k0 k1 k2 k3 zo hn hrow hbs zo zo zo zo hz).mono ?_;rintro e u' w' ⟨rfl,hv,v',Bl,row',hS,hF'⟩;refine ⟨rfl,hv,ps,xs,(xa,xb)::L,_,v',rfl,vZ.far hF' (λk hk hk2 h=>by omega) _ _ h2,hF'.blk k0 zo,hF'.blk k1 zo,Bl,row',λh=>(by cases h),by rw [List.length_cons];omega,hS,hR,hF.trans' hF' (λi hi h=>by omega),by have:=hF'.size;omega⟩
theorem SC (b:Nat) (pg n f bk ev:Int) (V:Vm) (w:World) (hV:aA w b V) (hK:aO V) (WU:(eY pg n f bk ev).length<=512) :
  Calls prog 63 #[zP b,ek pg n f bk ev] w (Su b (jL V (bQ pg n f bk ev) (eY pg n f bk ev)) w):=by
 have HA:=ae (λW h=>aav b pg n f bk ev V W h hK);obtain ⟨w0,hw0,hsz,hB0,k1,k2,k3,k4⟩:=Pz (zP b) (bg pg n f bk ev) w;obtain ⟨s,hs⟩:=ah (w.heap.size);have hbs:b<s:=by rw [<-hs];exact hV.lt
 have V0:=hV.call hB0;rw [hs] at k1 k2 k3 k4 hsz;obtain ⟨R,hR⟩:=ah (jL V (bQ pg n f bk ev) (eY pg n f bk ev));rw [hR];have hR':=ae hR;unfold jL at hR';generalize bQ pg n f bk ev=ck at *;generalize eY pg n f bk ev=G at *;unfold sW at HA;obtain ⟨gn,hgn⟩:=ah (G.length);rw [hgn] at HA WU;have uz:=ae hgn;clear hR hgn hV hK;by_cases h0:ck=0
 case neg =>
  have h0':=gJ h0;have hR2:Hid (R=([],ck,V)):=ae (by rw [<-hR'.out,if_neg h0]);clear hR' h0
  go_enter_defers func63,ntmps63
  go_upto_region 1 with fail
  unfold bg at hw0;try simp only [hs]
  rw [<-hw0];obtain ⟨c1,c2⟩:=bB k1 k2;clear hw0;go_wp2_with fail;refine (HA.out _ V0).mono ?_;rintro e w1 ⟨A1,JY,rfl,g1,g2,g3,g4,hb1,g6⟩;obtain ⟨lX,jM⟩:=bY hb1 k4 k3;have B1:=hB0.zt hb1;have V1:=V0.call hb1;have f5:=lX.frozen;have c5:=lX.cell;have hb2:Below w.heap.size w (w1.setCell ⟨s+1+1+1,0,none⟩ (zI ck)):=B1.setCell (p:=⟨s+1+1+1,0,none⟩) (by show w.heap.size<=s+1+1+1;omega) _;have F2:ag (λk=>k=s+3) w1 (w1.setCell ⟨s+3,0,none⟩ (zI ck)):=ag.setCell (T:=λk=>k=s+3) (p:=⟨s+3,0,none⟩) (ag.refl _ _) (λ_=>rfl) _;have V2:=V1.far F2 zo (λ_ _ _ _ _ _ g _ _ _ hc e=>hc.elim λcr hcr=>af.vN hcr lX zd e);have Ea:=lX.aM 0 (zI ck);have ja:=F2.blk jM (by show ¬s+2=s+3;omega);clear HA c1 c2 k1 k2 k3 k4 hB0 hb1 jM lX F2 B1;go_upto_region 2 with fail
  generalize w1.setCell _ _=w2 at *;clear c5 f5;have c5:=Ea.cell;go_upto_region 3 with fail
  clear c5;have Vd:aA w2.drew b V:=V2.call ((Below.refl _ w2).drew);refine bT ?_;refine bM (ErS (s+1+1+1) ck) [2] zk ?_;have JZ:=ja.drew;have WV:=Ea.drew;have hBd:=(hb2).drew;generalize (w2).drew=wd at *;have hS:ErS (s+1+1+1) ck wd:=⟨WV.cell 0,trivial⟩;have fz4:=JZ.frozen;refine aW 0 hS ?_;refine gD 1 λK hK=>?_
  have z4:=JZ.cell;go_simp;refine hK.out _ _ (λ_=>⟨((ag.setCell (T:=λk=>k=s+2) (p:=⟨s+1+1,0,none⟩) (ag.refl _ wd) (λ_=>rfl) zN).cell (WV.cell 0) (by show ¬s+3=s+2;omega)),trivial⟩) (λ_=>?_);clear hK K fz4 z4 hS;have Fx:ag (λk=>k=s+2) wd (wd.setCell ⟨s+2,0,none⟩ zN):=ag.setCell (T:=λk=>k=s+2) (p:=⟨s+2,0,none⟩) (ag.refl _ _) (λ_=>rfl) _;have SE:=JZ.aM 0 zN;have Da:=Fx.blk WV (by show ¬s+3=s+2;omega);have hBe:Below w.heap.size w (wd.setCell ⟨s+1+1,0,none⟩ zN):=hBd.setCell (p:=⟨s+1+1,0,none⟩) (by show w.heap.size<=s+1+1;omega) _;generalize wd.setCell _ _=we at *;try simp only [Act.put,iE,iF,iG]
  have fz5:=Da.frozen;have z5:=Da.cell;refine gD 2 λK hK=>?_
  go_simp;refine hK.out _ _ (λh=>by cases h) (λ_=>?_);clear hK K fz5 z5;have Fy:ag (λk=>k=s+3) we (we.setCell ⟨s+3,0,none⟩ (zI ck)):=ag.setCell (T:=λk=>k=s+3) (p:=⟨s+3,0,none⟩) (ag.refl _ _) (λ_=>rfl) _;have PL:=Da.aM 0 (zI ck);have SG:=Fy.blk SE (by show ¬s+2=s+3;omega);have hend:Below w.heap.size w (we.setCell ⟨s+1+1+1,0,none⟩ (zI ck)):=hBe.setCell (p:=⟨s+1+1+1,0,none⟩) (by show w.heap.size<=s+1+1+1;omega) _;generalize we.setCell _ _=wf at *;try simp only [Act.put,iE,iF,iG]
  refine bE zk ?_ _;refine aS ?_;obtain ⟨c4,c5⟩:=bB SG PL;go_wp2_with fail;have Ve:=Vd.far Fx zo (λ_ _ _ _ _ _ g _ _ _ hc e=>hc.elim λcr hcr=>af.vN hcr JZ zd e);have Vf:=Ve.far Fy zo (λ_ _ _ _ _ _ g _ _ _ hc e=>hc.elim λcr hcr=>af.vN hcr Da zd e);rw [hR2.out];refine ⟨_,?_,none,0,rfl,RU.nil,λ_ _ h=>(by cases h),by unfold maxLen;simp,Vf,.of_below hend⟩;simp [results,results63,go_sem,c4,c5]
 case pos =>
  subst h0;have hR2:Hid (pU G [] G V=R):=ae (by rw [<-hR'.out,if_pos rfl]);clear hR'
  go_enter_defers func63,ntmps63
  go_upto_region 1 with fail
  unfold bg at hw0;try simp only [hs]
  rw [<-hw0];obtain ⟨c1,c2⟩:=bB k1 k2;clear hw0;go_wp2_with fail;refine (HA.out _ V0).mono ?_;rintro e w1 ⟨A1,JY,rfl,g1,g2,g3,g4,hb1,g6⟩;obtain ⟨lX,jM,k11⟩:=mY hb1 k4 k3 k1;have B1:=hB0.zt hb1;have V1:=V0.call hb1;have f5:=lX.frozen;have c5:=lX.cell;clear HA c1 c2 k1 k2 k3 k4;go_upto_region 4 with fail
  have F2:ag (λk=>k=s+3) w1 (w1.setCell ⟨s+3,0,none⟩ (zI 0)):=ag.setCell (T:=λk=>k=s+3) (p:=⟨s+3,0,none⟩) (ag.refl _ _) (λ_=>rfl) _;have Ea:=lX.aM 0 (zI 0);have ja:=F2.blk jM (by show ¬s+2=s+3;omega);have k12:=F2.blk k11 (by show ¬s=s+3;omega);have V2:=V1.far F2 zo (λ_ _ _ _ _ _ g _ _ _ hc e=>hc.elim λcr hcr=>af.vN hcr lX zd e);have hF2:ag (λ_=>False) w (w1.setCell ⟨s+1+1+1,0,none⟩ (zI 0)):=(ag.of_below B1).trans' F2 (λi hi e=>by omega);have hs2:=F2.size;have hA1:∀g o,A1=some ⟨g,o,none⟩->s+4<=g:=λg o e=>by have:=g4 g o e;omega
  have g12:=ae ((F2.ru g1 (λg o e h=>by have:=hA1 g o e;omega)).more F2.size);have hw4:s+4<=w1.heap.size:=by have:=hb1.size;omega
  clear c5 f5 lX jM k11 F2 B1 V1 hb1 g1 V0 hB0;generalize w1.setCell _ _=w2 at *;have hgm:gn<=maxLen:=by unfold maxLen;omega
  unfold maxLen at hgm;have Gy:=ae hA1;have ajz:=ae hF2;have hs':=ae hs;have hsz2:s+4<=w2.heap.size:=zo;clear hA1 hF2 hs hsz g2 g3 g4 g6;go_wp2_with fail;refine wp_loop (λa wr=>∃(k:Nat) (Ds:List Nat) (T:Vm) (u8 u21 u22 u23 u24 u25 u26 u27 u28 u29 u30 u31 u32 u33 u34 u35:Value),a={ tmps:=#[.pointer (some ⟨b,0,none⟩),ek pg n f bk ev,.pointer (some ⟨s,0,none⟩),.pointer (some ⟨s+1,0,none⟩),.pointer (some ⟨s+1+1,0,none⟩),.pointer (some ⟨s+1+1+1,0,none⟩),.slice A1 gn JY,undef,u8,.tuple #[.slice A1 gn JY,zI 0],.pointer (some ⟨b,0,none⟩),.agg #[zI pg,zI n,zI f,zI bk,zI ev],.tuple #[.slice A1 gn JY,zI 0],.slice A1 gn JY,zI 0,zI 0,.bool false,undef,.slice A1 gn JY,zI gn,zI k,u21,u22,u23,u24,u25,u26,u27,u28,u29,u30,u31,u32,u33,u34,u35,undef],defers:=Ds.map (plD s) }/\k<=gn/\Hid (pU G (G.take k).reverse (G.drop k) T=R)/\vZ wr (s+4) wr.heap.size Ds (G.take k).reverse/\Hid (aA wr b T)/\af wr s 42 #[zP b]/\af wr (s+2) 26 #[zN]/\af wr (s+3) 37 #[zI 0]/\ag (λk=>k=b\/k=s+3) w2 wr) (λa _=>gn - (intOf (a.tmps.getD 20 undef)).toNat) ?_ ?_
  ·exact ⟨0,[],V,_,_,_,_,_,_,_,_,_,_,_,_,_,_,_,_,rfl,zo,ae (by simpa using hR2.out),trivial,ae V2,k12,ja,Ea,ag.refl _ _⟩
  ·rintro a wr ⟨k,Ds,T,u8,u21,u22,u23,u24,u25,u26,u27,u28,u29,u30,u31,u32,u33,u34,u35,rfl,hk,hfl,hBx,hT,q1,q2,q3,hF⟩
   have axh:=hF.size;by_cases hlt:k<gn
   ·have hlt':decide ((k:Int)<(gn:Int))=true:=by simpa using hlt
    obtain ⟨rb,ro,hAe,hrb,c5,c6⟩:=g12.out.at_' (k:=k) (by have:=uz.out;omega);have hrs:=Gy.out _ _ hAe;subst hAe;have d5:=hF.cell c5 (by show ¬(rb=b\/rb=s+3);omega);have d6:=hF.cell c6 (by show ¬(rb=b\/rb=s+3);omega);have hsn:=hfl.out;rw [Go.Pol.drop_cons (0,0) G k (by have:=uz.out;omega),pU] at hsn;have htk:Hid ((G.take (k+1)).reverse=G.getD k (0,0)::(G.take k).reverse):=ae (by rw [nK (0,0) G (by have:=uz.out;omega),List.reverse_append];rfl);generalize G.getD k (0,0)=x at *;obtain ⟨xa,xb⟩:=x;simp only at d5 d6 hsn;have zY:=ae hsn;have e1:=q1.cell;clear hsn c5 c6 hfl;go_upto_region 7 with fail
    have kx:=af.new wr 85 #[zI xa,zI xb];have hbx:Below wr.heap.size wr (wr.alloc (.cells #[zI xa,zI xb] 85)):=(Below.refl _ _).alloc (Nat.le_refl _) _;obtain ⟨p,hp⟩:=ah (wr.heap.size);have hzx:(wr.alloc (.cells #[zI xa,zI xb] 85)).heap.size=p+1:=by simp [hp]
    have hBx2:=ae (vZ.far (ag.of_below hbx) (T:=λ_=>False) (λ_ _ _ h=>h) _ _ hBx);have Tx:=ae (hT.out.call hbx);obtain ⟨r1,r2,r3⟩:=mY hbx q1 q2 q3;have Jm:ag (λk=>k=b\/k=s+3) w2 _:=hF.trans (.of_below hbx);rw [hp] at kx;generalize wr.alloc _=w5 at *;try simp only [hp]
    have HD:=ae (VR b xa xb T w5 Tx.out);obtain ⟨cx,e2⟩:=bB kx r1;clear hbx hT hF d5 d6 e1 q1 q2 q3 hBx;go_wp2_with fail;refine HD.out.zr ?_;rintro w6 ⟨V6,F6⟩;have r1':=F6.blk r1 zo;have r2':=F6.blk r2 zo;have r3':=F6.blk r3 zo;have kx':=F6.blk kx zo;rw [hp] at hBx2;have hBx3:=ae (vZ.far F6 (λk h1 h2 e=>by omega) _ _ hBx2.out);have Jr:ag (λk=>k=b\/k=s+3) w2 w6:=Jm.trans (F6.mono (λ_ _ e=>.inl e));have hz6:p+1<=w6.heap.size:=by have:=F6.size;omega
    generalize bK T xa xb 4 1 3=J at *;obtain ⟨je,jV⟩:=J;simp only at zY V6;have f3:=r3'.frozen;have c63:=r3'.cell;have uR:=r3'.aM 0 (zI je);have F7:ag (λk=>k=s+3) w6 (w6.setCell ⟨s+3,0,none⟩ (zI je)):=ag.setCell (T:=λk=>k=s+3) (p:=⟨s+3,0,none⟩) (ag.refl _ _) (λ_=>rfl) _;have V7:=V6.far F7 zo (λ_ _ _ _ _ _ g _ _ _ hc e=>hc.elim λcr hcr=>af.vN hcr r3' zd e);have k17:=F7.blk r1' zo;have k27:=F7.blk r2' zo;have Bq:=F7.blk kx' zo;have EU:=ae (vZ.far F7 (λk h1 h2 e=>by omega) _ _ hBx3.out);have vR:ag (λk=>k=b\/k=s+3) w2 (w6.setCell ⟨s+1+1+1,0,none⟩ (zI je)):=Jr.trans (F7.mono (λ_ _ e=>.inr e));have hz7:p+1<=(w6.setCell ⟨s+1+1+1,0,none⟩ (zI je)).heap.size:=Nat.le_trans hz6 F7.size;have nz:=zY.out;clear HD Tx r1 r2 r3 Jm F6 V6 kx cx e2 r1' r2' kx' hBx2 hBx3 Jr hz6 F7 zY;go_upto_region 8 with fail
    generalize w6.setCell _ _=w7 at *;clear r3' f3 c63;have c3:=uR.cell;by_cases hj2:je=0
    ·subst hj2
     rw [if_pos rfl] at nz;have D9:=ae nz;clear nz;go_upto_region 11 with fail
     go_wp2_with fail;rw [show ((k:Int)+1)=((k+1:Nat):Int) by omega];refine ⟨⟨k+1,p::Ds,jV,_,_,_,_,_,_,_,_,_,_,_,_,_,_,_,_,rfl,zo,by rw [htk.out];exact D9,?_,ae V7,k17,k27,uR,vR⟩,?_⟩
     ·rw [htk.out]
      exact ⟨⟨zo,zo,Bq⟩,vZ.more zo _ _ EU.out⟩
     ·simp [intOf];omega
    ·have hj':=gJ hj2
     rw [if_neg hj2] at nz;have D9:=ae nz;clear nz;go_upto_region 9 with fail
     refine bT ?_;refine bM (StS (s+1+1) (s+1+1+1) je) [3] zk ?_;have JZ:=k27.drew;have WV:=uR.drew;have kd1:=k17.drew;have Vd:aA w7.drew b jV:=V7.call ((Below.refl _ w7).drew);have hBd:=ae (vZ.far (T:=λ_=>False) ((ag.refl _ w7).drew) (λ_ _ _ h=>h) _ _ EU.out);have hFd:ag (λk=>k=b\/k=s+3) w2 w7.drew:=vR.drew;have hzd:p+1<=w7.drew.heap.size:=hz7;clear k27 uR k17 V7 EU vR c3 Bq hz7;generalize w7.drew=wd at *;have hS:StS (s+1+1) (s+1+1+1) je wd:=⟨JZ.cell 0,WV.cell 0⟩;refine aW 0 hS ?_;refine aW 1 hS ?_;refine gD 2 λK hK=>?_
     have z4:=JZ.cell;have fz4:=JZ.frozen;go_simp;have Fx:ag (λk=>k=s+2) wd (wd.setCell ⟨s+2,0,none⟩ zN):=ag.setCell (T:=λk=>k=s+2) (p:=⟨s+2,0,none⟩) (ag.refl _ wd) (λ_=>rfl) _;have SE:=JZ.aM 0 zN;have Da:=Fx.blk WV zo;refine hK.out _ _ (λ_=>⟨SE.cell 0,Da.cell 0⟩) (λ_=>?_);have ke1:=Fx.blk kd1 zo;have Ve:=Vd.far Fx zo (λ_ _ _ _ _ _ g _ _ _ hc e=>hc.elim λcr hcr=>af.vN hcr JZ zd e);have hBe:=ae (vZ.far Fx (λk h1 h2 e=>by omega) _ _ hBd.out);have hFe:ag (λk=>k=b\/k=s+3\/k=s+2) w2 (wd.setCell ⟨s+2,0,none⟩ zN):=(hFd.mono (λk _ e=>by omega)).trans (Fx.mono (λk _ e=>by omega));have hze:p<=(wd.setCell ⟨s+2,0,none⟩ zN).heap.size:=Nat.le_trans zo Fx.size;clear hK K fz4 z4 hS Fx hzd hFd hBd Vd kd1 JZ WV;generalize wd.setCell _ _=we at *;have fz5:=Da.frozen;have z5:=Da.cell;refine gD 3 λK hK=>?_
     go_simp;refine hK.out _ _ (λh=>by cases h) (λ_=>?_);have Fy:ag (λk=>k=s+3) we (we.setCell ⟨s+3,0,none⟩ (zI je)):=ag.setCell (T:=λk=>k=s+3) (p:=⟨s+3,0,none⟩) (ag.refl _ we) (λ_=>rfl) _;have PL:=Da.aM 0 (zI je);have SG:=Fy.blk SE zo;have kf1:=Fy.blk ke1 zo;have hzf:p<=(we.setCell ⟨s+3,0,none⟩ (zI je)).heap.size:=Nat.le_trans hze Fy.size;have Vf:=Ve.far Fy zo (λ_ _ _ _ _ _ g _ _ _ hc e=>hc.elim λcr hcr=>af.vN hcr Da zd e);have hBf:=ae (vZ.more hzf _ _ (vZ.far Fy (λk h1 h2 e=>by omega) _ _ hBe.out));have hFf:ag (λk=>k=b\/k=s+3\/k=s+2) w2 (we.setCell ⟨s+1+1+1,0,none⟩ (zI je)):=hFe.trans (Fy.mono (λk _ e=>by omega));clear hK K fz5 z5 ke1 SE Da Ve hBe hFe;generalize we.setCell _ _=wf at *;refine bE zk ?_ _;refine aS ?_;go_wp2_with fail;obtain ⟨Df,hDf⟩:=ah ((G.take k).reverse.foldl jH ([],jV));have jZ:R=(Df.1,je,Df.2):=by rw [<-D9.out,hDf]
     refine zW (PlI b s wf.heap.size je Df w) ?_ (λd ds w' h=>aay b s wf.heap.size je Df w hs'.out hbs zo hj2 d ds w' h) _ wf ?_
     ·rintro w' ⟨Ds',D',L',U',v3,g1,g2,g5,_,g4,grow,_,gl,gV,gR,gF,gz⟩
      have hD0:D'=[]:=by
       have:Ds'=[]:=List.map_eq_nil_iff.1 g1.symm;subst this
       match D',g2 with
       | [],_=>rfl
      subst hD0;rw [jZ,<-gR];obtain ⟨A5,cap5,rfl,SB,_,_,Y5,_⟩:=lQ grow rfl;obtain ⟨x4,x5⟩:=bB g4 g5;refine ⟨_,?_,A5,cap5,rfl,SB,λg o e=>by have:=Y5 g o e;have:=hs'.out;omega,?_,gV,gF⟩
      ·simp [results,results63,go_sem,x4,x5]
      ·unfold maxLen
       show L'.length<=_;omega
     ·exact ⟨Ds,(G.take k).reverse,[],jV,_,rfl,hBf.out,PL,kf1,SG,World.ownsRow_nil _ _ _ _,λ_=>rfl,by simp only [List.length_nil,List.length_reverse,List.length_take];omega,Vf,hDf,(ajz.out.mono (λ_ _ h=>h.elim)).trans' hFf (λi hi e=>by have:=hs'.out;omega),Nat.le_refl _⟩
   ·obtain rfl:k=gn:=zo
    have hlt':decide ((k:Int)<(k:Int))=false:=by simp
    have jZ:Hid (R=(G,0,T)):=ae (by rw [<-hfl.out,List.drop_of_length_le (by have:=uz.out;omega)];rfl);have f4:=q2.frozen;have c4:=q2.cell;have Fx:ag (λk=>k=s+2) wr (wr.setCell ⟨s+2,0,none⟩ (.slice A1 k JY)):=ag.setCell (T:=λk=>k=s+2) (p:=⟨s+2,0,none⟩) (ag.refl _ _) (λ_=>rfl) _;have f5:=(Fx.blk q3 zo).frozen;have c5:=(Fx.blk q3 zo).cell;have SE:=q2.aM 0 (.slice A1 k JY);have Da:=Fx.blk q3 zo;have Ve:=hT.out.far Fx zo (λ_ _ _ _ _ _ g _ _ _ hc e=>hc.elim λcr hcr=>af.vN hcr q2 zd e);go_wp2_with fail;have Fy:ag (λk=>k=s+3) (wr.setCell ⟨s+2,0,none⟩ (.slice A1 k JY)) ((wr.setCell ⟨s+2,0,none⟩ (.slice A1 k JY)).setCell ⟨s+3,0,none⟩ (zI 0)):=ag.setCell (T:=λk=>k=s+3) (p:=⟨s+3,0,none⟩) (ag.refl _ _) (λ_=>rfl) _;have PL:=Da.aM 0 (zI 0);have SG:=Fy.blk SE zo;have Vf:=Ve.far Fy zo (λ_ _ _ _ _ _ g _ _ _ hc e=>hc.elim λcr hcr=>af.vN hcr Da zd e);have hFf:=((hF.mono (T':=λk=>k=b\/k=s+3\/k=s+2) (λk _ e=>by omega)).trans (Fx.mono (λk _ e=>by omega))).trans (Fy.mono (λk _ e=>by omega));have g15:=((hF.ru g12.out (λg o e h=>by have:=Gy.out g o e;omega)).more hF.size);have g16:=(Fx.ru g15 (λg o e h=>by have:=Gy.out g o e;omega)).more Fx.size;have g17:=(Fy.ru g16 (λg o e h=>by have:=Gy.out g o e;omega)).more Fy.size;obtain ⟨x4,x5⟩:=bB SG PL;clear f4 c4 f5 c5 Fx Fy SE Da Ve q2 q3 g15 g16;generalize (wr.setCell _ _).setCell _ _=wf at *;refine zW (λds w'=>w'=wf/\∃Ds':List Nat,ds=Ds'.map (plD s)) ?_ ?_ _ wf ⟨rfl,Ds,rfl⟩
    ·rintro w' ⟨rfl,_⟩
     rw [jZ.out];refine ⟨_,?_,A1,JY,by rw [uz.out],g17,λg o e=>by have:=Gy.out g o e;have:=hs'.out;omega,?_,Vf,(ajz.out.mono (λ_ _ h=>h.elim)).trans' hFf (λi hi e=>by have:=hs'.out;omega)⟩
     ·simp [results,results63,go_sem,x4,x5]
     ·have:=uz.out
      unfold maxLen;show G.length<=_;omega
    ·rintro d ds w' ⟨rfl,Ds',hds⟩
     match Ds',hds with
     | p::ps,hds =>
      rw [List.map_cons] at hds;obtain ⟨rfl,rfl⟩:=List.cons.inj hds;refine ⟨_,_,_,_,rfl,Gz s p w',(Ms (s+3) s p (s+2) w' PL).mono ?_⟩;rintro e u' w3 ⟨rfl,hv,rfl⟩;exact ⟨rfl,hv,rfl,ps,rfl⟩
theorem xV (r:Cr):(lT r.pg r.n r.f r.bk r.ev).1=pJ r:=by
 unfold lT pJ;split <;> rfl
theorem ajA {P:Prop} (h:P:=by
 clear hR a5 a7 a8;go_enter func6,ntmps6
 go_wp2_with (first
  | (go_at_call 25;refine (HC.out _).mono ?_;rintro e w1 ⟨rfl,hb1⟩;have k1:=k0.call hb1;have c1:=k1.cell;have B1:=hb0.zt hb1;have r1:=hr0.on hb1)
  | (go_at_call 26;refine (gM A _ cap K w1 hm.out zo r1).mono ?_;rintro e w2 ⟨rfl,hb2⟩;have k2:=k1.call hb2;have c2:=k2.cell;have B2:=B1.zt hb2;have r2:=r1.on hb2))
 obtain ⟨b0,o0,C8,_,x0,_⟩:=aef.out w2 r2;obtain ⟨b1,o1,hA1,_,y0,y1⟩:=aeg.out w2 r2;subst C8;simp only [Option.some.injEq,Addr.mk.injEq,and_true] at hA1;obtain ⟨rfl,rfl⟩:=hA1;simp only [Nat.zero_mul,Nat.add_zero] at x0;have e0:=λz:Ext w2=>z.cell x0
 have e1:=λz:Ext w2=>(z.blk k2).cell
 have e2:=λz:Ext w2=>z.cell y0
 have e3:=λz:Ext w2=>z.cell y1
 refine aD zk zk ?_
 repeat (go_big_quiet_step (fail))
 refine wpQuiet_nil ?_;rintro w3 ⟨⟨_,hw3⟩,rfl⟩;go_wp2_with fail;go_ret;rw [hR2.out];exact ⟨rfl,B2.zt hw3⟩):P:=h
theorem ajB {P:Prop} (h:P:=by
 clear hR a5;go_enter func6,ntmps6
 go_wp2_with (first
  | (go_at_call 25;refine (HC.out _).mono ?_;rintro e w1 ⟨rfl,hb1⟩;have k1:=k0.call hb1;have c1:=k1.cell;have B1:=hb0.zt hb1;have r1:=hr0.on hb1)
  | (go_at_call 26;refine (gM A _ cap K w1 hm.out zo r1).mono ?_;rintro e w2 ⟨rfl,hb2⟩;have k2:=k1.call hb2;have c2:=k2.cell;have B2:=B1.zt hb2;have r2:=r1.on hb2))
 refine aD zk zk ?_
 repeat (go_big_quiet_step (fail))
 refine wpQuiet_nil ?_;rintro w3 ⟨⟨_,hw3⟩,rfl⟩;go_wp2_with fail;go_ret;rw [hR2.out];exact ⟨rfl,B2.zt hw3⟩):P:=h
theorem SH {P:Prop} (h:P:=by
 go_enter func6,ntmps6
 go_wp2_with (first
  | (go_at_call 25;refine (HC.out _).mono ?_;rintro e w1 ⟨rfl,hb1⟩;have k1:=k0.call hb1;have c1:=k1.cell;have B1:=hb0.zt hb1;have r1:=hr0.on hb1)
  | (go_at_call 26;refine (gM A _ cap K w1 hm.out zo r1).mono ?_;rintro e w2 ⟨rfl,hb2⟩;have k2:=k1.call hb2;have c2:=k2.cell;have B2:=B1.zt hb2;have r2:=r1.on hb2))
 go_ret;rw [hR2.out];exact ⟨rfl,B1⟩):P:=h
theorem aeh {P:Prop} (h:P:=by
 go_enter func6,ntmps6
 go_wp2_with (first
  | (go_at_call 25;refine (HC.out _).mono ?_;rintro e w1 ⟨rfl,hb1⟩;have k1:=k0.call hb1;have c1:=k1.cell;have B1:=hb0.zt hb1;have r1:=hr0.on hb1)
  | (go_at_call 26;refine (gM A _ cap K w1 hm.out zo r1).mono ?_;rintro e w2 ⟨rfl,hb2⟩;have k2:=k1.call hb2;have c2:=k2.cell;have B2:=B1.zt hb2;have r2:=r1.on hb2))
 go_ret;rw [hR2.out];exact ⟨rfl,B2⟩):P:=h
theorem ajC {P:Prop} (h:P:=by
 cases cl with
 | false=>exact .inl rfl
 | true =>
  refine .inr ⟨rfl,?_,?_⟩
  ·by_cases h:live=0
   ·exact h
   ·exact absurd ⟨rfl,.inl h⟩ a6
  ·by_cases h:m=0
   ·exact h
   ·exact absurd ⟨rfl,.inr h⟩ a6):P:=h
theorem o6 (r:Cr) (A:Option Addr) (cap:Nat) (w:World) (hcap:r.kept.length<=cap) (hcm:cap<=maxLen) (hr:RU w w.heap.size A r.kept) :
  zK 6 #[.agg (aj r (.slice A r.kept.length cap))] w (zI (bq r)):=by
 have HC:=ae (λW=>I4 r.pg r.n r.f r.bk r.ev W);rw [xV] at HC;obtain ⟨R,hR⟩:=ah (bq r);rw [hR];unfold bq at hR;obtain ⟨pg,n,f,bk,ev,node,live,K,cl⟩:=r;simp only at hcap hcm hr HC hR ⊢;obtain ⟨U,hU⟩:=ah (pJ ⟨pg,n,f,bk,ev,node,live,K,cl⟩);rw [hU] at HC hR;generalize bQ pg n f bk ev=ck at *;generalize (lT pg n f bk ev).2=V2 at *;obtain ⟨m,hm0⟩:=ah (K.length);rw [hm0] at hcap hR ⊢;have hm:=ae hm0;have O4:m<=9223372036854775807:=by unfold maxLen at hcm;omega
 have hb0:=aQ w (.cells (aj ⟨pg,n,f,bk,ev,node,live,K,cl⟩ (.slice A m cap)) 28);have k0:=af.new w 28 (aj ⟨pg,n,f,bk,ev,node,live,K,cl⟩ (.slice A m cap));have hr0:=hr.on hb0;dsimp only [aj] at k0 hb0 hr0 ⊢;have c0:=k0.cell;clear hm0 hU hr;by_cases h0:ck=0
 case neg =>
  have h0':=gJ h0;have hR2:Hid (R=ck):=ae (by rw [<-hR,if_pos h0]);clear hR h0;exact SH
 subst h0;rw [if_neg zs] at hR;by_cases a1:live<0
 ·have d1:=bU a1
  have hR2:Hid (R=7):=ae (by rw [<-hR,if_pos (.inl a1)]);clear hR a1;exact SH
 have d1:=bV a1;by_cases a2:U<live
 ·have d2:=bU a2
  have hR2:Hid (R=7):=ae (by rw [<-hR,if_pos (.inr (.inl a2))]);clear hR a1 a2;exact SH
 have d2:=bV a2;by_cases a3:node<0
 ·have d3:=bU a3
  have hR2:Hid (R=7):=ae (by rw [<-hR,if_pos (.inr (.inr (.inl a3)))]);clear hR a1 a2 a3;exact SH
 have d3:=bV a3;by_cases a4:64<=node
 ·have d4:=bU a4
  have hR2:Hid (R=7):=ae (by rw [<-hR,if_pos (.inr (.inr (.inr a4)))]);clear hR a1 a2 a3 a4;exact SH
 have d4:=bV a4;rw [if_neg zo] at hR;clear a1 a2 a3 a4;have hK:Hid (eG K=eG K):=ae rfl;by_cases a5:eG K=0
 case neg =>
  have d5:=gJ a5;have hR2:Hid (R=6):=ae (by rw [<-hR,if_pos (.inl a5)]);clear hR a5;exact aeh
 have d5:=Ha a5;by_cases a6:cl=true/\(live≠0\/m≠0)
 ·obtain ⟨rfl,a7⟩:=a6
  have hR2:Hid (R=6):=ae (by rw [<-hR,if_pos (.inr ⟨rfl,a7⟩)]);by_cases a8:live=0
  ·have a9:¬m=0:=by rcases a7 with h|h;exact absurd a8 h;exact h
   have d8:=Ha a8;have d9:((m:Int) != 0)=true:=by simp;omega
   clear hR a5 a7 a8 a9;exact aeh
  ·have d8:=gJ a8
   clear hR a5 a7 a8;exact aeh
 have hcl:cl=false\/(cl=true/\live=0/\m=0):=by
  exact ajC
 rw [if_neg (by rintro (h|h);exact h a5;exact a6 h)] at hR;clear a6;have oq:Go.Pol.Can K:=bI.1 a5;by_cases h0:m=0
 ·subst h0
  have hR2:Hid (R=0):=ae (by rw [<-hR,if_neg zs]);rcases hcl with rfl|⟨rfl,rfl,_⟩
  ·exact ajB
  ·exact ajB
 ·obtain rfl:cl=false:=by rcases hcl with h|h;exact h;exact absurd h.2.2 h0
  have hmp:0<m:=zo;have dm:decide ((0:Int)<(m:Int))=true:=by rw [decide_eq_true_eq];omega
  have dn:((m:Int) != 0)=true:=by simp;omega
  have hwm:IntKind.i64.wrap ((m:Int) - 1)=((m - 1:Nat):Int):=by rw [IntKind.wrap_i64];omega
  have hl0:K.getD 0 (0,0)∈K:=by rw [List.getD_eq_getElem?_getD,List.getElem?_eq_getElem (by have:=hm.out;omega)];exact List.getElem_mem _
  have hll:jd K∈K:=by unfold jd;rw [List.getD_eq_getElem?_getD,List.getElem?_eq_getElem (by have:=hm.out;omega)];exact List.getElem_mem _
  have hv0:=av.1 (oq.1 _ hl0);have hvl:=av.1 (oq.1 _ hll);have aef:=ae (λW (h:RU W W.heap.size A K)=>h.at_' (k:=0) (by have:=hm.out;omega));have aeg:=ae (λW (h:RU W W.heap.size A K)=>h.at_' (k:=m - 1) (by have:=hm.out;omega));have hlc:K.getD (m - 1) (0,0)=jd K:=by unfold jd;rw [hm.out]
  rw [hlc] at aeg;generalize K.getD 0 (0,0)=x at *;generalize jd K=y at *;obtain ⟨xa,xb⟩:=x;obtain ⟨ya,yb⟩:=y;simp only at hv0 hvl aef aeg hR;have hwy:IntKind.i64.wrap (ya+yb)=ya+yb:=by rw [IntKind.wrap_i64];omega
  clear hl0 hll hlc hcl oq;by_cases a7:xa<live
  ·have d7:=bU a7
   have hR2:Hid (R=6):=ae (by rw [<-hR,if_pos ⟨zo,.inl a7⟩]);clear hR a5 a7;go_enter func6,ntmps6
   go_wp2_with (first
    | (go_at_call 25;refine (HC.out _).mono ?_;rintro e w1 ⟨rfl,hb1⟩;have k1:=k0.call hb1;have c1:=k1.cell;have B1:=hb0.zt hb1;have r1:=hr0.on hb1)
    | (go_at_call 26;refine (gM A _ cap K w1 hm.out zo r1).mono ?_;rintro e w2 ⟨rfl,hb2⟩;have k2:=k1.call hb2;have c2:=k2.cell;have B2:=B1.zt hb2;have r2:=r1.on hb2))
   obtain ⟨b0,o0,C8,_,x0,_⟩:=aef.out w2 r2;subst C8;simp only [Nat.zero_mul,Nat.add_zero] at x0;have e0:=λz:Ext w2=>z.cell x0
   have e1:=λz:Ext w2=>(z.blk k2).cell
   refine aD zk zk ?_
   repeat (go_big_quiet_step (fail))
   refine wpQuiet_nil ?_;rintro w3 ⟨⟨_,hw3⟩,rfl⟩;go_wp2_with fail;go_ret;rw [hR2.out];exact ⟨rfl,B2.zt hw3⟩
  ·have d7:=bV a7
   by_cases a8:U<ya+yb
   ·have d8:=bU a8
    have hR2:Hid (R=6):=ae (by rw [<-hR,if_pos ⟨zo,.inr a8⟩]);exact ajA
   ·have d8:=bV a8
    have hR2:Hid (R=0):=ae (by rw [<-hR,if_neg zo]);exact ajA
theorem Eb (b:Nat) (V:Vm) (w:World) (hV:aA w b V) (hK:aO V) :
  Calls prog 22 #[zP b] w λe w'=>∃n1 n2 n3 n4 n5:Int,e= .returned (.tuple #[.agg #[zI n1,zI n2,zI n3,zI n4,zI n5],zI 0])/\Below w.heap.size w w':=by
 refine (Gn b V w hV hK).mono ?_;rintro e w' ⟨⟨cs,h,rfl⟩,hb⟩;obtain ⟨a,b,c,d,e,rfl⟩:=h.five;exact ⟨a,b,c,d,e,rfl,hb⟩
theorem xW (a b:Int) (w:World) (ha : -5000<=a/\a<=5000) (hb : -5000<=b/\b<=5000) :
  Calls prog 67 #[zI a,zI b] w λe w'=>∃(A:Option Addr) (cap:Nat),e= .returned (.slice A (bJ a b).length cap)/\RU w' w'.heap.size A (bJ a b)/\(bJ a b).length<=cap/\cap<=maxLen/\(∀g o,A=some ⟨g,o,none⟩->w.heap.size<=g)/\Below w.heap.size w w':=by
 unfold bJ;by_cases h:b<=a
 ·have h':=bU h
  rw [if_pos h];go_enter func67,ntmps67;go_wp2_with fail;go_ret;exact ⟨none,0,rfl,RU.nil,zs,by unfold maxLen;omega,λ_ _ h=>(by cases h),Below.refl _ _⟩
 ·have h':=bV h
  rw [if_neg h];have hwr:IntKind.i64.wrap (b - a)=b - a:=by rw [IntKind.wrap_i64];omega
  go_enter func67,ntmps67;go_wp2_with fail;go_ret;have k:=af.new w 85 #[zI a,zI (b - a)];exact ⟨_,_,rfl,Iq k,Nat.le_refl _,by unfold maxLen;omega,λg o e=>(by cases e;exact Nat.le_refl _),(Below.refl _ _).alloc (Nat.le_refl _) _⟩
theorem Db (bs bb:Nat) (V:Vm) (L:List Nd) (r:Cr) (A:Option Addr) (cap:Nat) (w:World) (hV:aA w bs V) (hK:aO V) (hB:bz w bb L) (hO:bf L) (hcap:r.kept.length<=cap) (hcm:cap<=maxLen) (hr:RU w w.heap.size A r.kept) :
  zK 65 #[zP bs,zP bb,.agg (aj r (.slice A r.kept.length cap))] w (zI (bq r)):=by
 have hb0:=aQ w (.cells (aj r (.slice A r.kept.length cap)) 28);have k0:=af.new w 28 (aj r (.slice A r.kept.length cap));have V0:=hV.call hb0;have HC:=ae (λW (h:aA W bs V)=>Eb bs V W h hK);have HO:=ae (λW (h:bz W bb L)=>VI bb L W h hO);have HK:=ae (λW h=>o6 r A cap W hcap hcm h);have hr0:=ae (hr.on hb0);have hB0:=ae (hB.call hb0);generalize r.kept.length=m at *;generalize bq r=ck at *;clear hV hB hr;dsimp only [aj] at k0 hb0 V0 hB0 HK ⊢;go_enter func65,ntmps65;go_wp2_with fail;refine (HC.out _ V0).mono ?_;rintro e w1 ⟨n1,n2,n3,n4,n5,rfl,hb1⟩;have SI:=hb1.trans (aQ w1 (.cells #[zI n1,zI n2,zI n3,zI n4,zI n5] 77) |>.mono hb1.size);have k1:=k0.call SI;have B1:=hb0.zt SI;have hr1:=hr0.out.on SI;have hB1:=hB0.out.call SI;obtain ⟨w1a,ap6⟩:∃x,w1.alloc (.cells #[zI n1,zI n2,zI n3,zI n4,zI n5] 77)=x:=⟨_,rfl⟩;rw [ap6] at k1 B1 hr1 hB1;clear hb1 SI k0 hb0 hr0 hB0 V0 HC;go_wp2_with fail;refine (HO.out _ hB1).mono ?_;rintro e w2 ⟨⟨v,rfl⟩,hb2⟩;have k2:=k1.call hb2;have c2:=k2.cell;have B2:=B1.zt hb2;have hr2:=hr1.on hb2;clear HO hB1 k1 B1 hr1 hb2;go_wp2_with fail;refine (HK.out _ hr2).zr λw3 hb3=>?_
 go_wp2_with fail;go_ret;exact ⟨rfl,B2.zt hb3⟩
theorem Ec (p n k:Int) (w:World) :
  Calls prog 78 #[.agg #[zI p,zI n,zI k]] w λe w'=>∃g,e= .returned (.slice (some ⟨g,0,none⟩) 1 1)/\RU w' w'.heap.size (some ⟨g,0,none⟩) [(k,n)]/\w.heap.size<=g/\Below w.heap.size w w':=by
 have hb0:=aQ w (.cells #[zI p,zI n,zI k] 159);have k0:=af.new w 159 #[zI p,zI n,zI k];have c0:=k0.cell;go_enter func78,ntmps78;go_wp2_with fail;go_ret;have kx:=af.new (w.alloc (.cells #[zI p,zI n,zI k] 159)) 85 #[zI k,zI n];rw [World.size_alloc] at kx;exact ⟨w.heap.size+1,rfl,Iq kx,Nat.le_succ _,hb0.alloc hb0.size _⟩
theorem zZ (A1 A2:Option Addr) (n1 c1 n2 c2:Nat) (us vs:List Sp) (w:World) (hn1:us.length=n1) (hm1:n1<=c1) (hc1:c1<=maxLen) (hr1:RU w w.heap.size A1 us) (hn2:vs.length=n2) (hm2:n2<=c2) (hc2:c2<=maxLen) (hr2:RU w w.heap.size A2 vs)
  (hU:Go.Pol.Can us) (hV:Go.Pol.Can vs) :
  Calls prog 77 #[.slice A1 n1 c1,.slice A2 n2 c2] w (o7 w (setOf (us++vs)) 0):=by
 have hb0:=aQ w (.cells #[.slice A1 n1 c1,.slice A2 n2 c2] 26);have k0:=af.new w 26 #[.slice A1 n1 c1,.slice A2 n2 c2];have r1:=hr1.on (aQ w (.cells #[.slice A1 n1 c1,.slice A2 n2 c2] 26));have r2:=hr2.on (aQ w (.cells #[.slice A1 n1 c1,.slice A2 n2 c2] 26));have HC:=ae (zf A1 A2 n1 c1 n2 c2 us vs w.heap.size _ hn1 (Nat.le_trans hm1 hc1) r1 hn2 (Nat.le_trans hm2 hc2) r2 k0);rw [bI.2 hU,bI.2 hV,if_pos rfl] at HC;have hl1:=hU.len;have hl2:=hV.len;have hv:∀y∈us++vs,bF y=true:=λy hy=>by
  rcases List.mem_append.1 hy with h|h
  ·exact hU.1 y h
  ·exact hV.1 y h
 clear hr1 hr2;go_enter func77,ntmps77;go_wp2_with fail;refine HC.out.zr λw1 hb1=>?_
 have B1:=hb0.zt hb1;have r3:=r1.on hb1;have r4:=r2.on hb1;clear HC k0 r1 r2;have hbX:=aQ w1 (.cells #[.slice A1 n1 c1,.slice A2 n2 c2] 26);have kX:=af.new w1 26 #[.slice A1 n1 c1,.slice A2 n2 c2];have HK:=ae (L6 A1 A2 n1 c1 n2 c2 us vs w1.heap.size _ hn1 zo (r3.on hbX) hn2 zo (r4.on hbX) kX);have B2:=B1.zt hbX;go_wp2_with fail;refine HK.out.mono ?_;rintro e w2 ⟨v,rfl,hrow,hb2⟩;have B3:=B2.zt hb2;have HO:=ae (Ro _ v (us++vs) w2 hv (by rw [List.length_append];omega) hb2.size hrow);go_wp2_with fail;refine HO.out.mono ?_;rintro e w3 ⟨eU,v',hp,hs,rfl,hrow3,hb3⟩;have B4:=B3.trans (hb3.mono B2.size);obtain ⟨A,cap,rfl,dR,h1,h2⟩:=KeptAt.own hrow3 rfl;have hS:=I7 hv hp hs;go_wp2_with fail;go_ret2;rw [hS] at dR h1;exact ⟨A,cap,rfl,dR,h1,h2,B4⟩
theorem vI (A1 A2:Option Addr) (n1 c1 n2 c2:Nat) (us vs:List Sp) (w:World) (hn1:us.length=n1) (hm1:n1<=c1) (hc1:c1<=maxLen) (hr1:RU w w.heap.size A1 us) (hn2:vs.length=n2) (hm2:n2<=c2) (hc2:c2<=maxLen) (hr2:RU w w.heap.size A2 vs) (hU:Go.Pol.Can us) (hV:Go.Pol.Can vs) :
  Calls prog 66 #[.slice A1 n1 c1,.slice A2 n2 c2] w (o7 w (az us (aZ vs (0,1024))) 0):=by
 have hb0:=aQ w (.cells #[.slice A1 n1 c1,.slice A2 n2 c2] 26);have k0:=af.new w 26 #[.slice A1 n1 c1,.slice A2 n2 c2];have r1:=hr1.on (aQ w (.cells #[.slice A1 n1 c1,.slice A2 n2 c2] 26));have r2:=hr2.on (aQ w (.cells #[.slice A1 n1 c1,.slice A2 n2 c2] 26));have HC:=ae (zf A1 A2 n1 c1 n2 c2 us vs w.heap.size _ hn1 (Nat.le_trans hm1 hc1) r1 hn2 (Nat.le_trans hm2 hc2) r2 k0);clear hr1 hr2;rw [bI.2 hU,bI.2 hV,if_pos rfl] at HC;have hg:=hV.FV (i:=(0,1024)) zd;have hlen:=DI us (aZ vs (0,1024));have hl1:=hU.len;have hl2:=hg.1.len;have HG:=ae (λW h=>Nk A2 n2 c2 vs 0 1024 W hn2 hm2 hc2 h hV zd);go_enter func66,ntmps66;go_wp2_with fail;refine HC.out.zr λw1 hb1=>?_
 have B1:=hb0.zt hb1;have r3:=r1.on hb1;have r4:=r2.on hb1;clear HC k0 r1 r2 hb1 hb0;generalize aZ vs (0,1024)=G at *;obtain ⟨gl,hgl⟩:=ah (G.length);rw [hgl] at HG;go_wp2_with fail;refine (HG.out _ r4).mono ?_;rintro e w2 ⟨A3,c3,rfl,r5,m3,x3,_,hb2⟩;have B2:=B1.zt hb2;have r6:=r3.on hb2;clear HG r3 r4;have kX:af ((w2.alloc (.cells #[.slice A1 n1 c1] 26)).alloc (.cells #[.slice A3 gl c3] 26)) w2.heap.size 26 #[.slice A1 n1 c1]:=(af.new _ _ _).alloc _;have kY:af ((w2.alloc (.cells #[.slice A1 n1 c1] 26)).alloc (.cells #[.slice A3 gl c3] 26)) (w2.heap.size+1) 26 #[.slice A3 gl c3]:=by
  have:=af.new (w2.alloc (.cells #[.slice A1 n1 c1] 26)) 26 #[.slice A3 gl c3];rw [World.size_alloc] at this;exact this
 have hbX:Below w2.heap.size w2 ((w2.alloc (.cells #[.slice A1 n1 c1] 26)).alloc (.cells #[.slice A3 gl c3] 26)):=(aQ w2 _).alloc zs _;have LA:Left _ w2.heap.size (λk=>k<w2.heap.size+2) w2.heap.size (w2.heap.size+1) A1 n1 c1 us:=⟨hn1,hm1,by unfold maxLen at hc1;omega,r6.below hbX,λh b o e=>by have:=EN r6 h e;exact ⟨zo,zo,zo⟩,hU.1⟩;have LB:Left _ w2.heap.size (λk=>k<w2.heap.size+2) w2.heap.size (w2.heap.size+1) A3 gl c3 G:=⟨hgl,m3,by unfold maxLen at x3;omega,r5.below hbX,λh b o e=>by have:=EN r5 h e;exact ⟨zo,zo,zo⟩,hg.1.1⟩;have HS:=ae (xD A1 A3 n1 c1 gl c3 us G w2.heap.size (w2.heap.size+1) w2.heap.size (λk=>k<w2.heap.size+2) _ zs zs zo kX kY LA LB);clear LA LB kX kY r5 r6 hg;generalize az us G=L at *;have hlL:L.length<=1000000:=zo
 go_wp2_with (first
  | (go_at_call 141;refine (ze A1 A3 n1 c1 gl c3 w2).mono ?_;rintro e w3 ⟨rfl,rfl⟩)
  | (go_at_call 129;refine (sw _ _ _ _ _ _ hlL HS.out tO (λk h=>by rcases h with rfl|rfl <;> (rw [World.size_alloc,World.size_alloc];omega)) (λk h=>by simp;omega)).mono ?_;rintro e w4 ⟨v,rfl,hown,_,hf⟩;obtain ⟨A,cap,rfl,dR,h1,h2⟩:=KeptAt.own hown rfl))
 have B3:=B2.zt hbX;have B4:=hf.below (n:=w.heap.size) (by have:=B3.size;exact this) (λk hk h=>by have:=B2.size;rcases h with rfl|rfl <;> omega);go_ret2;exact ⟨A,cap,rfl,dR,h1,h2,B3.trans B4⟩
theorem ajD {P:Prop} (h:P:=by
 go_enter func19,ntmps19;go_wp2_with fail;refine (HK.out _ hr0.out).zr λw1 hb1=>?_
 obtain ⟨k1,aT⟩:=bY hb1 k0 kR;have B1:=hb0.zt hb1;have hr1:=hr0.out.on hb1;obtain ⟨c1,jw⟩:=bB k1 aT;have jy:=aT.frozen;clear HK k0 kR hb0 hr0 hb1;go_wp2_with fail;change bodyPost _ _ _ _ _ (aP w1 (w.heap.size+1) ⟨pg,n,f,bk,ev,node,live,K,false⟩ (.slice A m cap));have aX:=aK aT ⟨pg,n,f,bk,ev,node,live,K,false⟩ (.slice A m cap);have F9:=aL w1 (w.heap.size+1) ⟨pg,n,f,bk,ev,node,live,K,false⟩ (.slice A m cap);have B9:=dG B1 (g:=(w.heap.size+1)) zo ⟨pg,n,f,bk,ev,node,live,K,false⟩ (.slice A m cap);generalize aP w1 (w.heap.size+1) ⟨pg,n,f,bk,ev,node,live,K,false⟩ (.slice A m cap)=w9 at *;dsimp only [aj] at aX;have di:=aX.cell;refine bodyPost_ret (v:=.tuple #[.agg (aj ⟨pg,n,f,bk,ev,node,live,K,false⟩ (.slice A m cap)),zI 7]) (by simp [results,results19,go_sem,di,aj]) rfl ?_;exact ⟨_,rfl,⟨A,cap,by rw [hm.out],by rw [hm.out];exact hcap,hcm,kZ.out.call B9⟩,B9⟩):P:=h
theorem PM {P:Prop} (h:P:=by
 exact ⟨_,rfl,⟨A,cap,by rw [hm.out],by rw [hm.out];exact hcap,hcm,kZ.out.call B9⟩,B9⟩):P:=h
theorem GA (r:Cr) (tt:Int) (A:Option Addr) (cap:Nat) (w:World) (hcap:r.kept.length<=cap) (hcm:cap<=maxLen) (hk:KeptAt w A r.kept) :
  Calls prog 19 #[.agg (aj r (.slice A r.kept.length cap)),zI tt] w λe w'=>∃v,e= .returned (.tuple #[v,zI (iN r tt).2])/\Dc (iN r tt).1 w' v/\Below w.heap.size w w':=by
 have hr:=hk.ru;have HK:=ae (λW h=>o6 r A cap W hcap hcm h);have hR:∃R,iN r tt=R:=⟨_,rfl⟩;obtain ⟨R,hR⟩:=hR;rw [hR];unfold iN at hR;have hz:=@fw r;have hZ:bq r=0->0<=r.live/\r.live<=1024/\eG r.kept=0:=λh=>⟨(hz.1 h).C9,Int.le_trans (hz.1 h).Ff (AZ (hz.1 h).plan),bI.2 (hz.1 h).can⟩
 clear hz;generalize bq r=ck at *;obtain ⟨pg,n,f,bk,ev,node,live,K,cl⟩:=r;simp only at hcap hcm hr hk hR hZ HK ⊢;obtain ⟨m,hm0⟩:=ah (K.length);rw [hm0] at hcap HK ⊢;have hm:=ae hm0;have hb0:=below_alloc2 (aQ w (.cells (aj ⟨pg,n,f,bk,ev,node,live,K,cl⟩ (.slice A m cap)) 28)) (.cells (aj bD zN) 28);have k0:=(af.new w 28 (aj ⟨pg,n,f,bk,ev,node,live,K,cl⟩ (.slice A m cap))).dV (.cells (aj bD zN) 28);have kR:=af.oG w (.cells (aj ⟨pg,n,f,bk,ev,node,live,K,cl⟩ (.slice A m cap)) 28) 28 (aj bD zN);have hr0:=ae (hr.on hb0);dsimp only [aj,bD] at k0 hb0 kR hr0 HK ⊢;have kZ:=ae hk;clear hm0 hr hk;by_cases h0:ck=0
 case neg =>
  have h0':=gJ h0;rw [if_pos h0] at hR;subst hR;clear h0;go_enter func19,ntmps19;go_wp2_with fail;refine (HK.out _ hr0.out).zr λw1 hb1=>?_
  obtain ⟨k1,aT⟩:=bY hb1 k0 kR;have B1:=hb0.zt hb1;have hr1:=hr0.out.on hb1;obtain ⟨c1,jw⟩:=bB k1 aT;have jy:=aT.frozen;clear HK k0 kR hb0 hr0 hb1;go_wp2_with fail;change bodyPost _ _ _ _ _ (aP w1 (w.heap.size+1) ⟨pg,n,f,bk,ev,node,live,K,cl⟩ (.slice A m cap));have aX:=aK aT ⟨pg,n,f,bk,ev,node,live,K,cl⟩ (.slice A m cap);have F9:=aL w1 (w.heap.size+1) ⟨pg,n,f,bk,ev,node,live,K,cl⟩ (.slice A m cap);have B9:=dG B1 (g:=(w.heap.size+1)) zo ⟨pg,n,f,bk,ev,node,live,K,cl⟩ (.slice A m cap);generalize aP w1 (w.heap.size+1) ⟨pg,n,f,bk,ev,node,live,K,cl⟩ (.slice A m cap)=w9 at *;dsimp only [aj] at aX;have di:=aX.cell;refine bodyPost_ret (v:=.tuple #[.agg (aj ⟨pg,n,f,bk,ev,node,live,K,cl⟩ (.slice A m cap)),zI ck]) (by simp [results,results19,go_sem,di,aj]) rfl ?_;exact PM
 subst h0;rw [if_neg zs] at hR;by_cases h1:cl=true
 case pos =>
  subst h1;rw [if_pos rfl] at hR;subst hR;go_enter func19,ntmps19;go_wp2_with fail;refine (HK.out _ hr0.out).zr λw1 hb1=>?_
  obtain ⟨k1,aT⟩:=bY hb1 k0 kR;have B1:=hb0.zt hb1;have hr1:=hr0.out.on hb1;obtain ⟨c1,jw⟩:=bB k1 aT;have jy:=aT.frozen;clear HK k0 kR hb0 hr0 hb1;go_wp2_with fail;change bodyPost _ _ _ _ _ (aP w1 (w.heap.size+1) ⟨pg,n,f,bk,ev,node,live,K,true⟩ (.slice A m cap));have aX:=aK aT ⟨pg,n,f,bk,ev,node,live,K,true⟩ (.slice A m cap);have F9:=aL w1 (w.heap.size+1) ⟨pg,n,f,bk,ev,node,live,K,true⟩ (.slice A m cap);have B9:=dG B1 (g:=(w.heap.size+1)) zo ⟨pg,n,f,bk,ev,node,live,K,true⟩ (.slice A m cap);generalize aP w1 (w.heap.size+1) ⟨pg,n,f,bk,ev,node,live,K,true⟩ (.slice A m cap)=w9 at *;dsimp only [aj] at aX;have di:=aX.cell;refine bodyPost_ret (v:=.tuple #[.agg (aj ⟨pg,n,f,bk,ev,node,live,K,true⟩ (.slice A m cap)),zI 9]) (by simp [results,results19,go_sem,di,aj]) rfl ?_;exact PM
 have h1':=QE h1;subst h1';rw [if_neg zs] at hR;by_cases h2:tt<0
 case pos =>
  have h2':=bU h2;rw [if_pos (.inl h2)] at hR;subst hR;clear h2;exact ajD
 have h2':=bV h2;by_cases h3:live<tt
 case pos =>
  have h3':=bU h3;rw [if_pos (.inr h3)] at hR;subst hR;clear h2 h3;exact ajD
 have h3':=bV h3;rw [if_neg zo] at hR;obtain ⟨z1,z2,z3⟩:=hZ rfl;have jC:=bI.1 z3;have Br:Go.Pol.Can (bJ tt live):=mF zo zo;have HB:=ae (λW=>xW tt live W zo zo);have HU:=ae (λW (A2:Option Addr) (c2:Nat) h1 h2 h3 h4=>zZ A A2 m cap (bJ tt live).length c2 K (bJ tt live) W hm.out hcap hcm h1 rfl h2 h3 h4 jC Br);generalize hS:setOf (K++bJ tt live)=S2 at *;clear h1 h2 h3 hZ z3 hS jC Br;generalize bJ tt live=L2 at *;subst hR;go_enter func19,ntmps19;go_wp2_with fail;refine (HK.out _ hr0.out).zr λw1 hb1=>?_
 obtain ⟨k1,aT⟩:=bY hb1 k0 kR;have B1:=hb0.zt hb1;have hr1:=hr0.out.on hb1;obtain ⟨c1,jw⟩:=bB k1 aT;have jy:=aT.frozen;clear HK k0 kR hb0 hr0 hb1;go_upto_region 8 with fail
 have hS:Fh w.heap.size live (.slice A m cap) w1:=⟨k1.cell 6,k1.cell 7⟩;have SK:=k1.call ((Below.refl _ w1).drew);have ajE:=aT.call ((Below.refl _ w1).drew);have B1d:=B1.trans ((Below.refl w1.heap.size w1).drew.mono B1.size);have SN:=ae (hr1.on (Below.refl _ w1).drew);have hS:=hS.call ((Below.refl _ w1).drew);refine bT ?_;refine bM (Fh w.heap.size live (.slice A m cap)) [8,9,10,11] zk ?_;generalize w1.drew=wd at *;clear k1 aT B1 hr1 c1 jw jy;refine aW 0 hS ?_;refine aW 1 hS ?_;refine aW 2 hS ?_;refine aW 3 hS ?_;refine aW 4 hS ?_;refine gD 5 λK hK=>?_
 go_simp;refine (HB.out wd).mono ?_;rintro (e w2 ⟨A2,c2,rfl,tY,hl2,hc2,_,hb2⟩);refine hK.out _ _ (λ_=>hS.call hb2) (λhS=>?_);clear hK K;replace hS:=hS rfl;try simp only [Act.put,iE,iF,iG]
 obtain ⟨k2,cK⟩:=bY hb2 SK ajE;have B2:=B1d.zt hb2;have hr2:=SN.out.on hb2;refine gD 6 λK hK=>?_
 go_simp;refine (HU.out w2 A2 c2 hr2 hl2 hc2 tY).mono ?_;rintro (e w3 ⟨A3,c3,rfl,vz,hl3,hc3,hb3⟩);refine hK.out _ _ (λ_=>hS.call hb3) (λhS=>?_);clear hK K;replace hS:=hS rfl;try simp only [Act.put,iE,iF,iG]
 obtain ⟨k3,fC⟩:=bY hb3 k2 cK;have B3:=B2.zt hb3;clear HB HU tY hl2 SK ajE B1d SN k2 cK B2 hr2;refine aW 7 hS ?_;refine ig 8 ?_;refine ig 9 ?_;refine ig 10 ?_;have c3x:=k3.cell;have f3x:=k3.frozen;refine gD 11 λK hK=>?_
 go_simp;refine hK.out _ _ (λh=>absurd h zd) (λ_=>?_);clear hK K;refine bE zk ?_ _;refine aS ?_;have k3H:=ae k3;have ap7:=ae fC;have k4:=k3.aM 7 (.slice A3 S2.length c3);have dX:=fC.far (p:=⟨w.heap.size,7,none⟩) (by show w.heap.size+1≠w.heap.size;omega) (.slice A3 S2.length c3);have B4:=B3.setCell (p:=⟨w.heap.size,7,none⟩) (Nat.le_refl _) (.slice A3 S2.length c3);have F4:=(ag.refl (λk=>k=w.heap.size\/k=w.heap.size+1) w3).setCell (p:=⟨w.heap.size,7,none⟩) (λ_=>.inl rfl) (.slice A3 S2.length c3);generalize w3.setCell ⟨w.heap.size,7,none⟩ (.slice A3 S2.length c3)=w4 at *;simp only [List.setIfInBounds_toArray,List.set_cons_zero,List.set_cons_succ] at k4;obtain ⟨c4,ME⟩:=bB k4 dX;obtain ⟨MF,f4⟩:=tu dX k4;clear k3 fC B3 hS c3x f3x;go_wp2_with fail;change bodyPost _ _ _ _ _ (aP (w4.setCell ⟨w.heap.size,6,none⟩ (zI tt)) (w.heap.size+1) ⟨pg,n,f,bk,ev,node,tt,S2,false⟩ (.slice A3 S2.length c3));have aX:=aK (dX.far (p:=⟨w.heap.size,6,none⟩) (by show w.heap.size+1≠w.heap.size;omega) (zI tt)) ⟨pg,n,f,bk,ev,node,tt,S2,false⟩ (.slice A3 S2.length c3);have F9:=aL (w4.setCell ⟨w.heap.size,6,none⟩ (zI tt)) (w.heap.size+1) ⟨pg,n,f,bk,ev,node,tt,S2,false⟩ (.slice A3 S2.length c3);have B9:=dG (B4.setCell (p:=⟨w.heap.size,6,none⟩) (Nat.le_refl _) (zI tt)) (g:=(w.heap.size+1)) zo ⟨pg,n,f,bk,ev,node,tt,S2,false⟩ (.slice A3 S2.length c3);generalize aP (w4.setCell ⟨w.heap.size,6,none⟩ (zI tt)) (w.heap.size+1) ⟨pg,n,f,bk,ev,node,tt,S2,false⟩ (.slice A3 S2.length c3)=w9 at *;dsimp only [aj] at aX;have di:=aX.cell;refine bodyPost_ret (v:=.tuple #[.agg (aj ⟨pg,n,f,bk,ev,node,tt,S2,false⟩ (.slice A3 S2.length c3)),zI 0]) (by simp [results,results19,go_sem,di,aj]) rfl ?_;have F6:=((F4.setCell (p:=⟨w.heap.size,6,none⟩) (λ_=>.inl rfl) (zI tt)).trans (F9.mono (λk _ hk=>.inr hk)));exact ⟨_,rfl,⟨A3,c3,rfl,hl3,hc3,vz.far F6 (λg cs hg=>by rintro (rfl|rfl);exact k3H.out.ne hg zd;exact ap7.out.ne hg zd)⟩,B9⟩
def bZ (V:Vm) (L:List Nd) (r:Cr) (k:Int):Cr×Int×Vm×List Nd :=
 if bq r≠0 then (r,bq r,V,L)
 else if ¬(jR r.kept (k,1)=0/\(aZ r.kept (k,1)).isEmpty=true) then (r,4,V,L)
 else
  let J:=bK V (lS (ay r.pg r.n r.f r.bk r.ev) k).1 1 3 2 1
  if J.1≠0 then (r,J.1,J.2,L) else ({ r with kept:=az r.kept (aZ [(k,1)] (0,1024)) },0,J.2,(jb L r.node.toNat 1).2)
theorem zT7 {P:Prop} (h:P:=by
 go_enter func20,ntmps20;go_wp2_with fail;refine (HK.out _ (hV.call hb0) (hB.call hb0) hr0.out).zr λw1 hb1=>?_
 obtain ⟨k1,aT⟩:=bY hb1 k0 kR;have B1:=hb0.zt hb1;have hr1:=hr0.out.on hb1;obtain ⟨c1,jw⟩:=bB k1 aT;have jy:=aT.frozen;clear HK k0 kR hb0 hr0 hb1;have hbX:=aQ w1 (.cells #[zI k,zI 1] 85);have kX:=af.new w1 85 #[zI k,zI 1];obtain ⟨gx,hgx⟩:=ah (w1.heap.size);rw [hgx] at kX;obtain ⟨J6,qW⟩:=bY hbX k1 aT;have BX:=B1.zt hbX;have J7:=hr1.on hbX;obtain ⟨cX,cX1⟩:=bB kX J6;go_upto_region 5 with fail
 generalize w1.alloc _=wx at *;go_wp2_with fail;refine (HH.out _ J7).zr λw2 hb2=>?_
 obtain ⟨k2,cK,gY⟩:=mY hb2 J6 qW kX;have B2:=BX.zt hb2;have hr2:=J7.on hb2;obtain ⟨c2,sM,U3⟩:=mM k2 cK gY;have sN:=cK.frozen;clear k1 aT B1 hr1 c1 jw jy hb2 hbX kX J6 qW BX J7 cX cX1 HH;go_wp2_with fail;change bodyPost _ _ _ _ _ (aP w2 (w.heap.size+1) ⟨pg,n,f,bk,ev,node,live,K,cl⟩ (.slice A m cap));have aX:=aK cK ⟨pg,n,f,bk,ev,node,live,K,cl⟩ (.slice A m cap);have F9:=aL w2 (w.heap.size+1) ⟨pg,n,f,bk,ev,node,live,K,cl⟩ (.slice A m cap);have B9:=dG B2 (g:=(w.heap.size+1)) zo ⟨pg,n,f,bk,ev,node,live,K,cl⟩ (.slice A m cap);generalize aP w2 (w.heap.size+1) ⟨pg,n,f,bk,ev,node,live,K,cl⟩ (.slice A m cap)=w9 at *;dsimp only [aj] at aX;have di:=aX.cell;refine bodyPost_ret (v:=.tuple #[.agg (aj ⟨pg,n,f,bk,ev,node,live,K,cl⟩ (.slice A m cap)),zI 4]) (by simp [results,results20,go_sem,di,aj]) rfl ?_;exact ⟨_,rfl,⟨A,cap,by rw [hm.out],by rw [hm.out];exact hcap,hcm,kZ.out.call B9⟩,.below hV hB B9⟩):P:=h
theorem Fj {P:Prop} (h:P:=by
 exact ⟨_,rfl,⟨A,cap,by rw [hm.out],by rw [hm.out];exact hcap,hcm,kZ.out.call B9⟩,.below hV hB B9⟩):P:=h
theorem Fp {P:Prop} (h:P:=by
 exact ⟨_,rfl,⟨A,cap,by rw [hm.out],by rw [hm.out];exact hcap,hcm,T9.kept hV kZ.out⟩,T9⟩):P:=h
theorem J8 (bs bb:Nat) (V:Vm) (L:List Nd) (r:Cr) (k:Int) (A:Option Addr) (cap:Nat) (w:World) (hV:aA w bs V) (uS:aO V) (hB:bz w bb L) (hO:bf L) (hnl:bq r=0->r.node.toNat<L.length) (hcap:r.kept.length<=cap) (hcm:cap<=maxLen) (hk:KeptAt w A r.kept) (hk0 : -9223372036854775808<=k) (hk1:k<=9223372036854775807) :
  Calls prog 20 #[zP bs,zP bb,.agg (aj r (.slice A r.kept.length cap)),zI k] w λe w'=>∃v,e= .returned (.tuple #[v,zI (bZ V L r k).2.1])/\Dc (bZ V L r k).1 w' v/\aR bs bb (bZ V L r k).2.2.1 (bZ V L r k).2.2.2 w w':=by
 have hr:=hk.ru;have HK:=ae (λW (h1:aA W bs V) (h2:bz W bb L) (h3:RU W W.heap.size A r.kept)=>Db bs bb V L r A cap W h1 uS h2 hO hcap hcm h3);obtain ⟨R,hR⟩:=ah (bZ V L r k);rw [hR];unfold bZ at hR;have hz:=@fw r;have hZ:bq r=0->0<=r.node/\bQ r.pg r.n r.f r.bk r.ev=0/\eG r.kept=0/\r.node.toNat<L.length:=λh=>⟨(hz.1 h).node.1,bR.2 (hz.1 h).plan,bI.2 (hz.1 h).can,hnl h⟩
 clear hz hnl;generalize bq r=ck at *;obtain ⟨pg,n,f,bk,ev,node,live,K,cl⟩:=r;simp only at hcap hcm hr hk hR hZ HK ⊢;obtain ⟨m,hm0⟩:=ah (K.length);rw [hm0] at hcap HK ⊢;have hm:=ae hm0;have hb0:=below_alloc2 (aQ w (.cells (aj ⟨pg,n,f,bk,ev,node,live,K,cl⟩ (.slice A m cap)) 28)) (.cells (aj bD zN) 28);have k0:=(af.new w 28 (aj ⟨pg,n,f,bk,ev,node,live,K,cl⟩ (.slice A m cap))).dV (.cells (aj bD zN) 28);have kR:=af.oG w (.cells (aj ⟨pg,n,f,bk,ev,node,live,K,cl⟩ (.slice A m cap)) 28) 28 (aj bD zN);have hr0:=ae (hr.on hb0);dsimp only [aj,bD] at k0 hb0 kR hr0 HK ⊢;have kZ:=ae hk;clear hm0 hr hk;by_cases h0:ck=0
 case neg =>
  have h0':=gJ h0;rw [if_pos h0] at hR;subst hR;clear h0 hZ;go_enter func20,ntmps20;go_wp2_with fail;refine (HK.out _ (hV.call hb0) (hB.call hb0) hr0.out).zr λw1 hb1=>?_
  obtain ⟨k1,aT⟩:=bY hb1 k0 kR;have B1:=hb0.zt hb1;have hr1:=hr0.out.on hb1;obtain ⟨c1,jw⟩:=bB k1 aT;have jy:=aT.frozen;clear HK k0 kR hb0 hr0 hb1;go_wp2_with fail;change bodyPost _ _ _ _ _ (aP w1 (w.heap.size+1) ⟨pg,n,f,bk,ev,node,live,K,cl⟩ (.slice A m cap));have aX:=aK aT ⟨pg,n,f,bk,ev,node,live,K,cl⟩ (.slice A m cap);have F9:=aL w1 (w.heap.size+1) ⟨pg,n,f,bk,ev,node,live,K,cl⟩ (.slice A m cap);have B9:=dG B1 (g:=(w.heap.size+1)) zo ⟨pg,n,f,bk,ev,node,live,K,cl⟩ (.slice A m cap);generalize aP w1 (w.heap.size+1) ⟨pg,n,f,bk,ev,node,live,K,cl⟩ (.slice A m cap)=w9 at *;dsimp only [aj] at aX;have di:=aX.cell;refine bodyPost_ret (v:=.tuple #[.agg (aj ⟨pg,n,f,bk,ev,node,live,K,cl⟩ (.slice A m cap)),zI ck]) (by simp [results,results20,go_sem,di,aj]) rfl ?_;exact Fj
 subst h0;rw [if_neg zs] at hR;obtain ⟨z1,z2,z3,z4⟩:=hZ rfl;have HH:=ae (λW h=>Q7 A m cap K k 1 W hm.out hcap hcm h);by_cases h1:jR K (k,1)=0/\(aZ K (k,1)).isEmpty=true
 case neg =>
  rw [if_pos h1] at hR;subst hR;obtain ⟨ak,hak⟩:=ah (jR K (k,1));obtain ⟨ie,hie⟩:=ah ((aZ K (k,1)).isEmpty);rw [hak,hie] at h1 HH;clear hak hie hZ z2 z3;by_cases h2:ak=0
  ·subst h2
   have h3:ie=false:=by simpa using h1
   subst h3;exact zT7
  ·have h2':=gJ h2
   have axi:=bV h2;clear h1 h2;exact zT7
 rw [if_neg (by simpa using h1)] at hR;obtain ⟨h1,h2⟩:=h1;rw [h1,h2] at HH;have HN:=ae (λW=>acb pg n f bk ev k W hk0 hk1 (lS (ay pg n f bk ev) k) (by rw [if_pos z2]));obtain ⟨pn,hpn⟩:=ah (lS (ay pg n f bk ev) k);rw [hpn] at HN hR;obtain ⟨pn,pe⟩:=pn;have HD:=ae (λW h=>vT bs pn 1 V W h);obtain ⟨J,hJ⟩:=ah (bK V pn 1 3 2 1);simp only [hJ] at hR;rw [hJ] at HD;obtain ⟨je,jV⟩:=J;clear hpn hJ;simp only at hR HD HN;by_cases h3:je=0
 case neg =>
  have h3':=gJ h3;rw [if_pos h3] at hR;subst hR;clear h3 h1 h2 hZ z2 z3;go_enter func20,ntmps20;go_wp2_with fail;refine (HK.out _ (hV.call hb0) (hB.call hb0) hr0.out).zr λw1 hb1=>?_
  obtain ⟨k1,aT⟩:=bY hb1 k0 kR;have B1:=hb0.zt hb1;have hr1:=hr0.out.on hb1;obtain ⟨c1,jw⟩:=bB k1 aT;have jy:=aT.frozen;clear HK k0 kR hb0 hr0 hb1;have hbX:=aQ w1 (.cells #[zI k,zI 1] 85);have kX:=af.new w1 85 #[zI k,zI 1];obtain ⟨gx,hgx⟩:=ah (w1.heap.size);rw [hgx] at kX;obtain ⟨J6,qW⟩:=bY hbX k1 aT;have BX:=B1.zt hbX;have J7:=hr1.on hbX;obtain ⟨cX,cX1⟩:=bB kX J6;go_upto_region 5 with fail
  generalize w1.alloc _=wx at *;go_wp2_with fail;refine (HH.out _ J7).zr λw2 hb2=>?_
  obtain ⟨k2,cK,gY⟩:=mY hb2 J6 qW kX;have B2:=BX.zt hb2;have hr2:=J7.on hb2;obtain ⟨c2,sM,U3⟩:=mM k2 cK gY;have sN:=cK.frozen;clear k1 aT B1 hr1 c1 jw jy hb2 hbX kX J6 qW BX J7 cX cX1 HH;obtain ⟨VV2,BB2⟩:=bY B2 hV hB;go_wp2_with fail;refine (HN.out _).zr λw3 hb3=>?_
  obtain ⟨k3,fC,lH⟩:=mY hb3 k2 cK gY;have B3:=B2.zt hb3;have T3:=aR.below hV hB B3;go_wp2_with fail;refine (HD.out _ T3.sys).zr λw4 h4=>?_
  have S4:=aR.iX T3.sys T3.eO h4;have T4:=T3.trans S4;have k4:=S4.blk T3.sys k3 zd zd;have dX:=S4.blk T3.sys fC zd zd;have uB:=S4.blk T3.sys lH zd zd;obtain ⟨c4,ME,cx4⟩:=mM k4 dX uB;have MF:=dX.frozen;clear k2 cK gY hr2 c2 sM sN U3 VV2 BB2 HN HD k3 fC lH hb3 h4;go_wp2_with fail;change bodyPost _ _ _ _ _ (aP w4 (w.heap.size+1) ⟨pg,n,f,bk,ev,node,live,K,cl⟩ (.slice A m cap));have aX:=aK dX ⟨pg,n,f,bk,ev,node,live,K,cl⟩ (.slice A m cap);have F9:=aL w4 (w.heap.size+1) ⟨pg,n,f,bk,ev,node,live,K,cl⟩ (.slice A m cap);generalize aP w4 (w.heap.size+1) ⟨pg,n,f,bk,ev,node,live,K,cl⟩ (.slice A m cap)=w9 at *;dsimp only [aj] at aX;have di:=aX.cell;refine bodyPost_ret (v:=.tuple #[.agg (aj ⟨pg,n,f,bk,ev,node,live,K,cl⟩ (.slice A m cap)),zI je]) (by simp [results,results20,go_sem,di,aj]) rfl ?_;have T9:=T4.fresh F9 (λk hk=>by subst hk;omega) (λk hk=>by subst hk;exact ⟨_,_,dX,zd,zd,zd,zd⟩);exact Fp
 subst h3;rw [if_neg zs] at hR;have jC:=bI.1 z3;have hv:bF (k,1)=true:=by
  unfold jR at h1;rw [if_pos z3] at h1;by_cases h:bF (k,1)=true
  ·exact h
  ·rw [if_neg h] at h1;cases h1
 have HM:=ae (λW A2 h h2=>vI A A2 m cap 1 1 K [(k,1)] W hm.out hcap hcm h rfl (Nat.le_refl _) (by unfold maxLen;omega) h2 jC (Can.one hv));obtain ⟨nn,rfl⟩:∃nn:Nat,node=nn:=⟨node.toNat,zo⟩;rw [Int.toNat_natCast] at hR z4;have HG:=ae (λW h=>CP bb nn 1 L W h hO z4);generalize jb L nn 1=G at *;generalize az K (aZ [(k,1)] (0,1024))=K2 at *;subst hR;clear h1 h2 hZ z2 z3 hv jC;go_enter func20,ntmps20;go_wp2_with fail;refine (HK.out _ (hV.call hb0) (hB.call hb0) hr0.out).zr λw1 hb1=>?_
 obtain ⟨k1,aT⟩:=bY hb1 k0 kR;have B1:=hb0.zt hb1;have hr1:=hr0.out.on hb1;obtain ⟨c1,jw⟩:=bB k1 aT;have jy:=aT.frozen;clear HK k0 kR hb0 hr0 hb1;have hbX:=aQ w1 (.cells #[zI k,zI 1] 85);have kX:=af.new w1 85 #[zI k,zI 1];obtain ⟨gx,hgx⟩:=ah (w1.heap.size);rw [hgx] at kX;obtain ⟨J6,qW⟩:=bY hbX k1 aT;have BX:=B1.zt hbX;have J7:=hr1.on hbX;obtain ⟨cX,cX1⟩:=bB kX J6;go_upto_region 5 with fail
 generalize w1.alloc _=wx at *;go_wp2_with fail;refine (HH.out _ J7).zr λw2 hb2=>?_
 obtain ⟨k2,cK,gY⟩:=mY hb2 J6 qW kX;have B2:=BX.zt hb2;have hr2:=J7.on hb2;obtain ⟨c2,sM,U3⟩:=mM k2 cK gY;have sN:=cK.frozen;clear k1 aT B1 hr1 c1 jw jy hb2 hbX kX J6 qW BX J7 cX cX1 HH;obtain ⟨VV2,BB2⟩:=bY B2 hV hB;go_wp2_with fail;refine (HN.out _).zr λw3 hb3=>?_
 obtain ⟨k3,fC,lH⟩:=mY hb3 k2 cK gY;have B3:=B2.zt hb3;have T3:=aR.below hV hB B3;go_wp2_with fail;refine (HD.out _ T3.sys).zr λw4 h4=>?_
 have S4:=aR.iX T3.sys T3.eO h4;have T4:=T3.trans S4;have k4:=S4.blk T3.sys k3 zd zd;have dX:=S4.blk T3.sys fC zd zd;have uB:=S4.blk T3.sys lH zd zd;obtain ⟨c4,ME,cx4⟩:=mM k4 dX uB;have MF:=dX.frozen;clear k2 cK gY hr2 c2 sM sN U3 VV2 BB2 HN HD k3 fC lH hb3 h4;have hk4:=T4.kept hV kZ.out;go_wp2_with fail;refine (HG.out _ T4.eO).zr λw5 h5=>?_
 have S5:=aR.mU T4.sys h5;have T5:=T4.trans S5;have k5:=S5.blk T4.sys k4 zd zd;have nA:=S5.blk T4.sys dX zd zd;have pK:=S5.blk T4.sys uB zd zd;have hk5:=S5.kept T4.sys hk4;obtain ⟨c5,cx5⟩:=bB k5 pK;have hbO:=aQ w5 (.cells #[zI k,zI 1] 85);have kO:=af.new w5 85 #[zI k,zI 1];have WW:=ae (HM.out _ _ ((hk5.call hbO).ru) (Iq kO));clear k4 dX uB c4 ME MF cx4 HG HM S4 T4 hk4 h5 S5 T3 B3
 go_wp2_with (first|(go_at_call 66;refine (WW.out).mono ?_;rintro e w6 ⟨A6,c6,rfl,aqc,HY,aqd,hb6⟩;have B6:=hbO.zt hb6;have T6:=T5.aU B6;have k6:=k5.call B6;have oK:=nA.call B6;have c6x:=k6.cell;have c6R:=oK.cell;have f6R:=oK.frozen;have f6:=k6.frozen))
 change bodyPost _ _ _ _ _ (aP (w6.setCell ⟨w.heap.size,7,none⟩ (.slice A6 K2.length c6)) (w.heap.size+1) ⟨pg,n,f,bk,ev,nn,live,K2,cl⟩ (.slice A6 K2.length c6));have aX:=aK (oK.far (p:=⟨w.heap.size,7,none⟩) (by show w.heap.size+1≠w.heap.size;omega) (.slice A6 K2.length c6)) ⟨pg,n,f,bk,ev,nn,live,K2,cl⟩ (.slice A6 K2.length c6);have F9:=aL (w6.setCell ⟨w.heap.size,7,none⟩ (.slice A6 K2.length c6)) (w.heap.size+1) ⟨pg,n,f,bk,ev,nn,live,K2,cl⟩ (.slice A6 K2.length c6);generalize aP (w6.setCell ⟨w.heap.size,7,none⟩ (.slice A6 K2.length c6)) (w.heap.size+1) ⟨pg,n,f,bk,ev,nn,live,K2,cl⟩ (.slice A6 K2.length c6)=w9 at *;dsimp only [aj] at aX;have di:=aX.cell;refine bodyPost_ret (v:=.tuple #[.agg (aj ⟨pg,n,f,bk,ev,nn,live,K2,cl⟩ (.slice A6 K2.length c6)),zI 0]) (by simp [results,results20,go_sem,di,aj]) rfl ?_;have F6:=((ag.refl (λk=>k=w.heap.size\/k=w.heap.size+1) w6).setCell (p:=⟨w.heap.size,7,none⟩) (λ_=>.inl rfl) (.slice A6 K2.length c6)).trans (F9.mono (λk _ hk=>.inr hk));have T9:=T6.fresh F6 (λk hk=>by rcases hk with rfl|rfl <;> omega) (λk hk=>by rcases hk with rfl|rfl;exact ⟨_,_,k6,zd,zd,zd,zd⟩;exact ⟨_,_,oK,zd,zd,zd,zd⟩);exact ⟨_,rfl,⟨A6,c6,rfl,HY,aqd,aqc.far F6 (λg cs hg=>by rintro (rfl|rfl);exact k6.ne hg zd;exact oK.ne hg zd)⟩,T9⟩
end Go.Proofs.YtlgcpjhimomiaaaGreat
