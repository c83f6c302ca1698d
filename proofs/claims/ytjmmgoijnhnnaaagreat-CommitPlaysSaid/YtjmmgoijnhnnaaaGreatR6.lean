/- Walks of layer 12 (commit): what is wrong with a range. -/
import Derived.Test.YtjmmgoijnhnnaaaGreatR5
set_option maxRecDepth 100000
set_option maxHeartbeats 12800000
namespace Go.Pol
open Go Go.RowKit Go.Proofs.Tryz
theorem uW.five {cs:Array Value} (h:uW cs 5):∃a b c d e:Int,cs=#[.int .i64 a,.int .i64 b,.int .i64 c,.int .i64 d,.int .i64 e]:=by
 obtain ⟨a,ha⟩:=h.at_ 0 (by omega);obtain ⟨b,hb⟩:=h.at_ 1 (by omega);obtain ⟨c,hc⟩:=h.at_ 2 (by omega);obtain ⟨d,hd⟩:=h.at_ 3 (by omega);obtain ⟨e,he⟩:=h.at_ 4 (by omega);refine ⟨a,b,c,d,e,?_⟩;apply Array.ext_getElem?;intro i;have hs:=h.size
 match i with
 | 0=>simpa using ha
 | 1=>simpa using hb
 | 2=>simpa using hc
 | 3=>simpa using hd
 | 4=>simpa using he
 | i+5=>rw [Array.getElem?_eq_none (by omega),Array.getElem?_eq_none (by simp)]
theorem GA {P:Program} {ops:Array Oper} {Q:Exit→Act→World→Prop} {md:Region.Mode} {S:World→Prop} {tl:List Nat} {i:Nat} {oi:Oper} {v:Value} (hi:ops[i]? = some oi) (hsel:∀(j:Nat) (o:Oper) cs b,ops[j]? = some o→o.op≠.select cs b)
  (hQ:∀c a w,Q (.panic c) (a.put oi.dst v) w→Q (.panic c) a w) (hti:tl.contains i=true) :
  ∀(fuel:Nat) (listed:Array Bool) (a:Act) (w:World),
   (∀j oj,ops[j]? = some oj→j≠i→listed.getD j true=false→(∀e∈oj.after,Region.binds md e=true→e.on≠i)→oi.apart ops oj=true) →
   i∈Region.ready md ops listed→YieldsIf P ops (fun _=>True) oi v a →
   eF P md ops Q S tl fuel (listed.setIfInBounds i true) (a.put oi.dst v) w→eF P md ops Q S tl (fuel+1) listed a w:=by
 have hno:∀w:World,tl.contains i=false→S w:=fun w h=>by rw [hti] at h;cases h
 intro fuel;induction fuel with
 | zero =>
  intro listed a w _ hr hy H;refine ⟨fun h=>(by rw [h] at hr;cases hr),fun j hj=>?_⟩;by_cases hji:j=i
  ·subst hji;exact hy.wpOp hi trivial ⟨hno w,H⟩
  ·have:=ready_mono hj hji
   rw [H.1] at this;cases this
 | succ fuel ih =>
  intro listed a w hfree hr hy H;refine ⟨fun h=>(by rw [h] at hr;cases hr),fun j hj=>?_⟩;by_cases hji:j=i
  ·subst hji;exact hy.wpOp hi trivial ⟨hno w,H⟩
  ·have h1:=H.2 j (ready_mono hj hji)
   obtain ⟨hjun,oj,hoj,hall⟩:=mem_ready.1 hj;have hun:listed.getD i false=false:=getD_both (mem_ready.1 hr).1;have hnot:∀e∈oj.after,Region.binds md e=true→e.on≠i:=fun e he hb heq=>by
    have h1:=hall e he hb;rw [heq,hun] at h1;cases h1
   have h2:=wpOp_putIf hoj (hfree j oj hoj hji hjun hnot) (fun cs b=>hsel i oi cs b hi) (fun cs b=>hsel j oj cs b hoj) hQ hy h1;have hfree':∀k ok,ops[k]? = some ok→k≠i→(listed.setIfInBounds j true).getD k true=false →
     (∀e∈ok.after,Region.binds md e=true→e.on≠i)→oi.apart ops ok=true:=fun k ok hk hki hun hno=>by
    refine hfree k ok hk hki ?_ hno;by_cases hjk:j=k
    ·subst hjk;exact hjun
    ·rw [getD_set_ne true hjk] at hun;exact hun
   refine wpOp_mono (fun a' w' h3=>⟨h3.2.1,ih (listed.setIfInBounds j true) a' w' hfree' (ready_mono hr (Ne.symm hji)) h3.1 ?_⟩) h2;rw [Array.setIfInBounds_comm _ _ hji];exact h3.2.2
theorem Jz {P:Program} {ops:Array Oper} {Q:Exit→Act→World→Prop} {md:Region.Mode} {S:World→Prop} {tl:List Nat} {i:Nat} {oi:Oper} {v:Value} {fuel:Nat} {listed:Array Bool} {a:Act} {w:World} (hi:ops[i]? = some oi)
  (hB:(Region.noSelect ops&&Region.free md ops listed i&&(Region.ready md ops listed).contains i&&tl.contains i)=true)
  (hQ:∀c a w,Q (.panic c) (a.put oi.dst v) w→Q (.panic c) a w) (hy:YieldsIf P ops (fun _=>True) oi v a)
  (h:eF P md ops Q S tl fuel (listed.setIfInBounds i true) (a.put oi.dst v) w):eF P md ops Q S tl (fuel+1) listed a w:=by
 simp only [Bool.and_eq_true] at hB;obtain ⟨⟨⟨h1,h2⟩,h3⟩,h5⟩:=hB;exact GA hi (Region.noSelect_spec h1) hQ h5 fuel listed a w (Region.free_spec hi h2) (by simpa using h3) hy h
theorem fD {P:Program} {ops:Array Oper} {Q:Exit→Act→World→Prop} {md:Region.Mode} {S:World→Prop} {tl:List Nat} (i:Nat) {oi:Oper} {v:Value} {fuel:Nat} {listed:Array Bool} {a b:Act} {w:World} (h:eF P md ops Q S tl fuel (listed.setIfInBounds i true) b w) (hi:ops[i]? = some oi:=by (simp only [List.getElem?_toArray,List.getElem?_cons_succ,List.getElem?_cons_zero];rfl)) (hB:(Region.noSelect ops&&Region.free md ops listed i&&(Region.ready md ops listed).contains i&&tl.contains i)=true:=by kernel_rfl) (hQ:∀c a w,Q (.panic c) (a.put oi.dst v) w→Q (.panic c) a w:=by exact fun _ _ _ h=>h) (hy:YieldsIf P ops (fun _=>True) oi v a:=by (refine Or.inl ⟨rfl,?_⟩;intro wS hSw;go_simp;(try with_reducible rfl))) (hb:a.put oi.dst v=b:=by (try simp only [Act.put,gM,gN,gP]);exact rfl):eF P md ops Q S tl (fuel+1) listed a w:=Jz hi hB hQ hy (hb ▸ h)
def GD (s:Nat) (live:Int) (v:Value) (W:World):Prop:=W.cell? ⟨s,6,none⟩=some (.int .i64 live)∧W.cell? ⟨s,7,none⟩=some v
theorem GD.call {s:Nat} {live:Int} {v:Value} {W W':World} (h:GD s live v W) (hb:Below W.heap.size W W'):GD s live v W':=by
 have hl:s<W.heap.size:=block_lt_of_cell h.1;exact ⟨(hb.cell (p:=⟨s,6,none⟩) hl).trans h.1,(hb.cell (p:=⟨s,7,none⟩) hl).trans h.2⟩
def bn:Cr:=⟨0,0,0,0,0,0,0,[],false⟩
theorem below_alloc2 {w w1:World} (h:Below w.heap.size w w1) (o:Obj):Below w.heap.size w (w1.alloc o):=h.alloc h.size o
theorem ag.dU {w:World} {g:Nat} {t:TypeId} {cs:Array Value} (h:ag w g t cs) (o:Obj):ag (w.alloc o) g t cs:=h.call ((Below.refl _ _).alloc (Nat.le_refl _) o)
theorem ag.nL (w:World) (o:Obj) (t:TypeId) (cs:Array Value):ag ((w.alloc o).alloc (.cells cs t)) (w.heap.size+1) t cs:=by
 have:=ag.new (w.alloc o) t cs
 rwa [World.size_alloc] at this
def aL (W:World) (g:Nat) (r:Cr) (v:Value):World :=
 ((((((((W.setCell ⟨g,0,none⟩ (.int .i64 r.pg)).setCell ⟨g,1,none⟩ (.int .i64 r.n)).setCell ⟨g,2,none⟩ (.int .i64 r.f)).setCell ⟨g,3,none⟩ (.int .i64 r.bk)).setCell ⟨g,4,none⟩ (.int .i64 r.ev)).setCell ⟨g,5,none⟩ (.int .i64 r.node)).setCell ⟨g,6,none⟩ (.int .i64 r.live)).setCell ⟨g,7,none⟩ v).setCell ⟨g,8,none⟩ (.bool r.cl)
theorem aG {W:World} {g:Nat} {t:TypeId} {a0 a1 a2 a3 a4 a5 a6 a7 a8:Value} (h:ag W g t #[a0,a1,a2,a3,a4,a5,a6,a7,a8]) (r:Cr) (v:Value):ag (aL W g r v) g t (ai r v):=by
 have:=((((((((h.aO 0 (.int .i64 r.pg)).aO 1 (.int .i64 r.n)).aO 2 (.int .i64 r.f)).aO 3 (.int .i64 r.bk)).aO 4 (.int .i64 r.ev)).aO 5 (.int .i64 r.node)).aO 6 (.int .i64 r.live)).aO 7 v).aO 8 (.bool r.cl);simpa [aL,ai] using this
theorem aH (W:World) (g:Nat) (r:Cr) (v:Value):af (fun k=>k=g) W (aL W g r v) :=
 af.setCell (T:=fun k=>k=g) (p:=⟨g,8,none⟩) (af.setCell (T:=fun k=>k=g) (p:=⟨g,7,none⟩) (af.setCell (T:=fun k=>k=g) (p:=⟨g,6,none⟩) (af.setCell (T:=fun k=>k=g) (p:=⟨g,5,none⟩) (af.setCell (T:=fun k=>k=g) (p:=⟨g,4,none⟩) (af.setCell (T:=fun k=>k=g) (p:=⟨g,3,none⟩) (af.setCell (T:=fun k=>k=g) (p:=⟨g,2,none⟩) (af.setCell (T:=fun k=>k=g) (p:=⟨g,1,none⟩) (af.setCell (T:=fun k=>k=g) (p:=⟨g,0,none⟩) (af.refl _ _) (fun _=>rfl) (.int .i64 r.pg)) (fun _=>rfl) (.int .i64 r.n)) (fun _=>rfl) (.int .i64 r.f)) (fun _=>rfl) (.int .i64 r.bk)) (fun _=>rfl) (.int .i64 r.ev)) (fun _=>rfl) (.int .i64 r.node)) (fun _=>rfl) (.int .i64 r.live)) (fun _=>rfl) v) (fun _=>rfl) (.bool r.cl)
theorem bW {s:Nat} {W0 W:World} (h:Below s W0 W) {g:Nat} (hg:s≤g) (r:Cr) (v:Value):Below s W0 (aL W g r v) :=
 ((((((((h.setCell (p:=⟨g,0,none⟩) hg (.int .i64 r.pg)).setCell (p:=⟨g,1,none⟩) hg (.int .i64 r.n)).setCell (p:=⟨g,2,none⟩) hg (.int .i64 r.f)).setCell (p:=⟨g,3,none⟩) hg (.int .i64 r.bk)).setCell (p:=⟨g,4,none⟩) hg (.int .i64 r.ev)).setCell (p:=⟨g,5,none⟩) hg (.int .i64 r.node)).setCell (p:=⟨g,6,none⟩) hg (.int .i64 r.live)).setCell (p:=⟨g,7,none⟩) hg v).setCell (p:=⟨g,8,none⟩) hg (.bool r.cl)
def iE (r:Cr) (tt:Int):Cr×Int :=
 if bE r≠0 then (r,bE r) else if r.cl=true then (r,9) else if tt<0∨r.live<tt then (r,7)
 else ({ r with kept:=setOf (r.kept++bG tt r.live),live:=tt },0)
structure KeptAt (w:World) (A:Option Addr) (us:List Sp):Prop where
 ru:RU w w.heap.size A us
 ty:us≠[]→∃(g o:Nat) (cs:Array Value),A=some ⟨g,o,none⟩∧ag w g 140 cs
theorem KeptAt.none (w:World) (A:Option Addr):KeptAt w A []:=⟨RU.nil,fun h=>absurd rfl h⟩
theorem KeptAt.far {w w':World} {A:Option Addr} {us:List Sp} {T:Nat→Prop} (h:KeptAt w A us) (hF:af T w w') (hT:∀g cs,ag w g 140 cs→¬T g):KeptAt w' A us:=by
 refine ⟨fun k hk=>?_,fun hn=>?_⟩
 ·obtain ⟨g,o,cs,e,kb⟩:=h.ty (fun hn=>by subst hn;simp at hk)
  obtain ⟨b,o,e',hb,c1,c2⟩:=h.ru.at_' hk;rw [e] at e';cases e';exact ⟨_,_,e,Nat.lt_of_lt_of_le hb hF.size,hF.cell c1 (hT _ _ kb),hF.cell c2 (hT _ _ kb)⟩
 ·obtain ⟨g,o,cs,e,kb⟩:=h.ty hn
  exact ⟨g,o,cs,e,hF.blk kb (hT _ _ kb)⟩
theorem KeptAt.call {w w':World} {A:Option Addr} {us:List Sp} (h:KeptAt w A us) (hb:Below w.heap.size w w'):KeptAt w' A us :=
 h.far (T:=fun _=>False) (af.of_below hb) (fun _ _ _=>id)
theorem KeptAt.own {w:World} {v:Value} {base n:Nat} {us:List Sp} (h:w.ownsRow base 140 2 v n (ax us)) (hn:us.length=n):∃(A:Option Addr) (cap:Nat),v= .slice A n cap∧KeptAt w A us∧n≤cap∧cap≤maxLen:=by
 obtain ⟨A,cap,rfl,gG,h1,h2,_,_⟩:=mU h hn;refine ⟨A,cap,rfl,⟨gG,fun hne=>?_⟩,h1,h2⟩;rcases h.2 with ⟨hv,h0⟩|⟨g,cap',cur,hv,_,hk,_⟩
 ·subst h0
  exact absurd (List.eq_nil_of_length_eq_zero hn) hne
 ·cases hv
  exact ⟨g,0,cur,rfl,hk⟩
def nV (w:World) (us:List Sp) (er:Int) (e:Ending) (w':World):Prop :=
 ∃(A:Option Addr) (cap:Nat),e= .returned (.tuple #[.slice A us.length cap,.int .i64 er])∧KeptAt w' A us∧us.length≤cap∧cap≤maxLen∧Below w.heap.size w w'
def Bj (r:Cr) (w':World) (v:Value):Prop :=
 ∃(A':Option Addr) (cap:Nat),v= .agg (ai r (.slice A' r.kept.length cap))∧r.kept.length≤cap∧cap≤maxLen∧KeptAt w' A' r.kept
theorem ag.ne {w:World} {g:Nat} {t u:TypeId} {cs ds:Array Value} (h:ag w g t cs) (k:ag w g u ds) (hne:t≠u:=by decide):False:=by
 have:=Option.some.inj (h.symm.trans k);simp only [Obj.cells.injEq] at this;exact hne this.2.1
theorem RU.Uw {w w':World} {B:Nat} {A:Option Addr} {us:List Sp} {T:Nat→Prop} (h:RU w B A us) (hF:af T w w') (hT:∀g o,A=some ⟨g,o,none⟩→¬T g):RU w' B A us:=fun k hk=>by
 obtain ⟨b,o,e,hb,c1,c2⟩:=h.at_' hk;exact ⟨b,o,e,hb,hF.cell c1 (hT b o e),hF.cell c2 (hT b o e)⟩
theorem zm {r:Cr} (h:dS r.pg r.n r.f r.bk r.ev):oG r≤1024:=by
 unfold oG;rw [if_pos (bU.2 h)];exact (nJ h).2
theorem lZ {a b:Int} (h0:0≤a) (h1:b≤1024):Can (bG a b):=by
 unfold bG;by_cases h:b≤a
 ·rw [if_pos h];exact ⟨by simp,rfl⟩
 ·rw [if_neg h];exact Can.one (av.2 ⟨h0,by show a<1024;omega,by show 1≤b - a;omega,by show b - a≤1024 - a;omega⟩)
abbrev VS:=Nat×Value
abbrev bkA (x:VS):Array Value:=#[.int .i64 x.1,x.2]
def mh (fv:Nat→Value):Nat→List VS
 | 0=>[]
 | n+1=>(n,fv n)::mh fv n
def GG (W:World) (A:Option Addr) (K:Nat→Prop) (fv:Nat→Value) (n:Nat):Prop:=∀i,i<n→∃g,A=some ⟨g,0,none⟩∧K g∧W.cell? ⟨g,i,none⟩=some (fv i)
theorem GG.far {W W':World} {A:Option Addr} {K T:Nat→Prop} {fv:Nat→Value} {n:Nat} (h:GG W A K fv n) (hF:af T W W') (hT:∀k,K k→¬T k):GG W' A K fv n:=fun i hi=>by
 obtain ⟨g,e,hk,hc⟩:=h i hi;exact ⟨g,e,hk,hF.cell hc (hT g hk)⟩
def l9 (w:World) (bs bb k:Nat):Prop:=k=bs∨ko bb w k
structure aS (bs bb:Nat) (V:Vm) (L:List Nd) (w w':World):Prop where
 sys:aD w' bs V
 eD:bA w' bb L
 far:af (l9 w bs bb) w w'
theorem aD.typed {w:World} {b:Nat} {V:Vm} (h:aD w b V):∃cs,ag w b 71 cs:=by
 obtain ⟨cs,A,n,cap,hk,_⟩:=h.ex;exact ⟨cs,hk⟩
theorem aD.aeJ {w:World} {b:Nat} {V:Vm} {bb:Nat} (h:aD w b V):¬ko bb w b:=fun ⟨_,ds,hd⟩=>by
 obtain ⟨cs,hc⟩:=h.typed;exact hc.ne hd
theorem l9.not {w:World} {bs bb:Nat} {V:Vm} (h:aD w bs V) {g:Nat} {t:TypeId} {cs:Array Value} (hg:ag w g t cs) (h1:t≠71) (h2:t≠122):¬l9 w bs bb g:=by
 rintro (rfl|⟨_,ds,hd⟩)
 ·obtain ⟨es,he⟩:=h.typed
  exact hg.ne he h1
 ·exact hg.ne hd h2
theorem aS.blk {bs bb:Nat} {V V0:Vm} {L:List Nd} {w w':World} (h:aS bs bb V L w w') (h0:aD w bs V0) {g:Nat} {t:TypeId} {cs:Array Value} (hg:ag w g t cs) (h1:t≠71:=by decide) (h2:t≠122:=by decide):ag w' g t cs :=
 h.far.blk hg (l9.not h0 hg h1 h2)
theorem aS.kept {bs bb:Nat} {V V0:Vm} {L:List Nd} {w w':World} (h:aS bs bb V L w w') (h0:aD w bs V0) {A:Option Addr} {us:List Sp} (hk:KeptAt w A us):KeptAt w' A us :=
 hk.far h.far (fun _ _ hg=>l9.not h0 hg (by decide) (by decide))
theorem aS.below {bs bb:Nat} {V:Vm} {L:List Nd} {w w':World} (hV:aD w bs V) (hB:bA w bb L) (h:Below w.heap.size w w'):aS bs bb V L w w':=⟨hV.call h,hB.call h,af.of_below h⟩
theorem aS.iK {bs bb:Nat} {V V':Vm} {L:List Nd} {w w':World} (hV:aD w bs V) (hB:bA w bb L) (h:dw bs V' w w'):aS bs bb V' L w w':=by
 refine ⟨h.1,?_,h.2.mono (fun k _ hk=>.inl hk)⟩;obtain ⟨cs,hc⟩:=hV.typed;refine hB.far h.2 (fun e=>?_) (fun k ⟨_,ds,hd⟩ e=>?_)
 ·obtain ⟨A,cap,k,_⟩:=hB.ex
  have e:bb=bs:=e;subst e;exact k.ne hc
 ·have e:k=bs:=e
  subst e;exact hd.ne hc
theorem aS.mi {bs bb:Nat} {V:Vm} {L:List Nd} {w w':World} (hV:aD w bs V) (h:L9 bb L w w'):aS bs bb V L w w' :=
 ⟨hV.far h.2 hV.aeJ (fun _ _ _ _ _ _ _ _ _ _ ⟨_,hc⟩ ⟨_,_,hd⟩=>hc.ne hd),h.1,h.2.mono (fun _ _ hk=>.inr hk)⟩
theorem l9.back {w w1:World} {bs bb k:Nat} (hF:af (l9 w bs bb) w w1) (hk:k<w.heap.size) (h:l9 w1 bs bb k):l9 w bs bb k:=by
 rcases h with h|⟨hb,cs,hcs⟩
 ·exact .inl h
 ·by_cases h0:l9 w bs bb k
  ·exact h0
  ·exact .inr ⟨hb,cs,(hF.block k hk h0).symm.trans hcs⟩
theorem aS.trans {bs bb:Nat} {V V1:Vm} {L L1:List Nd} {w w1 w2:World} (h:aS bs bb V1 L1 w w1) (k:aS bs bb V L w1 w2):aS bs bb V L w w2 :=
 ⟨k.sys,k.eD,h.far.trans' k.far (fun _ hi ht=>l9.back h.far hi ht)⟩
theorem aS.aU {bs bb:Nat} {V:Vm} {L:List Nd} {w w1 w2:World} (h:aS bs bb V L w w1) (k:Below w1.heap.size w1 w2):aS bs bb V L w w2:=h.trans (.below h.sys h.eD k)
theorem aS.size {bs bb:Nat} {V:Vm} {L:List Nd} {w w1:World} (h:aS bs bb V L w w1):w.heap.size≤w1.heap.size:=h.far.size
theorem aS.fresh {bs bb:Nat} {V:Vm} {L:List Nd} {w w1 w2:World} {T:Nat→Prop} (h:aS bs bb V L w w1) (hF:af T w1 w2) (hT:∀k,T k→w.heap.size≤k) (hty:∀k,T k→∃t cs,ag w1 k t cs∧t≠71∧t≠122∧t≠75∧t≠164):aS bs bb V L w w2:=by
 refine ⟨?_,?_,h.far.trans' hF (fun i hi ht=>absurd (hT i ht) (by omega))⟩
 ·obtain ⟨cs,hc⟩:=h.sys.typed
  refine h.sys.far hF (fun ht=>?_) (fun _ _ _ _ _ _ _ _ _ _ ⟨_,hr⟩ ht=>?_)
  ·obtain ⟨t,ds,hd,h1,_⟩:=hty _ ht
   exact hd.ne hc h1
  ·obtain ⟨t,ds,hd,_,_,_,h4⟩:=hty _ ht
   exact hd.ne hr h4
 ·refine h.eD.far hF (fun ht=>?_) (fun k ⟨_,es,he⟩ ht=>?_)
  ·obtain ⟨A,cap,k,_⟩:=h.eD.ex
   obtain ⟨t,ds,hd,_,_,h3,_⟩:=hty _ ht;exact hd.ne k h3
  ·obtain ⟨t,ds,hd,_,h2,_⟩:=hty _ ht
   exact hd.ne he h2
abbrev iF:=Int×Int×Int
def nX:iF:=(0,0,0)
abbrev oM (x:iF):Array Value:=#[.int .i64 x.1,.int .i64 x.2.1,.int .i64 x.2.2]
abbrev Om (x:iF):Array Value:=#[.agg (oM x)]
def yC (u0 m:Int) (x:Sp):iF:=(u0+x.1 - m,x.2,x.1)
theorem Eo (x:Sp) (l:List Sp):aI (x::l)=x.2+aI l:=by simp [aI]
theorem ve (S:List Sp):∀(a b:List Sp) (m:Int),bS S m (a++b)=bS S m a++bS S (m+aI a) b
 | [],b,m=>by simp [bS,aI]
 | u::a,b,m=>by
  rw [List.cons_append,bS,bS,ve S a b,Eo,List.append_assoc,←Int.add_assoc]
theorem Rq (S:List Sp) (m:Int) (u:Sp):bS S m [u]=(ay S [(m,u.2)]).map (yC u.1 m):=by
 simp only [bS,List.append_nil];rfl
theorem Oo (S us:List Sp) {k:Nat} (hk:k<us.length):bS S 0 (us.take (k+1))=bS S 0 (us.take k)++(ay S [(aI (us.take k),(us.getD k (0,0)).2)]).map (yC (us.getD k (0,0)).1 (aI (us.take k))):=by
 rw [rz (0,0) us hk,ve,Rq,Int.zero_add]
theorem Rs (S us:List Sp) (k:Nat):bS S 0 (us.take k) <+: bS S 0 us:=by
 conv=>rhs;rw [←List.take_append_drop k us,ve]
 exact List.prefix_append _ _
theorem Oq (us:List Sp) {k:Nat} (hk:k<us.length):aI (us.take (k+1))=aI (us.take k)+(us.getD k (0,0)).2:=by
 rw [rz (0,0) us hk,r9]
theorem zY (us:List Sp) (h:∀x∈us,bB x=true) (k:Nat):0≤aI (us.take k)∧aI (us.take k)≤aI us:=by
 have h1:=(iA (us.take k) (fun x hx=>h x (List.mem_of_mem_take hx))).1;have h2:=(iA (us.drop k) (fun x hx=>h x (List.mem_of_mem_drop hx))).1;have h3:aI us=aI (us.take k)+aI (us.drop k):=by
  unfold aI;rw [←List.sum_append,←List.map_append,List.take_append_drop]
 omega
theorem KeptAt.ach {w w':World} {A:Option Addr} {us:List Sp} {T:Nat→Prop} (h:KeptAt w A us) (hF:af T w w') (hT:us≠[]→∀g o,A=some ⟨g,o,Option.none⟩→¬T g):KeptAt w' A us:=by
 by_cases hn:us=[]
 ·subst hn;exact .none _ _
 ·refine ⟨(h.ru.Uw hF (hT hn)).more hF.size,fun _=>?_⟩
  obtain ⟨g,o,cs,e,kb⟩:=h.ty hn;exact ⟨g,o,cs,e,hF.blk kb (hT hn g o e)⟩
theorem KeptAt.block {w:World} {A:Option Addr} {us:List Sp} (h:KeptAt w A us) (hn:us≠[]) {g o:Nat} (e:A=some ⟨g,o,Option.none⟩):∃cs,ag w g 140 cs:=by
 obtain ⟨g',o',cs,e',kb⟩:=h.ty hn;rw [e] at e';cases e';exact ⟨cs,kb⟩
theorem dw.fresh {b:Nat} {V:Vm} {w w1 w2:World} {T:Nat→Prop} (h:dw b V w w1) (hF:af T w1 w2) (hT:∀k,T k→w.heap.size≤k) (hty:∀k,T k→∃t cs,ag w1 k t cs∧t≠71∧t≠164):dw b V w w2:=by
 refine ⟨?_,h.2.trans' hF (fun i hi ht=>absurd (hT i ht) (by omega))⟩;obtain ⟨cs,hc⟩:=h.1.typed;refine h.1.far hF (fun ht=>?_) (fun _ _ _ _ _ _ _ _ _ _ ⟨_,hr⟩ ht=>?_)
 ·obtain ⟨t,ds,hd,h1,_⟩:=hty _ ht
  exact hd.ne hc h1
 ·obtain ⟨t,ds,hd,_,h4⟩:=hty _ ht
  exact hd.ne hr h4
theorem dw.trans {b:Nat} {V V1:Vm} {w w1 w2:World} (h:dw b V1 w w1) (k:dw b V w1 w2):dw b V w w2:=⟨k.1,h.2.trans k.2⟩
theorem dw.below {b:Nat} {V:Vm} {w w1:World} (h:aD w b V) (k:Below w.heap.size w w1):dw b V w w1:=⟨h.call k,af.of_below k⟩
theorem dw.aU {b:Nat} {V:Vm} {w w1 w2:World} (h:dw b V w w1) (k:Below w1.heap.size w1 w2):dw b V w w2:=h.trans (.below h.1 k)
theorem dw.blk {b:Nat} {V V0:Vm} {w w1:World} (h:dw b V w w1) (h0:aD w b V0) {g:Nat} {t:TypeId} {cs:Array Value} (hg:ag w g t cs) (h1:t≠71:=by decide):ag w1 g t cs :=
 h.2.blk hg (fun e=>by
  have e:g=b:=e;subst e;obtain ⟨es,he⟩:=h0.typed;exact hg.ne he h1)
def Du (V:Vm) (q:Int):Int:=if 0≤q∧q<1024 then (V.pg q.toNat).kind else 0
def qm (V:Vm) (p:Int):Nat→List Sp
 | 0=>[]
 | k+1=>if Du V (p+k)=3 then qm V p k++[(p+k,1)] else qm V p k
def pX (V:Vm) (p n:Int):List Sp:=setOf (qm V p n.toNat)
theorem zn (V:Vm) (p:Int):∀k,(qm V p k).length≤k
 | 0=>Nat.le_refl _
 | k+1=>by
  have:=zn V p k;rw [qm];split <;> simp <;> omega
theorem Dv (V:Vm) {p:Int} (hp:0≤p):∀k:Nat,p+k≤1024→∀x∈qm V p k,bB x=true
 | 0,_,_,h=>by cases h
 | k+1,hk,x,h=>by
  rw [qm] at h;have ih:=Dv V hp k (by omega);split at h
  ·rcases List.mem_append.1 h with h|h
   ·exact ih x h
   ·simp only [List.mem_singleton] at h
    subst h;exact av.2 ⟨by show 0≤p+k;omega,by show p+k<1024;omega,by show (1:Int)≤1;omega,by show (1:Int)≤1024 - (p+k);omega⟩
  ·exact ih x h
theorem Yy (V:Vm) {p:Int} {n:Nat} (hp:0≤p) (hn:p+n≤1024):EM (qm V p n)=0:=by
 have h1:=zn V p n;unfold EM;rw [if_neg (by omega),if_pos (List.all_eq_true.2 (Dv V hp n hn))]
end Go.Pol
namespace Go.Proofs.YtjmmgoijnhnnaaaGreat
open Go Go.Proofs Go.RowKit Go.Pol Go.Shelf Tryz
attribute [local go_sem] Oper.semAt_some aC au az ah
theorem wU (r:Cr):(lC r.pg r.n r.f r.bk r.ev).1=oG r:=by
 unfold lC oG;split <;> rfl
theorem wV (r:Cr) (A:Option Addr) (cap:Nat) (w:World) (hcap:r.kept.length≤cap) (hcm:cap≤maxLen) (hr:RU w w.heap.size A r.kept) :
  Calls prog 34 #[.agg (ai r (.slice A r.kept.length cap))] w fun e w'=>e= .returned (.int .i64 (bE r))∧Below w.heap.size w w':=by
 have HC:=ae (fun W=>FP r.pg r.n r.f r.bk r.ev W);rw [wU] at HC;obtain ⟨R,hR⟩:=aj (bE r);rw [hR];unfold bE at hR;obtain ⟨pg,n,f,bk,ev,node,live,K,cl⟩:=r;simp only at hcap hcm hr HC hR ⊢;obtain ⟨U,hU⟩:=aj (oG ⟨pg,n,f,bk,ev,node,live,K,cl⟩);rw [hU] at HC hR;generalize bN pg n f bk ev=ck at *;generalize (lC pg n f bk ev).2=V2 at *;obtain ⟨m,hm0⟩:=aj (K.length);rw [hm0] at hcap hR ⊢;have hm:=ae hm0;have LD:m≤9223372036854775807:=by unfold maxLen at hcm;omega
 have hb0:=aV w (.cells (ai ⟨pg,n,f,bk,ev,node,live,K,cl⟩ (.slice A m cap)) 43);have k0:=ag.new w 43 (ai ⟨pg,n,f,bk,ev,node,live,K,cl⟩ (.slice A m cap));have hr0:=hr.on hb0;dsimp only [ai] at k0 hb0 hr0 ⊢;have c0:=k0.cell;clear hm0 hU hr;by_cases h0:ck=0
 case neg =>
  have h0':(ck != 0)=true:=by simpa using h0
  have hR2:Hid (R=ck):=ae (by rw [←hR,if_pos h0]);clear hR h0;go_enter func34,ntmps34
  go_wp2_with (first
   | (go_at_call 50;refine (HC.out _).mono ?_;rintro e w1 ⟨rfl,hb1⟩;have k1:=k0.call hb1;have c1:=k1.cell;have B1:=hb0.trans (hb1.mono hb0.size);have r1:=hr0.on hb1)
   | (go_at_call 98;refine (dx A _ cap K w1 hm.out (by omega) r1).mono ?_;rintro e w2 ⟨rfl,hb2⟩;have k2:=k1.call hb2;have c2:=k2.cell;have B2:=B1.trans (hb2.mono B1.size);have r2:=r1.on hb2))
  go_ret;rw [hR2.out];exact ⟨rfl,B1⟩
 subst h0;rw [if_neg (by simp)] at hR;by_cases a1:live<0
 ·have d1:decide (live<0)=true:=by simpa using a1
  have hR2:Hid (R=7):=ae (by rw [←hR,if_pos (.inl a1)]);clear hR a1;go_enter func34,ntmps34
  go_wp2_with (first
   | (go_at_call 50;refine (HC.out _).mono ?_;rintro e w1 ⟨rfl,hb1⟩;have k1:=k0.call hb1;have c1:=k1.cell;have B1:=hb0.trans (hb1.mono hb0.size);have r1:=hr0.on hb1)
   | (go_at_call 98;refine (dx A _ cap K w1 hm.out (by omega) r1).mono ?_;rintro e w2 ⟨rfl,hb2⟩;have k2:=k1.call hb2;have c2:=k2.cell;have B2:=B1.trans (hb2.mono B1.size);have r2:=r1.on hb2))
  go_ret;rw [hR2.out];exact ⟨rfl,B1⟩
 have d1:decide (live<0)=false:=by simpa using a1
 by_cases a2:U<live
 ·have d2:decide (U<live)=true:=by simpa using a2
  have hR2:Hid (R=7):=ae (by rw [←hR,if_pos (.inr (.inl a2))]);clear hR a1 a2;go_enter func34,ntmps34
  go_wp2_with (first
   | (go_at_call 50;refine (HC.out _).mono ?_;rintro e w1 ⟨rfl,hb1⟩;have k1:=k0.call hb1;have c1:=k1.cell;have B1:=hb0.trans (hb1.mono hb0.size);have r1:=hr0.on hb1)
   | (go_at_call 98;refine (dx A _ cap K w1 hm.out (by omega) r1).mono ?_;rintro e w2 ⟨rfl,hb2⟩;have k2:=k1.call hb2;have c2:=k2.cell;have B2:=B1.trans (hb2.mono B1.size);have r2:=r1.on hb2))
  go_ret;rw [hR2.out];exact ⟨rfl,B1⟩
 have d2:decide (U<live)=false:=by simpa using a2
 by_cases a3:node<0
 ·have d3:decide (node<0)=true:=by simpa using a3
  have hR2:Hid (R=7):=ae (by rw [←hR,if_pos (.inr (.inr (.inl a3)))]);clear hR a1 a2 a3;go_enter func34,ntmps34
  go_wp2_with (first
   | (go_at_call 50;refine (HC.out _).mono ?_;rintro e w1 ⟨rfl,hb1⟩;have k1:=k0.call hb1;have c1:=k1.cell;have B1:=hb0.trans (hb1.mono hb0.size);have r1:=hr0.on hb1)
   | (go_at_call 98;refine (dx A _ cap K w1 hm.out (by omega) r1).mono ?_;rintro e w2 ⟨rfl,hb2⟩;have k2:=k1.call hb2;have c2:=k2.cell;have B2:=B1.trans (hb2.mono B1.size);have r2:=r1.on hb2))
  go_ret;rw [hR2.out];exact ⟨rfl,B1⟩
 have d3:decide (node<0)=false:=by simpa using a3
 by_cases a4:64≤node
 ·have d4:decide (64≤node)=true:=by simpa using a4
  have hR2:Hid (R=7):=ae (by rw [←hR,if_pos (.inr (.inr (.inr a4)))]);clear hR a1 a2 a3 a4;go_enter func34,ntmps34
  go_wp2_with (first
   | (go_at_call 50;refine (HC.out _).mono ?_;rintro e w1 ⟨rfl,hb1⟩;have k1:=k0.call hb1;have c1:=k1.cell;have B1:=hb0.trans (hb1.mono hb0.size);have r1:=hr0.on hb1)
   | (go_at_call 98;refine (dx A _ cap K w1 hm.out (by omega) r1).mono ?_;rintro e w2 ⟨rfl,hb2⟩;have k2:=k1.call hb2;have c2:=k2.cell;have B2:=B1.trans (hb2.mono B1.size);have r2:=r1.on hb2))
  go_ret;rw [hR2.out];exact ⟨rfl,B1⟩
 have d4:decide (64≤node)=false:=by simpa using a4
 rw [if_neg (by omega)] at hR;clear a1 a2 a3 a4;have hK:Hid (dX K=dX K):=ae rfl;by_cases a5:dX K=0
 case neg =>
  have d5:(dX K != 0)=true:=by simpa using a5
  have hR2:Hid (R=6):=ae (by rw [←hR,if_pos (.inl a5)]);clear hR a5;go_enter func34,ntmps34
  go_wp2_with (first
   | (go_at_call 50;refine (HC.out _).mono ?_;rintro e w1 ⟨rfl,hb1⟩;have k1:=k0.call hb1;have c1:=k1.cell;have B1:=hb0.trans (hb1.mono hb0.size);have r1:=hr0.on hb1)
   | (go_at_call 98;refine (dx A _ cap K w1 hm.out (by omega) r1).mono ?_;rintro e w2 ⟨rfl,hb2⟩;have k2:=k1.call hb2;have c2:=k2.cell;have B2:=B1.trans (hb2.mono B1.size);have r2:=r1.on hb2))
  go_ret;rw [hR2.out];exact ⟨rfl,B2⟩
 have d5:(dX K != 0)=false:=by simpa using a5
 by_cases a6:cl=true∧(live≠0∨m≠0)
 ·obtain ⟨rfl,a7⟩:=a6
  have hR2:Hid (R=6):=ae (by rw [←hR,if_pos (.inr ⟨rfl,a7⟩)]);by_cases a8:live=0
  ·have a9:¬m=0:=by rcases a7 with h|h;exact absurd a8 h;exact h
   have d8:(live != 0)=false:=by simpa using a8
   have d9:((m:Int) != 0)=true:=by simp;omega
   clear hR a5 a7 a8 a9;go_enter func34,ntmps34
   go_wp2_with (first
    | (go_at_call 50;refine (HC.out _).mono ?_;rintro e w1 ⟨rfl,hb1⟩;have k1:=k0.call hb1;have c1:=k1.cell;have B1:=hb0.trans (hb1.mono hb0.size);have r1:=hr0.on hb1)
    | (go_at_call 98;refine (dx A _ cap K w1 hm.out (by omega) r1).mono ?_;rintro e w2 ⟨rfl,hb2⟩;have k2:=k1.call hb2;have c2:=k2.cell;have B2:=B1.trans (hb2.mono B1.size);have r2:=r1.on hb2))
   go_ret;rw [hR2.out];exact ⟨rfl,B2⟩
  ·have d8:(live != 0)=true:=by simpa using a8
   clear hR a5 a7 a8;go_enter func34,ntmps34
   go_wp2_with (first
    | (go_at_call 50;refine (HC.out _).mono ?_;rintro e w1 ⟨rfl,hb1⟩;have k1:=k0.call hb1;have c1:=k1.cell;have B1:=hb0.trans (hb1.mono hb0.size);have r1:=hr0.on hb1)
    | (go_at_call 98;refine (dx A _ cap K w1 hm.out (by omega) r1).mono ?_;rintro e w2 ⟨rfl,hb2⟩;have k2:=k1.call hb2;have c2:=k2.cell;have B2:=B1.trans (hb2.mono B1.size);have r2:=r1.on hb2))
   go_ret;rw [hR2.out];exact ⟨rfl,B2⟩
 have hcl:cl=false∨(cl=true∧live=0∧m=0):=by
  cases cl with
  | false=>exact .inl rfl
  | true =>
   refine .inr ⟨rfl,?_,?_⟩
   ·by_cases h:live=0
    ·exact h
    ·exact absurd ⟨rfl,.inl h⟩ a6
   ·by_cases h:m=0
    ·exact h
    ·exact absurd ⟨rfl,.inr h⟩ a6
 rw [if_neg (by rintro (h|h);exact h a5;exact a6 h)] at hR;clear a6;have qP:Go.Pol.Can K:=bP.1 a5;by_cases h0:m=0
 ·subst h0
  have hR2:Hid (R=0):=ae (by rw [←hR,if_neg (by simp)]);rcases hcl with rfl|⟨rfl,rfl,_⟩
  ·clear hR a5
   go_enter func34,ntmps34
   go_wp2_with (first
    | (go_at_call 50;refine (HC.out _).mono ?_;rintro e w1 ⟨rfl,hb1⟩;have k1:=k0.call hb1;have c1:=k1.cell;have B1:=hb0.trans (hb1.mono hb0.size);have r1:=hr0.on hb1)
    | (go_at_call 98;refine (dx A _ cap K w1 hm.out (by omega) r1).mono ?_;rintro e w2 ⟨rfl,hb2⟩;have k2:=k1.call hb2;have c2:=k2.cell;have B2:=B1.trans (hb2.mono B1.size);have r2:=r1.on hb2))
   refine aF (by kernel_rfl) (by kernel_rfl) ?_
   repeat (go_big_quiet_step (fail))
   refine wpQuiet_nil ?_;rintro w3 ⟨⟨_,hw3⟩,rfl⟩;go_wp2_with fail;go_ret;rw [hR2.out];exact ⟨rfl,B2.trans (hw3.mono B2.size)⟩
  ·clear hR a5
   go_enter func34,ntmps34
   go_wp2_with (first
    | (go_at_call 50;refine (HC.out _).mono ?_;rintro e w1 ⟨rfl,hb1⟩;have k1:=k0.call hb1;have c1:=k1.cell;have B1:=hb0.trans (hb1.mono hb0.size);have r1:=hr0.on hb1)
    | (go_at_call 98;refine (dx A _ cap K w1 hm.out (by omega) r1).mono ?_;rintro e w2 ⟨rfl,hb2⟩;have k2:=k1.call hb2;have c2:=k2.cell;have B2:=B1.trans (hb2.mono B1.size);have r2:=r1.on hb2))
   refine aF (by kernel_rfl) (by kernel_rfl) ?_
   repeat (go_big_quiet_step (fail))
   refine wpQuiet_nil ?_;rintro w3 ⟨⟨_,hw3⟩,rfl⟩;go_wp2_with fail;go_ret;rw [hR2.out];exact ⟨rfl,B2.trans (hw3.mono B2.size)⟩
 ·obtain rfl:cl=false:=by rcases hcl with h|h;exact h;exact absurd h.2.2 h0
  have hmp:0<m:=by omega
  have dm:decide ((0:Int)<(m:Int))=true:=by rw [decide_eq_true_eq];omega
  have dn:((m:Int) != 0)=true:=by simp;omega
  have hwm:IntKind.i64.wrap ((m:Int) - 1)=((m - 1:Nat):Int):=by rw [IntKind.wrap_i64];omega
  have hl0:K.getD 0 (0,0)∈K:=by rw [List.getD_eq_getElem?_getD,List.getElem?_eq_getElem (by have:=hm.out;omega)];exact List.getElem_mem _
  have hll:iP K∈K:=by unfold iP;rw [List.getD_eq_getElem?_getD,List.getElem?_eq_getElem (by have:=hm.out;omega)];exact List.getElem_mem _
  have hv0:=av.1 (qP.1 _ hl0);have hvl:=av.1 (qP.1 _ hll);have Uu:=ae (fun W (h:RU W W.heap.size A K)=>h.at_' (k:=0) (by have:=hm.out;omega));have Uv:=ae (fun W (h:RU W W.heap.size A K)=>h.at_' (k:=m - 1) (by have:=hm.out;omega));have hlc:K.getD (m - 1) (0,0)=iP K:=by unfold iP;rw [hm.out]
  rw [hlc] at Uv;generalize K.getD 0 (0,0)=x at *;generalize iP K=y at *;obtain ⟨xa,xb⟩:=x;obtain ⟨ya,yb⟩:=y;simp only at hv0 hvl Uu Uv hR;have hwy:IntKind.i64.wrap (ya+yb)=ya+yb:=by rw [IntKind.wrap_i64];omega
  clear hl0 hll hlc hcl qP;by_cases a7:xa<live
  ·have d7:decide (xa<live)=true:=by simpa using a7
   have hR2:Hid (R=6):=ae (by rw [←hR,if_pos ⟨by omega,.inl a7⟩]);clear hR a5 a7;go_enter func34,ntmps34
   go_wp2_with (first
    | (go_at_call 50;refine (HC.out _).mono ?_;rintro e w1 ⟨rfl,hb1⟩;have k1:=k0.call hb1;have c1:=k1.cell;have B1:=hb0.trans (hb1.mono hb0.size);have r1:=hr0.on hb1)
    | (go_at_call 98;refine (dx A _ cap K w1 hm.out (by omega) r1).mono ?_;rintro e w2 ⟨rfl,hb2⟩;have k2:=k1.call hb2;have c2:=k2.cell;have B2:=B1.trans (hb2.mono B1.size);have r2:=r1.on hb2))
   obtain ⟨b0,o0,yA,_,x0,_⟩:=Uu.out w2 r2;subst yA;simp only [Nat.zero_mul,Nat.add_zero] at x0;have e0:=fun z:Ext w2=>z.cell x0
   have e1:=fun z:Ext w2=>(z.blk k2).cell
   refine aF (by kernel_rfl) (by kernel_rfl) ?_
   repeat (go_big_quiet_step (fail))
   refine wpQuiet_nil ?_;rintro w3 ⟨⟨_,hw3⟩,rfl⟩;go_wp2_with fail;go_ret;rw [hR2.out];exact ⟨rfl,B2.trans (hw3.mono B2.size)⟩
  ·have d7:decide (xa<live)=false:=by simpa using a7
   by_cases a8:U<ya+yb
   ·have d8:decide (U<ya+yb)=true:=by simpa using a8
    have hR2:Hid (R=6):=ae (by rw [←hR,if_pos ⟨by omega,.inr a8⟩]);clear hR a5 a7 a8;go_enter func34,ntmps34
    go_wp2_with (first
     | (go_at_call 50;refine (HC.out _).mono ?_;rintro e w1 ⟨rfl,hb1⟩;have k1:=k0.call hb1;have c1:=k1.cell;have B1:=hb0.trans (hb1.mono hb0.size);have r1:=hr0.on hb1)
     | (go_at_call 98;refine (dx A _ cap K w1 hm.out (by omega) r1).mono ?_;rintro e w2 ⟨rfl,hb2⟩;have k2:=k1.call hb2;have c2:=k2.cell;have B2:=B1.trans (hb2.mono B1.size);have r2:=r1.on hb2))
    obtain ⟨b0,o0,yA,_,x0,_⟩:=Uu.out w2 r2;obtain ⟨b1,o1,hA1,_,y0,y1⟩:=Uv.out w2 r2;subst yA;simp only [Option.some.injEq,Addr.mk.injEq,and_true] at hA1;obtain ⟨rfl,rfl⟩:=hA1;simp only [Nat.zero_mul,Nat.add_zero] at x0;have e0:=fun z:Ext w2=>z.cell x0
    have e1:=fun z:Ext w2=>(z.blk k2).cell
    have e2:=fun z:Ext w2=>z.cell y0
    have e3:=fun z:Ext w2=>z.cell y1
    refine aF (by kernel_rfl) (by kernel_rfl) ?_
    repeat (go_big_quiet_step (fail))
    refine wpQuiet_nil ?_;rintro w3 ⟨⟨_,hw3⟩,rfl⟩;go_wp2_with fail;go_ret;rw [hR2.out];exact ⟨rfl,B2.trans (hw3.mono B2.size)⟩
   ·have d8:decide (U<ya+yb)=false:=by simpa using a8
    have hR2:Hid (R=0):=ae (by rw [←hR,if_neg (by omega)]);clear hR a5 a7 a8;go_enter func34,ntmps34
    go_wp2_with (first
     | (go_at_call 50;refine (HC.out _).mono ?_;rintro e w1 ⟨rfl,hb1⟩;have k1:=k0.call hb1;have c1:=k1.cell;have B1:=hb0.trans (hb1.mono hb0.size);have r1:=hr0.on hb1)
     | (go_at_call 98;refine (dx A _ cap K w1 hm.out (by omega) r1).mono ?_;rintro e w2 ⟨rfl,hb2⟩;have k2:=k1.call hb2;have c2:=k2.cell;have B2:=B1.trans (hb2.mono B1.size);have r2:=r1.on hb2))
    obtain ⟨b0,o0,yA,_,x0,_⟩:=Uu.out w2 r2;obtain ⟨b1,o1,hA1,_,y0,y1⟩:=Uv.out w2 r2;subst yA;simp only [Option.some.injEq,Addr.mk.injEq,and_true] at hA1;obtain ⟨rfl,rfl⟩:=hA1;simp only [Nat.zero_mul,Nat.add_zero] at x0;have e0:=fun z:Ext w2=>z.cell x0
    have e1:=fun z:Ext w2=>(z.blk k2).cell
    have e2:=fun z:Ext w2=>z.cell y0
    have e3:=fun z:Ext w2=>z.cell y1
    refine aF (by kernel_rfl) (by kernel_rfl) ?_
    repeat (go_big_quiet_step (fail))
    refine wpQuiet_nil ?_;rintro w3 ⟨⟨_,hw3⟩,rfl⟩;go_wp2_with fail;go_ret;rw [hR2.out];exact ⟨rfl,B2.trans (hw3.mono B2.size)⟩
theorem Ck (b:Nat) (V:Vm) (w:World) (hV:aD w b V) (hK:aQ V) :
  Calls prog 41 #[.pointer (some ⟨b,0,none⟩)] w fun e w'=>∃n1 n2 n3 n4 n5:Int,e= .returned (.tuple #[.agg #[.int .i64 n1,.int .i64 n2,.int .i64 n3,.int .i64 n4,.int .i64 n5],.int .i64 0])∧Below w.heap.size w w':=by
 refine (Ed b V w hV hK).mono ?_;rintro e w' ⟨⟨cs,h,rfl⟩,hb⟩;obtain ⟨a,b,c,d,e,rfl⟩:=h.five;exact ⟨a,b,c,d,e,rfl,hb⟩
theorem wW (a b:Int) (w:World) (ha : -5000≤a∧a≤5000) (hb : -5000≤b∧b≤5000) :
  Calls prog 52 #[.int .i64 a,.int .i64 b] w fun e w'=>∃(A:Option Addr) (cap:Nat),e= .returned (.slice A (bG a b).length cap)∧RU w' w'.heap.size A (bG a b)∧(bG a b).length≤cap∧cap≤maxLen∧(∀g o,A=some ⟨g,o,none⟩→w.heap.size≤g)∧Below w.heap.size w w':=by
 unfold bG;by_cases h:b≤a
 ·have h':decide (b≤a)=true:=by simpa using h
  rw [if_pos h];go_enter func52,ntmps52;go_wp2_with fail;go_ret;exact ⟨none,0,rfl,RU.nil,by simp,by unfold maxLen;omega,fun _ _ h=>(by cases h),Below.refl _ _⟩
 ·have h':decide (b≤a)=false:=by simpa using h
  rw [if_neg h];have hwr:IntKind.i64.wrap (b - a)=b - a:=by rw [IntKind.wrap_i64];omega
  go_enter func52,ntmps52;go_wp2_with fail;go_ret;have k:=ag.new w 140 #[.int .i64 a,.int .i64 (b - a)];exact ⟨_,_,rfl,Fs k,Nat.le_refl _,by unfold maxLen;omega,fun g o e=>(by cases e;exact Nat.le_refl _),(Below.refl _ _).alloc (Nat.le_refl _) _⟩
theorem Bi (bs bb:Nat) (V:Vm) (L:List Nd) (r:Cr) (A:Option Addr) (cap:Nat) (w:World) (hV:aD w bs V) (hK:aQ V) (hB:bA w bb L) (hO:bg L) (hcap:r.kept.length≤cap) (hcm:cap≤maxLen) (hr:RU w w.heap.size A r.kept) :
  Calls prog 49 #[.pointer (some ⟨bs,0,none⟩),.pointer (some ⟨bb,0,none⟩),.agg (ai r (.slice A r.kept.length cap))] w fun e w'=>e= .returned (.int .i64 (bE r))∧Below w.heap.size w w':=by
 have hb0:=aV w (.cells (ai r (.slice A r.kept.length cap)) 43);have k0:=ag.new w 43 (ai r (.slice A r.kept.length cap));have V0:=hV.call hb0;have HC:=ae (fun W (h:aD W bs V)=>Ck bs V W h hK);have HO:=ae (fun W (h:bA W bb L)=>Rl bb L W h hO);have HK:=ae (fun W h=>wV r A cap W hcap hcm h);have hr0:=ae (hr.on hb0);have hB0:=ae (hB.call hb0);generalize r.kept.length=m at *;generalize bE r=ck at *;clear hV hB hr;dsimp only [ai] at k0 hb0 V0 hB0 HK ⊢;go_enter func49,ntmps49;go_wp2_with fail;refine (HC.out _ V0).mono ?_;rintro e w1 ⟨n1,n2,n3,n4,n5,rfl,hb1⟩;have Oh:=hb1.trans (aV w1 (.cells #[.int .i64 n1,.int .i64 n2,.int .i64 n3,.int .i64 n4,.int .i64 n5] 106) |>.mono hb1.size);have k1:=k0.call Oh;have B1:=hb0.trans (Oh.mono hb0.size);have hr1:=hr0.out.on Oh;have hB1:=hB0.out.call Oh;obtain ⟨w1a,ahG⟩:∃x,w1.alloc (.cells #[.int .i64 n1,.int .i64 n2,.int .i64 n3,.int .i64 n4,.int .i64 n5] 106)=x:=⟨_,rfl⟩;rw [ahG] at k1 B1 hr1 hB1;clear hb1 Oh k0 hb0 hr0 hB0 V0 HC;go_wp2_with fail;refine (HO.out _ hB1).mono ?_;rintro e w2 ⟨⟨v,rfl⟩,hb2⟩;have k2:=k1.call hb2;have c2:=k2.cell;have B2:=B1.trans (hb2.mono B1.size);have hr2:=hr1.on hb2;clear HO hB1 k1 B1 hr1 hb2;go_wp2_with fail;refine (HK.out _ hr2).mono ?_;rintro e w3 ⟨rfl,hb3⟩;go_wp2_with fail;go_ret;exact ⟨rfl,B2.trans (hb3.mono B2.size)⟩
theorem Cm (p n k:Int) (w:World) :
  Calls prog 63 #[.agg #[.int .i64 p,.int .i64 n,.int .i64 k]] w fun e w'=>∃g,e= .returned (.slice (some ⟨g,0,none⟩) 1 1)∧RU w' w'.heap.size (some ⟨g,0,none⟩) [(k,n)]∧w.heap.size≤g∧Below w.heap.size w w':=by
 have hb0:=aV w (.cells #[.int .i64 p,.int .i64 n,.int .i64 k] 137);have k0:=ag.new w 137 #[.int .i64 p,.int .i64 n,.int .i64 k];have c0:=k0.cell;go_enter func63,ntmps63;go_wp2_with fail;go_ret;have kx:=ag.new (w.alloc (.cells #[.int .i64 p,.int .i64 n,.int .i64 k] 137)) 140 #[.int .i64 k,.int .i64 n];rw [World.size_alloc] at kx;exact ⟨w.heap.size+1,rfl,Fs kx,Nat.le_succ _,hb0.alloc hb0.size _⟩
theorem yB (A1 A2:Option Addr) (n1 c1 n2 c2:Nat) (us vs:List Sp) (w:World) (hn1:us.length=n1) (hm1:n1≤c1) (hc1:c1≤maxLen) (hr1:RU w w.heap.size A1 us) (hn2:vs.length=n2) (hm2:n2≤c2) (hc2:c2≤maxLen) (hr2:RU w w.heap.size A2 vs)
  (hU:Go.Pol.Can us) (hV:Go.Pol.Can vs) :
  Calls prog 62 #[.slice A1 n1 c1,.slice A2 n2 c2] w (nV w (setOf (us++vs)) 0):=by
 have hb0:=aV w (.cells #[.slice A1 n1 c1,.slice A2 n2 c2] 41);have k0:=ag.new w 41 #[.slice A1 n1 c1,.slice A2 n2 c2];have r1:=hr1.on (aV w (.cells #[.slice A1 n1 c1,.slice A2 n2 c2] 41));have r2:=hr2.on (aV w (.cells #[.slice A1 n1 c1,.slice A2 n2 c2] 41));have HC:=ae (yg A1 A2 n1 c1 n2 c2 us vs w.heap.size _ hn1 (Nat.le_trans hm1 hc1) r1 hn2 (Nat.le_trans hm2 hc2) r2 k0);rw [bP.2 hU,bP.2 hV,if_pos rfl] at HC;have hl1:=hU.len;have hl2:=hV.len;have hv:∀y∈us++vs,bB y=true:=fun y hy=>by
  rcases List.mem_append.1 hy with h|h
  ·exact hU.1 y h
  ·exact hV.1 y h
 clear hr1 hr2;go_enter func62,ntmps62;go_wp2_with fail;refine HC.out.mono ?_;rintro e w1 ⟨rfl,hb1⟩;have B1:=hb0.trans (hb1.mono hb0.size);have r3:=r1.on hb1;have r4:=r2.on hb1;clear HC k0 r1 r2;have hbX:=aV w1 (.cells #[.slice A1 n1 c1,.slice A2 n2 c2] 41);have kX:=ag.new w1 41 #[.slice A1 n1 c1,.slice A2 n2 c2];have HK:=ae (Jq A1 A2 n1 c1 n2 c2 us vs w1.heap.size _ hn1 (by omega) (r3.on hbX) hn2 (by omega) (r4.on hbX) kX);have B2:=B1.trans (hbX.mono B1.size);go_wp2_with fail;refine HK.out.mono ?_;rintro e w2 ⟨v,rfl,hrow,hb2⟩;have B3:=B2.trans (hb2.mono B2.size);have HO:=ae (NY _ v (us++vs) w2 hv (by rw [List.length_append];omega) hb2.size hrow);go_wp2_with fail;refine HO.out.mono ?_;rintro e w3 ⟨eG,v',hp,hs,rfl,hrow3,hb3⟩;have B4:=B3.trans (hb3.mono B2.size);obtain ⟨A,cap,rfl,gG,h1,h2⟩:=KeptAt.own hrow3 rfl;have hS:=Gl hv hp hs;go_wp2_with fail;go_ret2;rw [hS] at gG h1;exact ⟨A,cap,rfl,gG,h1,h2,B4⟩
theorem uH (A1 A2:Option Addr) (n1 c1 n2 c2:Nat) (us vs:List Sp) (w:World) (hn1:us.length=n1) (hm1:n1≤c1) (hc1:c1≤maxLen) (hr1:RU w w.heap.size A1 us) (hn2:vs.length=n2) (hm2:n2≤c2) (hc2:c2≤maxLen) (hr2:RU w w.heap.size A2 vs) (hU:Go.Pol.Can us) (hV:Go.Pol.Can vs) :
  Calls prog 51 #[.slice A1 n1 c1,.slice A2 n2 c2] w (nV w (ay us (aZ vs (0,1024))) 0):=by
 have hb0:=aV w (.cells #[.slice A1 n1 c1,.slice A2 n2 c2] 41);have k0:=ag.new w 41 #[.slice A1 n1 c1,.slice A2 n2 c2];have r1:=hr1.on (aV w (.cells #[.slice A1 n1 c1,.slice A2 n2 c2] 41));have r2:=hr2.on (aV w (.cells #[.slice A1 n1 c1,.slice A2 n2 c2] 41));have HC:=ae (yg A1 A2 n1 c1 n2 c2 us vs w.heap.size _ hn1 (Nat.le_trans hm1 hc1) r1 hn2 (Nat.le_trans hm2 hc2) r2 k0);clear hr1 hr2;rw [bP.2 hU,bP.2 hV,if_pos rfl] at HC;have hg:=hV.DU (i:=(0,1024)) (by decide);have hlen:=BO us (aZ vs (0,1024));have hl1:=hU.len;have hl2:=hg.1.len;have HG:=ae (fun W h=>Kj A2 n2 c2 vs 0 1024 W hn2 hm2 hc2 h hV (by decide));go_enter func51,ntmps51;go_wp2_with fail;refine HC.out.mono ?_;rintro e w1 ⟨rfl,hb1⟩;have B1:=hb0.trans (hb1.mono hb0.size);have r3:=r1.on hb1;have r4:=r2.on hb1;clear HC k0 r1 r2 hb1 hb0;generalize aZ vs (0,1024)=G at *;obtain ⟨gl,hgl⟩:=aj (G.length);rw [hgl] at HG;go_wp2_with fail;refine (HG.out _ r4).mono ?_;rintro e w2 ⟨A3,c3,rfl,r5,m3,x3,_,hb2⟩;have B2:=B1.trans (hb2.mono B1.size);have r6:=r3.on hb2;clear HG r3 r4;have kX:ag ((w2.alloc (.cells #[.slice A1 n1 c1] 41)).alloc (.cells #[.slice A3 gl c3] 41)) w2.heap.size 41 #[.slice A1 n1 c1]:=(ag.new _ _ _).alloc _;have kY:ag ((w2.alloc (.cells #[.slice A1 n1 c1] 41)).alloc (.cells #[.slice A3 gl c3] 41)) (w2.heap.size+1) 41 #[.slice A3 gl c3]:=by
  have:=ag.new (w2.alloc (.cells #[.slice A1 n1 c1] 41)) 41 #[.slice A3 gl c3];rw [World.size_alloc] at this;exact this
 have hbX:Below w2.heap.size w2 ((w2.alloc (.cells #[.slice A1 n1 c1] 41)).alloc (.cells #[.slice A3 gl c3] 41)):=(aV w2 _).alloc (by simp) _;have LA:Left _ w2.heap.size (fun k=>k<w2.heap.size+2) w2.heap.size (w2.heap.size+1) A1 n1 c1 us:=⟨hn1,hm1,by unfold maxLen at hc1;omega,r6.below hbX,fun h b o e=>by have:=Lv r6 h e;exact ⟨by omega,by omega,by omega⟩,hU.1⟩;have LB:Left _ w2.heap.size (fun k=>k<w2.heap.size+2) w2.heap.size (w2.heap.size+1) A3 gl c3 G:=⟨hgl,m3,by unfold maxLen at x3;omega,r5.below hbX,fun h b o e=>by have:=Lv r5 h e;exact ⟨by omega,by omega,by omega⟩,hg.1.1⟩;have HS:=ae (wG A1 A3 n1 c1 gl c3 us G w2.heap.size (w2.heap.size+1) w2.heap.size (fun k=>k<w2.heap.size+2) _ (by simp) (by simp) (by omega) kX kY LA LB);clear LA LB kX kY r5 r6 hg;generalize ay us G=L at *;have hlL:L.length≤1000000:=by omega
 go_wp2_with (first
  | (go_at_call 119;refine (x9 A1 A3 n1 c1 gl c3 w2).mono ?_;rintro e w3 ⟨rfl,rfl⟩)
  | (go_at_call 118;refine (qX _ _ _ _ _ _ hlL HS.out rX (fun k h=>by rcases h with rfl|rfl <;> (rw [World.size_alloc,World.size_alloc];omega)) (fun k h=>by simp;omega)).mono ?_;rintro e w4 ⟨v,rfl,hown,_,hf⟩;obtain ⟨A,cap,rfl,gG,h1,h2⟩:=KeptAt.own hown rfl))
 have B3:=B2.trans (hbX.mono B2.size);have B4:=hf.below (n:=w.heap.size) (by have:=B3.size;exact this) (fun k hk h=>by have:=B2.size;rcases h with rfl|rfl <;> omega);go_ret2;exact ⟨A,cap,rfl,gG,h1,h2,B3.trans B4⟩
theorem Em (r:Cr) (tt:Int) (A:Option Addr) (cap:Nat) (w:World) (hcap:r.kept.length≤cap) (hcm:cap≤maxLen) (hk:KeptAt w A r.kept) :
  Calls prog 40 #[.agg (ai r (.slice A r.kept.length cap)),.int .i64 tt] w fun e w'=>∃v,e= .returned (.tuple #[v,.int .i64 (iE r tt).2])∧Bj (iE r tt).1 w' v∧Below w.heap.size w w':=by
 have hr:=hk.ru;have HK:=ae (fun W h=>wV r A cap W hcap hcm h);have hR:∃R,iE r tt=R:=⟨_,rfl⟩;obtain ⟨R,hR⟩:=hR;rw [hR];unfold iE at hR;have hz:=@gB r;have hZ:bE r=0→0≤r.live∧r.live≤1024∧dX r.kept=0:=fun h=>⟨(hz.1 h).AU,Int.le_trans (hz.1 h).Dj (zm (hz.1 h).plan),bP.2 (hz.1 h).can⟩
 clear hz;generalize bE r=ck at *;obtain ⟨pg,n,f,bk,ev,node,live,K,cl⟩:=r;simp only at hcap hcm hr hk hR hZ HK ⊢;obtain ⟨m,hm0⟩:=aj (K.length);rw [hm0] at hcap HK ⊢;have hm:=ae hm0;have hb0:=below_alloc2 (aV w (.cells (ai ⟨pg,n,f,bk,ev,node,live,K,cl⟩ (.slice A m cap)) 43)) (.cells (ai bn (.slice none 0 0)) 43);have k0:=(ag.new w 43 (ai ⟨pg,n,f,bk,ev,node,live,K,cl⟩ (.slice A m cap))).dU (.cells (ai bn (.slice none 0 0)) 43);have kR:=ag.nL w (.cells (ai ⟨pg,n,f,bk,ev,node,live,K,cl⟩ (.slice A m cap)) 43) 43 (ai bn (.slice none 0 0));have hr0:=ae (hr.on hb0);dsimp only [ai,bn] at k0 hb0 kR hr0 HK ⊢;have gI:=ae hk;clear hm0 hr hk;by_cases h0:ck=0
 case neg =>
  have h0':(ck != 0)=true:=by simpa using h0
  rw [if_pos h0] at hR;subst hR;clear h0;go_enter func40,ntmps40;go_wp2_with fail;refine (HK.out _ hr0.out).mono ?_;rintro e w1 ⟨rfl,hb1⟩;have k1:=k0.call hb1;have aN:=kR.call hb1;have B1:=hb0.trans (hb1.mono hb0.size);have hr1:=hr0.out.on hb1;have c1:=k1.cell;have gY:=aN.cell;have gZ:=aN.frozen;clear HK k0 kR hb0 hr0 hb1;go_wp2_with fail;change bodyPost _ _ _ _ _ (aL w1 (w.heap.size+1) ⟨pg,n,f,bk,ev,node,live,K,cl⟩ (.slice A m cap));have aR:=aG aN ⟨pg,n,f,bk,ev,node,live,K,cl⟩ (.slice A m cap);have F9:=aH w1 (w.heap.size+1) ⟨pg,n,f,bk,ev,node,live,K,cl⟩ (.slice A m cap);have B9:=bW B1 (g:=(w.heap.size+1)) (by omega) ⟨pg,n,f,bk,ev,node,live,K,cl⟩ (.slice A m cap);generalize aL w1 (w.heap.size+1) ⟨pg,n,f,bk,ev,node,live,K,cl⟩ (.slice A m cap)=w9 at *;dsimp only [ai] at aR;have bV:=aR.cell;refine bodyPost_ret (v:=.tuple #[.agg (ai ⟨pg,n,f,bk,ev,node,live,K,cl⟩ (.slice A m cap)),.int .i64 ck]) (by simp [results,results40,go_sem,bV,ai]) rfl ?_;exact ⟨_,rfl,⟨A,cap,by rw [hm.out],by rw [hm.out];exact hcap,hcm,gI.out.call B9⟩,B9⟩
 subst h0;rw [if_neg (by simp)] at hR;by_cases h1:cl=true
 case pos =>
  subst h1;rw [if_pos rfl] at hR;subst hR;go_enter func40,ntmps40;go_wp2_with fail;refine (HK.out _ hr0.out).mono ?_;rintro e w1 ⟨rfl,hb1⟩;have k1:=k0.call hb1;have aN:=kR.call hb1;have B1:=hb0.trans (hb1.mono hb0.size);have hr1:=hr0.out.on hb1;have c1:=k1.cell;have gY:=aN.cell;have gZ:=aN.frozen;clear HK k0 kR hb0 hr0 hb1;go_wp2_with fail;change bodyPost _ _ _ _ _ (aL w1 (w.heap.size+1) ⟨pg,n,f,bk,ev,node,live,K,true⟩ (.slice A m cap));have aR:=aG aN ⟨pg,n,f,bk,ev,node,live,K,true⟩ (.slice A m cap);have F9:=aH w1 (w.heap.size+1) ⟨pg,n,f,bk,ev,node,live,K,true⟩ (.slice A m cap);have B9:=bW B1 (g:=(w.heap.size+1)) (by omega) ⟨pg,n,f,bk,ev,node,live,K,true⟩ (.slice A m cap);generalize aL w1 (w.heap.size+1) ⟨pg,n,f,bk,ev,node,live,K,true⟩ (.slice A m cap)=w9 at *;dsimp only [ai] at aR;have bV:=aR.cell;refine bodyPost_ret (v:=.tuple #[.agg (ai ⟨pg,n,f,bk,ev,node,live,K,true⟩ (.slice A m cap)),.int .i64 9]) (by simp [results,results40,go_sem,bV,ai]) rfl ?_;exact ⟨_,rfl,⟨A,cap,by rw [hm.out],by rw [hm.out];exact hcap,hcm,gI.out.call B9⟩,B9⟩
 have h1':cl=false:=by simpa using h1
 subst h1';rw [if_neg (by simp)] at hR;by_cases h2:tt<0
 case pos =>
  have h2':decide (tt<0)=true:=by simpa using h2
  rw [if_pos (.inl h2)] at hR;subst hR;clear h2;go_enter func40,ntmps40;go_wp2_with fail;refine (HK.out _ hr0.out).mono ?_;rintro e w1 ⟨rfl,hb1⟩;have k1:=k0.call hb1;have aN:=kR.call hb1;have B1:=hb0.trans (hb1.mono hb0.size);have hr1:=hr0.out.on hb1;have c1:=k1.cell;have gY:=aN.cell;have gZ:=aN.frozen;clear HK k0 kR hb0 hr0 hb1;go_wp2_with fail;change bodyPost _ _ _ _ _ (aL w1 (w.heap.size+1) ⟨pg,n,f,bk,ev,node,live,K,false⟩ (.slice A m cap));have aR:=aG aN ⟨pg,n,f,bk,ev,node,live,K,false⟩ (.slice A m cap);have F9:=aH w1 (w.heap.size+1) ⟨pg,n,f,bk,ev,node,live,K,false⟩ (.slice A m cap);have B9:=bW B1 (g:=(w.heap.size+1)) (by omega) ⟨pg,n,f,bk,ev,node,live,K,false⟩ (.slice A m cap);generalize aL w1 (w.heap.size+1) ⟨pg,n,f,bk,ev,node,live,K,false⟩ (.slice A m cap)=w9 at *;dsimp only [ai] at aR;have bV:=aR.cell;refine bodyPost_ret (v:=.tuple #[.agg (ai ⟨pg,n,f,bk,ev,node,live,K,false⟩ (.slice A m cap)),.int .i64 7]) (by simp [results,results40,go_sem,bV,ai]) rfl ?_;exact ⟨_,rfl,⟨A,cap,by rw [hm.out],by rw [hm.out];exact hcap,hcm,gI.out.call B9⟩,B9⟩
 have h2':decide (tt<0)=false:=by simpa using h2
 by_cases h3:live<tt
 case pos =>
  have h3':decide (live<tt)=true:=by simpa using h3
  rw [if_pos (.inr h3)] at hR;subst hR;clear h2 h3;go_enter func40,ntmps40;go_wp2_with fail;refine (HK.out _ hr0.out).mono ?_;rintro e w1 ⟨rfl,hb1⟩;have k1:=k0.call hb1;have aN:=kR.call hb1;have B1:=hb0.trans (hb1.mono hb0.size);have hr1:=hr0.out.on hb1;have c1:=k1.cell;have gY:=aN.cell;have gZ:=aN.frozen;clear HK k0 kR hb0 hr0 hb1;go_wp2_with fail;change bodyPost _ _ _ _ _ (aL w1 (w.heap.size+1) ⟨pg,n,f,bk,ev,node,live,K,false⟩ (.slice A m cap));have aR:=aG aN ⟨pg,n,f,bk,ev,node,live,K,false⟩ (.slice A m cap);have F9:=aH w1 (w.heap.size+1) ⟨pg,n,f,bk,ev,node,live,K,false⟩ (.slice A m cap);have B9:=bW B1 (g:=(w.heap.size+1)) (by omega) ⟨pg,n,f,bk,ev,node,live,K,false⟩ (.slice A m cap);generalize aL w1 (w.heap.size+1) ⟨pg,n,f,bk,ev,node,live,K,false⟩ (.slice A m cap)=w9 at *;dsimp only [ai] at aR;have bV:=aR.cell;refine bodyPost_ret (v:=.tuple #[.agg (ai ⟨pg,n,f,bk,ev,node,live,K,false⟩ (.slice A m cap)),.int .i64 7]) (by simp [results,results40,go_sem,bV,ai]) rfl ?_;exact ⟨_,rfl,⟨A,cap,by rw [hm.out],by rw [hm.out];exact hcap,hcm,gI.out.call B9⟩,B9⟩
 have h3':decide (live<tt)=false:=by simpa using h3
 rw [if_neg (by omega)] at hR;obtain ⟨z1,z2,z3⟩:=hZ rfl;have jN:=bP.1 z3;have zK:Go.Pol.Can (bG tt live):=lZ (by omega) (by omega);have HB:=ae (fun W=>wW tt live W (by omega) (by omega));have HU:=ae (fun W (A2:Option Addr) (c2:Nat) h1 h2 h3 h4=>yB A A2 m cap (bG tt live).length c2 K (bG tt live) W hm.out hcap hcm h1 rfl h2 h3 h4 jN zK);generalize hS:setOf (K++bG tt live)=S2 at *;clear h1 h2 h3 hZ z3 hS jN zK;generalize bG tt live=L2 at *;subst hR;go_enter func40,ntmps40;go_wp2_with fail;refine (HK.out _ hr0.out).mono ?_;rintro e w1 ⟨rfl,hb1⟩;have k1:=k0.call hb1;have aN:=kR.call hb1;have B1:=hb0.trans (hb1.mono hb0.size);have hr1:=hr0.out.on hb1;have c1:=k1.cell;have gY:=aN.cell;have gZ:=aN.frozen;clear HK k0 kR hb0 hr0 hb1;go_upto_region 8 with fail
 have hS:GD w.heap.size live (.slice A m cap) w1:=⟨k1.cell 6,k1.cell 7⟩;have Oi:=k1.call ((Below.refl _ w1).drew);have acg:=aN.call ((Below.refl _ w1).drew);have Oj:=B1.trans ((Below.refl w1.heap.size w1).drew.mono B1.size);have Ol:=ae (hr1.on (Below.refl _ w1).drew);have hS:=hS.call ((Below.refl _ w1).drew);refine bO ?_;refine bD (GD w.heap.size live (.slice A m cap)) [8,9,10,11] (by kernel_rfl) ?_;generalize w1.drew=wd at *;clear k1 aN B1 hr1 c1 gY gZ;refine aX 0 hS ?_;refine aX 1 hS ?_;refine aX 2 hS ?_;refine aX 3 hS ?_;refine aX 4 hS ?_;refine fu 5 fun K hK=>?_
 go_simp;refine (HB.out wd).mono ?_;rintro (e w2 ⟨A2,c2,rfl,En,hl2,hc2,_,hb2⟩);refine hK.out _ _ (fun _=>hS.call hb2) (fun hS=>?_);clear hK K;replace hS:=hS rfl;try simp only [Act.put,gM,gN,gP]
 have k2:=Oi.call hb2;have bT:=acg.call hb2;have B2:=Oj.trans (hb2.mono Oj.size);have hr2:=Ol.out.on hb2;refine fu 6 fun K hK=>?_
 go_simp;refine (HU.out w2 A2 c2 hr2 hl2 hc2 En).mono ?_;rintro (e w3 ⟨A3,c3,rfl,xI,hl3,hc3,hb3⟩);refine hK.out _ _ (fun _=>hS.call hb3) (fun hS=>?_);clear hK K;replace hS:=hS rfl;try simp only [Act.put,gM,gN,gP]
 have k3:=k2.call hb3;have eZ:=bT.call hb3;have B3:=B2.trans (hb3.mono B2.size);clear HB HU En hl2 Oi acg Oj Ol k2 bT B2 hr2;refine aX 7 hS ?_;refine fD 8 ?_;refine fD 9 ?_;refine fD 10 ?_;have c3x:=k3.cell;have f3x:=k3.frozen;refine fu 11 fun K hK=>?_
 go_simp;refine hK.out _ _ (fun h=>absurd h (by decide)) (fun _=>?_);clear hK K;refine bz (by kernel_rfl) ?_ _;refine aT ?_;have k3H:=ae k3;have ahH:=ae eZ;have k4:=k3.aO 7 (.slice A3 S2.length c3);have dI:=eZ.far (p:=⟨w.heap.size,7,none⟩) (by show w.heap.size+1≠w.heap.size;omega) (.slice A3 S2.length c3);have B4:=B3.setCell (p:=⟨w.heap.size,7,none⟩) (Nat.le_refl _) (.slice A3 S2.length c3);have F4:=(af.refl (fun k=>k=w.heap.size∨k=w.heap.size+1) w3).setCell (p:=⟨w.heap.size,7,none⟩) (fun _=>.inl rfl) (.slice A3 S2.length c3);generalize w3.setCell ⟨w.heap.size,7,none⟩ (.slice A3 S2.length c3)=w4 at *;simp only [List.setIfInBounds_toArray,List.set_cons_zero,List.set_cons_succ] at k4;have c4:=k4.cell;have JA:=dI.cell;have JB:=dI.frozen;have f4:=k4.frozen;clear k3 eZ B3 hS c3x f3x;go_wp2_with fail;change bodyPost _ _ _ _ _ (aL (w4.setCell ⟨w.heap.size,6,none⟩ (.int .i64 tt)) (w.heap.size+1) ⟨pg,n,f,bk,ev,node,tt,S2,false⟩ (.slice A3 S2.length c3));have aR:=aG (dI.far (p:=⟨w.heap.size,6,none⟩) (by show w.heap.size+1≠w.heap.size;omega) (.int .i64 tt)) ⟨pg,n,f,bk,ev,node,tt,S2,false⟩ (.slice A3 S2.length c3);have F9:=aH (w4.setCell ⟨w.heap.size,6,none⟩ (.int .i64 tt)) (w.heap.size+1) ⟨pg,n,f,bk,ev,node,tt,S2,false⟩ (.slice A3 S2.length c3);have B9:=bW (B4.setCell (p:=⟨w.heap.size,6,none⟩) (Nat.le_refl _) (.int .i64 tt)) (g:=(w.heap.size+1)) (by omega) ⟨pg,n,f,bk,ev,node,tt,S2,false⟩ (.slice A3 S2.length c3);generalize aL (w4.setCell ⟨w.heap.size,6,none⟩ (.int .i64 tt)) (w.heap.size+1) ⟨pg,n,f,bk,ev,node,tt,S2,false⟩ (.slice A3 S2.length c3)=w9 at *;dsimp only [ai] at aR;have bV:=aR.cell;refine bodyPost_ret (v:=.tuple #[.agg (ai ⟨pg,n,f,bk,ev,node,tt,S2,false⟩ (.slice A3 S2.length c3)),.int .i64 0]) (by simp [results,results40,go_sem,bV,ai]) rfl ?_;have F6:=((F4.setCell (p:=⟨w.heap.size,6,none⟩) (fun _=>.inl rfl) (.int .i64 tt)).trans (F9.mono (fun k _ hk=>.inr hk)));exact ⟨_,rfl,⟨A3,c3,rfl,hl3,hc3,xI.far F6 (fun g cs hg=>by rintro (rfl|rfl);exact k3H.out.ne hg;exact ahH.out.ne hg)⟩,B9⟩
theorem JC (A:Option Addr) (n cap:Nat) (w:World) :
  Calls prog 56 #[.slice A n cap] w fun e w'=>e= .returned (.func (.func 123) #[] #[.pointer (some ⟨w.heap.size,0,none⟩)])∧w'=w.alloc (.cells #[.slice A n cap] 129):=by
 go_enter func56,ntmps56
 go_wp2
 go_ret;exact ⟨by simp,rfl⟩
theorem Cn:∀args w,(callFunc 123 args).run prog w= .ok (.enter 123 args) w:=enters_of func123 (by kernel_rfl) rfl
theorem GH (tE:TypeId) (B1:Nat) (A:Option Addr) (n cap:Nat) (fv:Nat→Value) (K:Nat→Prop) (w:World) (hK1:K B1) (hn:n≤1000000) (k1:ag w B1 129 #[.slice A n cap]) (hA:GG w A K fv n) :
  Ud prog tE 123 #[.pointer (some ⟨B1,0,none⟩)] bkA K (mh fv n) w:=by
 intro m l J Jx W hW hJ hJx hY h0;have Rm:=hW.blk k1 (by simpa using hK1);have hAW:=hA.far hW (fun k hk h=>h hk);clear k1 hW hA;refine callsIn_of_wp func123 rfl trivial ?_ rfl;simp only [ntmps123,List.size_toArray,List.length_cons,List.length_nil,Nat.reduceAdd,Nat.reduceSub,Array.replicate_succ,Array.replicate_zero,List.push_toArray,List.append_toArray,List.nil_append,List.cons_append];have c1:=Rm.cell;have hw0:IntKind.i64.wrap ((n:Int) - 1)=(n:Int) - 1:=by rw [IntKind.wrap_i64];omega
 gi_wp2_with fail
 gi_loopw [3] (fun v wr=>∃(j:Nat) (pre:List VS),j≤n∧v= .int .i64 ((j:Int) - 1)∧J pre wr∧Hid (pre++mh fv j=mh fv n)∧ag wr B1 129 #[.slice A n cap]∧GG wr A K fv n) (fun v _=>(intOf v+1).toNat)
 case atStart=>exact ⟨n,[],Nat.le_refl _,rfl,h0,ae rfl,Rm,hAW⟩
 case round =>
  clear h0 Rm hAW c1;obtain ⟨j,pre,hj,rfl,hJs,hpre,k1,hA⟩:=hrel;have c1:=k1.cell;by_cases hlt:0<j
  ·obtain ⟨i,rfl⟩:∃i,j=i+1:=⟨j - 1,by omega⟩
   have hi:((i+1:Nat):Int) - 1=(i:Int):=by omega
   simp only [hi];have hlt':decide (0≤(i:Int))=true:=by simp
   obtain ⟨g,rfl,hKg,hc⟩:=hA i (by omega);have hin:i<n:=by omega
   have Yt:Hid ((pre++[(i,fv i)])++mh fv i=mh fv n):=ae (by rw [←hpre.out];simp [mh]);have hpx:Hid (pre++[(i,fv i)] <+: mh fv n):=ae ⟨_,Yt.out⟩;have hw1:IntKind.i64.wrap ((i:Int) - 1)=(i:Int) - 1:=by rw [IntKind.wrap_i64];omega
   obtain ⟨fn,tmps,assign,body,hy,qA⟩:=hY (m - 1) (fun _=>False) pre (i,fv i) wr hJs (fun _ h=>h.elim) hpx.out;simp only [bkA] at hy;generalize fv i=fi at *;clear hY hJx
   gi_wp2_with fail
   refine qA.mono ?_;rintro e W4 (⟨rfl,Jy,iI⟩|⟨rfl,GI⟩)
   ·have k14:=iI.blk k1 (fun h=>h (.inl hK1))
    have hA4:=hA.far iI (fun k hk h=>h (.inl hk))
    gi_wp2_with fail
    go_roundw
    case rel=>exact ⟨i,_,by omega,rfl,Jy,Yt,k14,hA4⟩
    case measure=>simp [intOf]
   ·gi_wp2_with fail
    refine bodyPost_ret (results_none rfl _ _ _) rfl ?_;exact ⟨⟨_,rfl⟩,.inr ⟨_,hpx.out,GI⟩⟩
  ·obtain rfl:j=0:=by omega
   have hlt':decide (0≤((0:Nat):Int) - 1)=false:=by decide
   have hE:Hid (pre=mh fv n):=ae (by have:=hpre.out;simpa [mh] using this)
   gi_wp2_with fail
   go_end0
   exact ⟨⟨_,rfl⟩,.inl (by rw [←hE.out];exact hJs)⟩
def bX (V:Vm) (L:List Nd) (r:Cr) (k:Int):Cr×Int×Vm×List Nd :=
 if bE r≠0 then (r,bE r,V,L)
 else if ¬(lq r.kept (k,1)=0∧(aZ r.kept (k,1)).isEmpty=true) then (r,4,V,L)
 else
  let J:=bJ V (lu (aA r.pg r.n r.f r.bk r.ev) k).1 1 3 2 1
  if J.1≠0 then (r,J.1,J.2,L) else ({ r with kept:=ay r.kept (aZ [(k,1)] (0,1024)) },0,J.2,(iT L r.node.toNat 1).2)
theorem Bl (bs bb:Nat) (V:Vm) (L:List Nd) (r:Cr) (k:Int) (A:Option Addr) (cap:Nat) (w:World) (hV:aD w bs V) (xU:aQ V) (hB:bA w bb L) (hO:bg L) (hnl:bE r=0→r.node.toNat<L.length) (hcap:r.kept.length≤cap) (hcm:cap≤maxLen) (hk:KeptAt w A r.kept) (hk0 : -9223372036854775808≤k) (hk1:k≤9223372036854775807) :
  Calls prog 20 #[.pointer (some ⟨bs,0,none⟩),.pointer (some ⟨bb,0,none⟩),.agg (ai r (.slice A r.kept.length cap)),.int .i64 k] w fun e w'=>∃v,e= .returned (.tuple #[v,.int .i64 (bX V L r k).2.1])∧Bj (bX V L r k).1 w' v∧aS bs bb (bX V L r k).2.2.1 (bX V L r k).2.2.2 w w':=by
 have hr:=hk.ru;have HK:=ae (fun W (h1:aD W bs V) (h2:bA W bb L) (h3:RU W W.heap.size A r.kept)=>Bi bs bb V L r A cap W h1 xU h2 hO hcap hcm h3);obtain ⟨R,hR⟩:=aj (bX V L r k);rw [hR];unfold bX at hR;have hz:=@gB r;have hZ:bE r=0→0≤r.node∧bN r.pg r.n r.f r.bk r.ev=0∧dX r.kept=0∧r.node.toNat<L.length:=fun h=>⟨(hz.1 h).node.1,bU.2 (hz.1 h).plan,bP.2 (hz.1 h).can,hnl h⟩
 clear hz hnl;generalize bE r=ck at *;obtain ⟨pg,n,f,bk,ev,node,live,K,cl⟩:=r;simp only at hcap hcm hr hk hR hZ HK ⊢;obtain ⟨m,hm0⟩:=aj (K.length);rw [hm0] at hcap HK ⊢;have hm:=ae hm0;have hb0:=below_alloc2 (aV w (.cells (ai ⟨pg,n,f,bk,ev,node,live,K,cl⟩ (.slice A m cap)) 43)) (.cells (ai bn (.slice none 0 0)) 43);have k0:=(ag.new w 43 (ai ⟨pg,n,f,bk,ev,node,live,K,cl⟩ (.slice A m cap))).dU (.cells (ai bn (.slice none 0 0)) 43);have kR:=ag.nL w (.cells (ai ⟨pg,n,f,bk,ev,node,live,K,cl⟩ (.slice A m cap)) 43) 43 (ai bn (.slice none 0 0));have hr0:=ae (hr.on hb0);dsimp only [ai,bn] at k0 hb0 kR hr0 HK ⊢;have gI:=ae hk;clear hm0 hr hk;by_cases h0:ck=0
 case neg =>
  have h0':(ck != 0)=true:=by simpa using h0
  rw [if_pos h0] at hR;subst hR;clear h0 hZ;go_enter func20,ntmps20;go_wp2_with fail;refine (HK.out _ (hV.call hb0) (hB.call hb0) hr0.out).mono ?_;rintro e w1 ⟨rfl,hb1⟩;have k1:=k0.call hb1;have aN:=kR.call hb1;have B1:=hb0.trans (hb1.mono hb0.size);have hr1:=hr0.out.on hb1;have c1:=k1.cell;have gY:=aN.cell;have gZ:=aN.frozen;clear HK k0 kR hb0 hr0 hb1;go_wp2_with fail;change bodyPost _ _ _ _ _ (aL w1 (w.heap.size+1) ⟨pg,n,f,bk,ev,node,live,K,cl⟩ (.slice A m cap));have aR:=aG aN ⟨pg,n,f,bk,ev,node,live,K,cl⟩ (.slice A m cap);have F9:=aH w1 (w.heap.size+1) ⟨pg,n,f,bk,ev,node,live,K,cl⟩ (.slice A m cap);have B9:=bW B1 (g:=(w.heap.size+1)) (by omega) ⟨pg,n,f,bk,ev,node,live,K,cl⟩ (.slice A m cap);generalize aL w1 (w.heap.size+1) ⟨pg,n,f,bk,ev,node,live,K,cl⟩ (.slice A m cap)=w9 at *;dsimp only [ai] at aR;have bV:=aR.cell;refine bodyPost_ret (v:=.tuple #[.agg (ai ⟨pg,n,f,bk,ev,node,live,K,cl⟩ (.slice A m cap)),.int .i64 ck]) (by simp [results,results20,go_sem,bV,ai]) rfl ?_;exact ⟨_,rfl,⟨A,cap,by rw [hm.out],by rw [hm.out];exact hcap,hcm,gI.out.call B9⟩,.below hV hB B9⟩
 subst h0;rw [if_neg (by simp)] at hR;obtain ⟨z1,z2,z3,z4⟩:=hZ rfl;have HH:=ae (fun W h=>XJ A m cap K k 1 W hm.out hcap hcm h);by_cases h1:lq K (k,1)=0∧(aZ K (k,1)).isEmpty=true
 case neg =>
  rw [if_pos h1] at hR;subst hR;obtain ⟨ak,hak⟩:=aj (lq K (k,1));obtain ⟨ie,hie⟩:=aj ((aZ K (k,1)).isEmpty);rw [hak,hie] at h1 HH;clear hak hie hZ z2 z3;by_cases h2:ak=0
  ·subst h2
   have h3:ie=false:=by simpa using h1
   subst h3;go_enter func20,ntmps20;go_wp2_with fail;refine (HK.out _ (hV.call hb0) (hB.call hb0) hr0.out).mono ?_;rintro e w1 ⟨rfl,hb1⟩;have k1:=k0.call hb1;have aN:=kR.call hb1;have B1:=hb0.trans (hb1.mono hb0.size);have hr1:=hr0.out.on hb1;have c1:=k1.cell;have gY:=aN.cell;have gZ:=aN.frozen;clear HK k0 kR hb0 hr0 hb1;have hbX:=aV w1 (.cells #[.int .i64 k,.int .i64 1] 140);have kX:=ag.new w1 140 #[.int .i64 k,.int .i64 1];obtain ⟨gx,hgx⟩:=aj (w1.heap.size);rw [hgx] at kX;have Bo:=k1.call hbX;have nW:=aN.call hbX;have BX:=B1.trans (hbX.mono B1.size);have Bp:=hr1.on hbX;have cX:=kX.cell;have Ro:=Bo.cell;go_upto_region 5 with fail
   generalize w1.alloc _=wx at *;go_wp2_with fail;refine (HH.out _ Bp).mono ?_;rintro e w2 ⟨rfl,hb2⟩;have k2:=Bo.call hb2;have bT:=nW.call hb2;have gp:=kX.call hb2;have B2:=BX.trans (hb2.mono BX.size);have hr2:=Bp.on hb2;have c2:=k2.cell;have qE:=bT.cell;have qF:=bT.frozen;have Nt:=gp.cell;clear k1 aN B1 hr1 c1 gY gZ hb2 hbX kX Bo nW BX Bp cX Ro HH;go_wp2_with fail;change bodyPost _ _ _ _ _ (aL w2 (w.heap.size+1) ⟨pg,n,f,bk,ev,node,live,K,cl⟩ (.slice A m cap));have aR:=aG bT ⟨pg,n,f,bk,ev,node,live,K,cl⟩ (.slice A m cap);have F9:=aH w2 (w.heap.size+1) ⟨pg,n,f,bk,ev,node,live,K,cl⟩ (.slice A m cap);have B9:=bW B2 (g:=(w.heap.size+1)) (by omega) ⟨pg,n,f,bk,ev,node,live,K,cl⟩ (.slice A m cap);generalize aL w2 (w.heap.size+1) ⟨pg,n,f,bk,ev,node,live,K,cl⟩ (.slice A m cap)=w9 at *;dsimp only [ai] at aR;have bV:=aR.cell;refine bodyPost_ret (v:=.tuple #[.agg (ai ⟨pg,n,f,bk,ev,node,live,K,cl⟩ (.slice A m cap)),.int .i64 4]) (by simp [results,results20,go_sem,bV,ai]) rfl ?_;exact ⟨_,rfl,⟨A,cap,by rw [hm.out],by rw [hm.out];exact hcap,hcm,gI.out.call B9⟩,.below hV hB B9⟩
  ·have h2':(ak != 0)=true:=by simpa using h2
   have anH:decide (ak=0)=false:=by simpa using h2
   clear h1 h2;go_enter func20,ntmps20;go_wp2_with fail;refine (HK.out _ (hV.call hb0) (hB.call hb0) hr0.out).mono ?_;rintro e w1 ⟨rfl,hb1⟩;have k1:=k0.call hb1;have aN:=kR.call hb1;have B1:=hb0.trans (hb1.mono hb0.size);have hr1:=hr0.out.on hb1;have c1:=k1.cell;have gY:=aN.cell;have gZ:=aN.frozen;clear HK k0 kR hb0 hr0 hb1;have hbX:=aV w1 (.cells #[.int .i64 k,.int .i64 1] 140);have kX:=ag.new w1 140 #[.int .i64 k,.int .i64 1];obtain ⟨gx,hgx⟩:=aj (w1.heap.size);rw [hgx] at kX;have Bo:=k1.call hbX;have nW:=aN.call hbX;have BX:=B1.trans (hbX.mono B1.size);have Bp:=hr1.on hbX;have cX:=kX.cell;have Ro:=Bo.cell;go_upto_region 5 with fail
   generalize w1.alloc _=wx at *;go_wp2_with fail;refine (HH.out _ Bp).mono ?_;rintro e w2 ⟨rfl,hb2⟩;have k2:=Bo.call hb2;have bT:=nW.call hb2;have gp:=kX.call hb2;have B2:=BX.trans (hb2.mono BX.size);have hr2:=Bp.on hb2;have c2:=k2.cell;have qE:=bT.cell;have qF:=bT.frozen;have Nt:=gp.cell;clear k1 aN B1 hr1 c1 gY gZ hb2 hbX kX Bo nW BX Bp cX Ro HH;go_wp2_with fail;change bodyPost _ _ _ _ _ (aL w2 (w.heap.size+1) ⟨pg,n,f,bk,ev,node,live,K,cl⟩ (.slice A m cap));have aR:=aG bT ⟨pg,n,f,bk,ev,node,live,K,cl⟩ (.slice A m cap);have F9:=aH w2 (w.heap.size+1) ⟨pg,n,f,bk,ev,node,live,K,cl⟩ (.slice A m cap);have B9:=bW B2 (g:=(w.heap.size+1)) (by omega) ⟨pg,n,f,bk,ev,node,live,K,cl⟩ (.slice A m cap);generalize aL w2 (w.heap.size+1) ⟨pg,n,f,bk,ev,node,live,K,cl⟩ (.slice A m cap)=w9 at *;dsimp only [ai] at aR;have bV:=aR.cell;refine bodyPost_ret (v:=.tuple #[.agg (ai ⟨pg,n,f,bk,ev,node,live,K,cl⟩ (.slice A m cap)),.int .i64 4]) (by simp [results,results20,go_sem,bV,ai]) rfl ?_;exact ⟨_,rfl,⟨A,cap,by rw [hm.out],by rw [hm.out];exact hcap,hcm,gI.out.call B9⟩,.below hV hB B9⟩
 rw [if_neg (by simpa using h1)] at hR;obtain ⟨h1,h2⟩:=h1;rw [h1,h2] at HH;have HN:=ae (fun W=>XG pg n f bk ev k W hk0 hk1 (lu (aA pg n f bk ev) k) (by rw [if_pos z2]));obtain ⟨pn,hpn⟩:=aj (lu (aA pg n f bk ev) k);rw [hpn] at HN hR;obtain ⟨pn,pe⟩:=pn;have HD:=ae (fun W h=>uV bs pn 1 V W h);obtain ⟨J,hJ⟩:=aj (bJ V pn 1 3 2 1);simp only [hJ] at hR;rw [hJ] at HD;obtain ⟨je,jV⟩:=J;clear hpn hJ;simp only at hR HD HN;by_cases h3:je=0
 case neg =>
  have h3':(je != 0)=true:=by simpa using h3
  rw [if_pos h3] at hR;subst hR;clear h3 h1 h2 hZ z2 z3;go_enter func20,ntmps20;go_wp2_with fail;refine (HK.out _ (hV.call hb0) (hB.call hb0) hr0.out).mono ?_;rintro e w1 ⟨rfl,hb1⟩;have k1:=k0.call hb1;have aN:=kR.call hb1;have B1:=hb0.trans (hb1.mono hb0.size);have hr1:=hr0.out.on hb1;have c1:=k1.cell;have gY:=aN.cell;have gZ:=aN.frozen;clear HK k0 kR hb0 hr0 hb1;have hbX:=aV w1 (.cells #[.int .i64 k,.int .i64 1] 140);have kX:=ag.new w1 140 #[.int .i64 k,.int .i64 1];obtain ⟨gx,hgx⟩:=aj (w1.heap.size);rw [hgx] at kX;have Bo:=k1.call hbX;have nW:=aN.call hbX;have BX:=B1.trans (hbX.mono B1.size);have Bp:=hr1.on hbX;have cX:=kX.cell;have Ro:=Bo.cell;go_upto_region 5 with fail
  generalize w1.alloc _=wx at *;go_wp2_with fail;refine (HH.out _ Bp).mono ?_;rintro e w2 ⟨rfl,hb2⟩;have k2:=Bo.call hb2;have bT:=nW.call hb2;have gp:=kX.call hb2;have B2:=BX.trans (hb2.mono BX.size);have hr2:=Bp.on hb2;have c2:=k2.cell;have qE:=bT.cell;have qF:=bT.frozen;have Nt:=gp.cell;clear k1 aN B1 hr1 c1 gY gZ hb2 hbX kX Bo nW BX Bp cX Ro HH;have VV2:=hV.call B2;have BB2:=hB.call B2;go_wp2_with fail;refine (HN.out _).mono ?_;rintro e w3 ⟨rfl,hb3⟩;have k3:=k2.call hb3;have eZ:=bT.call hb3;have kv:=gp.call hb3;have B3:=B2.trans (hb3.mono B2.size);have T3:=aS.below hV hB B3;go_wp2_with fail;refine (HD.out _ T3.sys).mono ?_;rintro e w4 ⟨rfl,h4⟩;have S4:=aS.iK T3.sys T3.eD h4;have T4:=T3.trans S4;have k4:=S4.blk T3.sys k3;have dI:=S4.blk T3.sys eZ;have qG:=S4.blk T3.sys kv;have c4:=k4.cell;have JA:=dI.cell;have JB:=dI.frozen;have cx4:=qG.cell;clear k2 bT gp hr2 c2 qE qF Nt VV2 BB2 HN HD k3 eZ kv hb3 h4;go_wp2_with fail;change bodyPost _ _ _ _ _ (aL w4 (w.heap.size+1) ⟨pg,n,f,bk,ev,node,live,K,cl⟩ (.slice A m cap));have aR:=aG dI ⟨pg,n,f,bk,ev,node,live,K,cl⟩ (.slice A m cap);have F9:=aH w4 (w.heap.size+1) ⟨pg,n,f,bk,ev,node,live,K,cl⟩ (.slice A m cap);generalize aL w4 (w.heap.size+1) ⟨pg,n,f,bk,ev,node,live,K,cl⟩ (.slice A m cap)=w9 at *;dsimp only [ai] at aR;have bV:=aR.cell;refine bodyPost_ret (v:=.tuple #[.agg (ai ⟨pg,n,f,bk,ev,node,live,K,cl⟩ (.slice A m cap)),.int .i64 je]) (by simp [results,results20,go_sem,bV,ai]) rfl ?_;have T9:=T4.fresh F9 (fun k hk=>by subst hk;omega) (fun k hk=>by subst hk;exact ⟨_,_,dI,by decide,by decide,by decide,by decide⟩);exact ⟨_,rfl,⟨A,cap,by rw [hm.out],by rw [hm.out];exact hcap,hcm,T9.kept hV gI.out⟩,T9⟩
 subst h3;rw [if_neg (by simp)] at hR;have jN:=bP.1 z3;have hv:bB (k,1)=true:=by
  unfold lq at h1;rw [if_pos z3] at h1;by_cases h:bB (k,1)=true
  ·exact h
  ·rw [if_neg h] at h1;cases h1
 have HM:=ae (fun W A2 h h2=>uH A A2 m cap 1 1 K [(k,1)] W hm.out hcap hcm h rfl (Nat.le_refl _) (by unfold maxLen;omega) h2 jN (Can.one hv));obtain ⟨nn,rfl⟩:∃nn:Nat,node=nn:=⟨node.toNat,by omega⟩;rw [Int.toNat_natCast] at hR z4;have HG:=ae (fun W h=>Bh bb nn 1 L W h hO z4);generalize iT L nn 1=G at *;generalize ay K (aZ [(k,1)] (0,1024))=K2 at *;subst hR;clear h1 h2 hZ z2 z3 hv jN;go_enter func20,ntmps20;go_wp2_with fail;refine (HK.out _ (hV.call hb0) (hB.call hb0) hr0.out).mono ?_;rintro e w1 ⟨rfl,hb1⟩;have k1:=k0.call hb1;have aN:=kR.call hb1;have B1:=hb0.trans (hb1.mono hb0.size);have hr1:=hr0.out.on hb1;have c1:=k1.cell;have gY:=aN.cell;have gZ:=aN.frozen;clear HK k0 kR hb0 hr0 hb1;have hbX:=aV w1 (.cells #[.int .i64 k,.int .i64 1] 140);have kX:=ag.new w1 140 #[.int .i64 k,.int .i64 1];obtain ⟨gx,hgx⟩:=aj (w1.heap.size);rw [hgx] at kX;have Bo:=k1.call hbX;have nW:=aN.call hbX;have BX:=B1.trans (hbX.mono B1.size);have Bp:=hr1.on hbX;have cX:=kX.cell;have Ro:=Bo.cell;go_upto_region 5 with fail
 generalize w1.alloc _=wx at *;go_wp2_with fail;refine (HH.out _ Bp).mono ?_;rintro e w2 ⟨rfl,hb2⟩;have k2:=Bo.call hb2;have bT:=nW.call hb2;have gp:=kX.call hb2;have B2:=BX.trans (hb2.mono BX.size);have hr2:=Bp.on hb2;have c2:=k2.cell;have qE:=bT.cell;have qF:=bT.frozen;have Nt:=gp.cell;clear k1 aN B1 hr1 c1 gY gZ hb2 hbX kX Bo nW BX Bp cX Ro HH;have VV2:=hV.call B2;have BB2:=hB.call B2;go_wp2_with fail;refine (HN.out _).mono ?_;rintro e w3 ⟨rfl,hb3⟩;have k3:=k2.call hb3;have eZ:=bT.call hb3;have kv:=gp.call hb3;have B3:=B2.trans (hb3.mono B2.size);have T3:=aS.below hV hB B3;go_wp2_with fail;refine (HD.out _ T3.sys).mono ?_;rintro e w4 ⟨rfl,h4⟩;have S4:=aS.iK T3.sys T3.eD h4;have T4:=T3.trans S4;have k4:=S4.blk T3.sys k3;have dI:=S4.blk T3.sys eZ;have qG:=S4.blk T3.sys kv;have c4:=k4.cell;have JA:=dI.cell;have JB:=dI.frozen;have cx4:=qG.cell;clear k2 bT gp hr2 c2 qE qF Nt VV2 BB2 HN HD k3 eZ kv hb3 h4;have hk4:=T4.kept hV gI.out;go_wp2_with fail;refine (HG.out _ T4.eD).mono ?_;rintro e w5 ⟨rfl,h5⟩;have S5:=aS.mi T4.sys h5;have T5:=T4.trans S5;have k5:=S5.blk T4.sys k4;have mJ:=S5.blk T4.sys dI;have l6:=S5.blk T4.sys qG;have hk5:=S5.kept T4.sys hk4;have c5:=k5.cell;have cx5:=l6.cell;have hbO:=aV w5 (.cells #[.int .i64 k,.int .i64 1] 140);have kO:=ag.new w5 140 #[.int .i64 k,.int .i64 1];have Rp:=ae (HM.out _ _ ((hk5.call hbO).ru) (Fs kO));clear k4 dI qG c4 JA JB cx4 HG HM S4 T4 hk4 h5 S5 T3 B3
 go_wp2_with (first|(go_at_call 51;refine (Rp.out).mono ?_;rintro e w6 ⟨A6,c6,rfl,ahL,Co,ahM,hb6⟩;have B6:=hbO.trans (hb6.mono hbO.size);have T6:=T5.aU B6;have k6:=k5.call B6;have nP:=mJ.call B6;have c6x:=k6.cell;have c6R:=nP.cell;have f6R:=nP.frozen;have f6:=k6.frozen))
 change bodyPost _ _ _ _ _ (aL (w6.setCell ⟨w.heap.size,7,none⟩ (.slice A6 K2.length c6)) (w.heap.size+1) ⟨pg,n,f,bk,ev,nn,live,K2,cl⟩ (.slice A6 K2.length c6));have aR:=aG (nP.far (p:=⟨w.heap.size,7,none⟩) (by show w.heap.size+1≠w.heap.size;omega) (.slice A6 K2.length c6)) ⟨pg,n,f,bk,ev,nn,live,K2,cl⟩ (.slice A6 K2.length c6);have F9:=aH (w6.setCell ⟨w.heap.size,7,none⟩ (.slice A6 K2.length c6)) (w.heap.size+1) ⟨pg,n,f,bk,ev,nn,live,K2,cl⟩ (.slice A6 K2.length c6);generalize aL (w6.setCell ⟨w.heap.size,7,none⟩ (.slice A6 K2.length c6)) (w.heap.size+1) ⟨pg,n,f,bk,ev,nn,live,K2,cl⟩ (.slice A6 K2.length c6)=w9 at *;dsimp only [ai] at aR;have bV:=aR.cell;refine bodyPost_ret (v:=.tuple #[.agg (ai ⟨pg,n,f,bk,ev,nn,live,K2,cl⟩ (.slice A6 K2.length c6)),.int .i64 0]) (by simp [results,results20,go_sem,bV,ai]) rfl ?_;have F6:=((af.refl (fun k=>k=w.heap.size∨k=w.heap.size+1) w6).setCell (p:=⟨w.heap.size,7,none⟩) (fun _=>.inl rfl) (.slice A6 K2.length c6)).trans (F9.mono (fun k _ hk=>.inr hk));have T9:=T6.fresh F6 (fun k hk=>by rcases hk with rfl|rfl <;> omega) (fun k hk=>by rcases hk with rfl|rfl;exact ⟨_,_,k6,by decide,by decide,by decide,by decide⟩;exact ⟨_,_,nP,by decide,by decide,by decide,by decide⟩);exact ⟨_,rfl,⟨A6,c6,rfl,Co,ahM,ahL.far F6 (fun g cs hg=>by rintro (rfl|rfl);exact k6.ne hg;exact nP.ne hg)⟩,T9⟩
theorem Ep (v s:Value) (r:Cr) (w:World) (hv:v= .agg (ai r s)) (A:Option Addr) (n cap:Nat) :
  Calls prog 58 #[v,.slice A n cap] w fun e w'=>e= .returned (.func (.func 124) #[] #[.pointer (some ⟨w.heap.size,0,none⟩),.pointer (some ⟨w.heap.size+1,0,none⟩)]) ∧
   w'=(w.alloc (.cells (ai r s) 43)).alloc (.cells #[.slice A n cap] 41):=by
 subst hv;dsimp only [ai];go_enter func58,ntmps58
 go_wp2
 go_ret;exact ⟨by simp,rfl⟩
theorem xJ:∀args w,(callFunc 124 args).run prog w= .ok (.enter 124 args) w:=enters_of func124 (by kernel_rfl) rfl
theorem Mc (pg n f b ev:Int) (w:World) (hc:bN pg n f b ev=0) :
  Calls prog 70 #[eQ pg n f b ev] w (nV w (aA pg n f b ev) 0):=by
 have HC:=ae (fun W=>uw pg n f b ev W);have hb0:=aV w (.cells (bf pg n f b ev) 25);have k0:=ag.new w 25 (bf pg n f b ev);have c0:=k0.cell;have hp:=bU.1 hc;rw [hc] at HC;have HR:=ae (fun W=>zf pg n f b ev W);go_enter func70,ntmps70
 go_wp2_with (first
  | (go_at_call 115;refine (HC.out _).mono ?_;rintro e w1 ⟨rfl,hq⟩;have k1:=k0.call hq;have c1:=k1.cell;have hb1:=hb0.trans (hq.mono hb0.size))
  | (go_at_call 116;refine (HR.out _).mono ?_;rintro e w2 ⟨rfl,rfl⟩;have HS:=ae (Az pg n f b ev w1.heap.size _ hp (ag.new w1 25 (bf pg n f b ev))))
  | (go_at_call 118;refine (qX _ _ _ _ _ _ (AJ hp) HS.out qY (fun _ h=>h.elim) (fun k h=>by subst h;simp)).mono ?_;rintro e w3 ⟨v,rfl,hown,_,hf⟩;obtain ⟨A,cap,rfl,gG,h1,h2⟩:=KeptAt.own hown rfl))
 have hb2:=hb1.alloc hb1.size (.cells (bf pg n f b ev) 25);have hb3:=hf.below (n:=w.heap.size) (Nat.le_trans hb1.size (by simp)) (fun _ _ h=>h);go_ret2;exact ⟨A,cap,rfl,gG,h1,h2,hb2.trans hb3⟩
theorem Rt (A1 A2:Option Addr) (n1 c1 n2 c2:Nat) (us vs:List Sp) (w:World) (hn1:us.length=n1) (hm1:n1≤c1) (hc1:c1≤maxLen) (hr1:RU w w.heap.size A1 us) (hn2:vs.length=n2) (hm2:n2≤c2) (hc2:c2≤maxLen) (hr2:RU w w.heap.size A2 vs) (hU:Go.Pol.Can us) (hV:Go.Pol.Can vs) :
  Calls prog 125 #[.slice A1 n1 c1,.slice A2 n2 c2] w (nV w (ay us vs) 0):=by
 have hb0:=aV w (.cells #[.slice A1 n1 c1,.slice A2 n2 c2] 41);have k0:=ag.new w 41 #[.slice A1 n1 c1,.slice A2 n2 c2];have r1:=hr1.on (aV w (.cells #[.slice A1 n1 c1,.slice A2 n2 c2] 41));have r2:=hr2.on (aV w (.cells #[.slice A1 n1 c1,.slice A2 n2 c2] 41));have HC:=ae (yg A1 A2 n1 c1 n2 c2 us vs w.heap.size _ hn1 (Nat.le_trans hm1 hc1) r1 hn2 (Nat.le_trans hm2 hc2) r2 k0);clear hr1 hr2;rw [bP.2 hU,bP.2 hV,if_pos rfl] at HC;have hlen:=BO us vs;have hl1:=hU.len;have hl2:=hV.len;go_enter func125,ntmps125;go_wp2_with fail;refine HC.out.mono ?_;rintro e w1 ⟨rfl,hb1⟩;have B1:=hb0.trans (hb1.mono hb0.size);have r3:=r1.on hb1;have r4:=r2.on hb1;clear HC k0 r1 r2 hb1 hb0;have kX:ag ((w1.alloc (.cells #[.slice A1 n1 c1] 41)).alloc (.cells #[.slice A2 n2 c2] 41)) w1.heap.size 41 #[.slice A1 n1 c1]:=(ag.new _ _ _).alloc _;have kY:ag ((w1.alloc (.cells #[.slice A1 n1 c1] 41)).alloc (.cells #[.slice A2 n2 c2] 41)) (w1.heap.size+1) 41 #[.slice A2 n2 c2]:=by
  have:=ag.new (w1.alloc (.cells #[.slice A1 n1 c1] 41)) 41 #[.slice A2 n2 c2];rw [World.size_alloc] at this;exact this
 have hbX:Below w1.heap.size w1 ((w1.alloc (.cells #[.slice A1 n1 c1] 41)).alloc (.cells #[.slice A2 n2 c2] 41)):=(aV w1 _).alloc (by simp) _;have LA:Left _ w1.heap.size (fun k=>k<w1.heap.size+2) w1.heap.size (w1.heap.size+1) A1 n1 c1 us:=⟨hn1,hm1,by unfold maxLen at hc1;omega,r3.below hbX,fun h b o e=>by have:=Lv r3 h e;exact ⟨by omega,by omega,by omega⟩,hU.1⟩;have LB:Left _ w1.heap.size (fun k=>k<w1.heap.size+2) w1.heap.size (w1.heap.size+1) A2 n2 c2 vs:=⟨hn2,hm2,by unfold maxLen at hc2;omega,r4.below hbX,fun h b o e=>by have:=Lv r4 h e;exact ⟨by omega,by omega,by omega⟩,hV.1⟩;have HS:=ae (wG A1 A2 n1 c1 n2 c2 us vs w1.heap.size (w1.heap.size+1) w1.heap.size (fun k=>k<w1.heap.size+2) _ (by simp) (by simp) (by omega) kX kY LA LB);clear LA LB kX kY r3 r4;generalize ay us vs=L at *;have hlL:L.length≤1000000:=by omega
 go_wp2_with (first
  | (go_at_call 119;refine (x9 A1 A2 n1 c1 n2 c2 w1).mono ?_;rintro e w2 ⟨rfl,rfl⟩)
  | (go_at_call 118;refine (qX _ _ _ _ _ _ hlL HS.out rX (fun k h=>by rcases h with rfl|rfl <;> (rw [World.size_alloc,World.size_alloc];omega)) (fun k h=>by simp;omega)).mono ?_;rintro e w3 ⟨v,rfl,hown,_,hf⟩;obtain ⟨A,cap,rfl,gG,h1,h2⟩:=KeptAt.own hown rfl))
 have B2:=B1.trans (hbX.mono B1.size);have B3:=hf.below (n:=w.heap.size) (by have:=B2.size;exact this) (fun k hk h=>by have:=B1.size;rcases h with rfl|rfl <;> omega);go_ret2;exact ⟨A,cap,rfl,gG,h1,h2,B2.trans B3⟩
theorem Cq (r:Cr) (sv:Value) (B1 B2:Nat) (As:Option Addr) (ns cs:Nat) (S:List Sp) (K:Nat→Prop) (w:World) (hp:dS r.pg r.n r.f r.bk r.ev) (hS:Go.Pol.Can S) (hns:S.length=ns) (hms:ns≤cs) (hcs:cs≤maxLen)
  (hK1:K B1) (hK2:K B2) (hKs:S≠[]→∀g o,As=some ⟨g,o,none⟩→K g) (k1:ag w B1 43 (ai r sv)) (k2:ag w B2 41 #[.slice As ns cs]) (hr:RU w w.heap.size As S) :
  Ud prog 140 124 #[.pointer (some ⟨B1,0,none⟩),.pointer (some ⟨B2,0,none⟩)] Om K (bS S 0 (aA r.pg r.n r.f r.bk r.ev)) w:=by
 intro m l J Jx W hW hJ hJx hY h0;have hkg:∀{A B:World} {X:Nat→Prop},af (fun k=>¬(K k∨X k)) A B→RU A A.heap.size As S→RU B B.heap.size As S:=fun {A B X} hF h=>by
  by_cases hn:S=[]
  ·subst hn;exact RU.nil
  ·exact (h.Uw hF (fun g o e hg=>hg (.inl (hKs hn g o e)))).more hF.size
 have Rm:=hW.blk k1 (by simpa using hK1);have k2W:=hW.blk k2 (by simpa using hK2);have hrW:=hkg (X:=fun _=>False) (hW.mono (fun k _ h hk=>hk.elim h id)) hr;have HU:=ae (fun W=>Mc r.pg r.n r.f r.bk r.ev W (bU.2 hp));have ER:=bL hp;have aeN:=(nJ hp).2;have ahO:=NS hp;have Yu:=AJ hp;clear hp;obtain ⟨pg,n,f,bk,ev,node,live,Kp,cl⟩:=r;simp only at Rm k1 HU ER aeN ahO Yu hY ⊢;generalize aA pg n f bk ev=us at *;obtain ⟨nu,Yv⟩:=aj (us.length);rw [Yv] at Yu;have hnu:=ae Yv;clear k1 k2 hW hr Yv;refine callsIn_of_wp func124 rfl trivial ?_ rfl;simp only [ntmps124,List.size_toArray,List.length_cons,List.length_nil,Nat.reduceAdd,Nat.reduceSub,Array.replicate_succ,Array.replicate_zero,List.push_toArray,List.append_toArray,List.nil_append,List.cons_append];have c1:=Rm.cell;dsimp only [ai] at c1
 gi_wp2_with fail
 refine (callsIn_wide.2 (HU.out _)).mono ?_;unfold nV;rw [hnu.out];rintro e w1 ⟨Au,cu,rfl,gG,hmu,Vn,hb1⟩;have Vh:=ae (hJ _ _ _ h0 hb1);have Ot:=k2W.call hb1;have hr1:=hrW.on hb1;clear c1 Rm hrW h0 HU
 gi_wp2_with fail
 gi_loopw [6,21] (fun v i wr=>∃k:Nat,k≤nu∧v= .int .i64 (aI (us.take k))∧i= .int .i64 k∧W.heap.size≤wr.heap.size∧Hid (J (bS S 0 (us.take k)) wr)∧ag wr B2 41 #[.slice As ns cs]∧RU wr wr.heap.size As S∧KeptAt wr Au us) (fun _ i _=>nu - (intOf i).toNat)
 case atStart=>exact ⟨0,by omega,by simp [aI],rfl,hb1.size,by simpa [bS] using Vh,Ot,hr1,gG⟩
 case round =>
  clear Vh Ot hr1 gG hb1;obtain ⟨k,hk,rfl,rfl,hwz,hJs,k2,hrs,gG⟩:=hrel;by_cases hlt:k<nu
  ·have hlt':decide ((k:Int)<(nu:Int))=true:=by simpa using hlt
   have Dt:k<us.length:=by rw [hnu.out];exact hlt
   obtain ⟨b,o,rfl,hbl,hc,hd⟩:=RU.at_' gG.ru (k:=k) Dt;have kZ:=av.1 (ER.1 (us.getD k (0,0)) (by rw [List.getD_eq_getElem?_getD,List.getElem?_eq_getElem Dt];simp));have hst:=ae (Oo S us Dt);have hsm:=ae (Oq us Dt);have hs1:=zY us ER.1 k;have hs2:=zY us ER.1 (k+1);have Ou:=hsm.out;have hpf:=ae (Rs S us (k+1));generalize us.getD k (0,0)=x at *;obtain ⟨xa,xb⟩:=x;dsimp only at hc hd kZ hst hsm Ou;obtain ⟨M,hM⟩:=aj (aI (us.take k));rw [hM] at hst hsm hs1 Ou ⊢;have hM1:0≤M∧M+xb≤1024:=by omega
   have wO:bB (M,xb)=true:=av.2 ⟨by show 0≤M;omega,by show M<1024;omega,by show 1≤xb;omega,by show xb≤1024 - M;omega⟩;have HM:=ae (fun W A2 h h2=>Rt As A2 ns cs 1 1 S [(M,xb)] W hns hms hcs h rfl (Nat.le_refl _) (by unfold maxLen;omega) h2 hS (Can.one wO));have hIc:=Can.common hS (Can.one wO);have hIl:=hIc.len;have hIv:=ae hIc.1;obtain ⟨L0,hL0⟩:=aj (bS S 0 (us.take k));rw [hL0] at hst hJs;clear hIc wO hs1 hs2 Ou hL0 hM;generalize ay S [(M,xb)]=I at *;obtain ⟨ni,Yw⟩:=aj (I.length);rw [Yw] at hIl;have hni:=ae Yw;have kX:=ag.new wr 140 #[.int .i64 xa,.int .i64 xb];have dJ:=aV wr (.cells #[.int .i64 xa,.int .i64 xb] 140);have Ot:=k2.call dJ;have Ov:=hrs.on dJ;have Ow:=gG.call dJ;obtain ⟨bx,hbx⟩:=aj (wr.heap.size);rw [hbx] at kX;clear Yw hbl
   gi_upto_region 5 with fail
   clear hc hd;generalize wr.alloc _=wa at *;have ca:=kX.cell;have c2a:=Ot.cell;have hbS:=aV wa (.cells #[.int .i64 M,.int .i64 xb] 140);have kS:=ag.new wa 140 #[.int .i64 M,.int .i64 xb];have Rp:=ae (HM.out _ _ (Ov.on hbS) (Fs kS))
   gi_wp2_with fail
   refine (callsIn_wide.2 Rp.out).mono ?_;unfold nV;rw [hni.out];rintro e w3 ⟨Ai,ci,rfl,tX,hmi,hci,hb3⟩;have KM:=hbS.trans (hb3.mono hbS.size);have aci:=dJ.trans (KM.mono dJ.size);have hJ3:=ae (hJ _ _ _ hJs.out aci);have k23:=Ot.call KM;have GJ:=kX.call KM;have acj:=Ov.on KM;have xI:=Ow.call KM;have Cs:=Nat.le_trans hwz aci.size;clear HM Rp hbS kS hb3 KM dJ Ot Ov Ow kX hJs k2 hrs gG hwz ca c2a
   gi_wp2_with fail
   gi_loopw [37] (fun i wr=>∃j:Nat,j≤ni∧i= .int .i64 j∧W.heap.size≤wr.heap.size∧Hid (J (L0++(I.take j).map (yC xa M)) wr)∧ag wr B2 41 #[.slice As ns cs]∧RU wr wr.heap.size As S∧KeptAt wr (some ⟨b,o,none⟩) us∧KeptAt wr Ai I∧ag wr bx 140 #[.int .i64 xa,.int .i64 xb]) (fun i _=>ni - (intOf i).toNat)
   case atStart=>exact ⟨0,by omega,rfl,Cs,by simpa using hJ3,k23,acj,xI,tX,GJ⟩
   case round =>
    clear hJ3 k23 acj xI tX GJ Cs;obtain ⟨j,hj,rfl,hwz,hJs,k2,hrs,gG,tX,kX⟩:=hrel;by_cases hlt2:j<ni
    ·have Rv:decide ((j:Int)<(ni:Int))=true:=by simpa using hlt2
     have hju:j<I.length:=by rw [hni.out];exact hlt2
     have hIn:I≠[]:=fun h=>by subst h;simp at hju
     obtain ⟨bi,oi,rfl,_,hc,hd⟩:=RU.at_' tX.ru (k:=j) hju;have hvy:=av.1 (hIv.out (I.getD j (0,0)) (by rw [List.getD_eq_getElem?_getD,List.getElem?_eq_getElem hju];simp));have htk:Hid ((I.take (j+1)).map (yC xa M)=(I.take j).map (yC xa M)++[yC xa M (I.getD j (0,0))]):=ae (by rw [rz (0,0) I hju,List.map_append];rfl);generalize I.getD j (0,0)=y at *;obtain ⟨ya,yb⟩:=y;dsimp only at hc hd hvy;have hw1:IntKind.i64.wrap (xa+ya)=xa+ya:=by rw [IntKind.wrap_i64];omega
     have hw2:IntKind.i64.wrap (xa+ya - M)=xa+ya - M:=by rw [IntKind.wrap_i64];omega
     have hpre:Hid ((L0++(I.take j).map (yC xa M))++[yC xa M (ya,yb)] <+: bS S 0 us):=ae (by
      refine List.IsPrefix.trans ?_ hpf.out;rw [hst.out,List.append_assoc,←htk.out];exact (List.prefix_append_right_inj _).2 ((List.take_prefix _ _).map _))
     have dJ:=aV wr (.cells #[.int .i64 ya,.int .i64 yb] 140);have kY:=ag.new wr 140 #[.int .i64 ya,.int .i64 yb];have hJ2:=hJ _ _ _ hJs.out dJ;have Ot:=k2.call dJ;have kXa:=kX.call dJ;have Ov:=hrs.on dJ;have Ow:=gG.call dJ;have ack:=tX.call dJ;have anI:=Nat.le_trans hwz dJ.size;obtain ⟨gy,hgy⟩:=aj (wr.heap.size);rw [hgy] at kY;have cXa:=kXa.cell;have cYa:=kY.cell
     gi_upto_region 9 with fail
     clear hc hd;generalize wr.alloc _=wa at *;have hun:us≠[]:=fun h=>by subst h;simp at Dt
     obtain ⟨fn,tmps,assign,body,hy,qA⟩:=hY (m - 1) (fun q=>q=b∨q=bx∨q=bi) _ (yC xa M (ya,yb)) wa hJ2 (fun q hq=>by
      rcases hq with rfl|rfl|rfl
      ·exact Ow.block hun rfl
      ·exact ⟨_,kXa⟩
      ·exact ack.block hIn rfl) hpre.out
     simp only [Om,oM,yC] at hy;clear hY hJ2 k2 kX hrs gG tX hwz dJ hJs hJx
     gi_wp2_with fail
     refine qA.mono ?_;rintro e W4 (⟨rfl,Jy,iI⟩|⟨rfl,GI⟩)
     ·have hs4:=iI.size
      have k24:=iI.blk Ot (fun h=>h (.inl hK2));have kX4:=iI.blk kXa (fun h=>h (.inr (.inr (.inl rfl))));have ahP:=hkg iI Ov;have Ox:=Ow.ach iI (fun _ g o e h=>by cases e;exact h (.inr (.inl rfl)));have ahQ:=ack.ach iI (fun _ g o e h=>by cases e;exact h (.inr (.inr (.inr rfl))))
      gi_wp2_with fail
      go_roundw
      case rel=>exact ⟨j+1,by omega,by go_num,by omega,ae (by rw [htk.out,←List.append_assoc];exact Jy),k24,ahP,Ox,ahQ,kX4⟩
      case measure=>simp [intOf];omega
     ·gi_wp2_with fail
      refine bodyPost_ret (results_none rfl _ _ _) rfl ?_;exact ⟨⟨_,rfl⟩,.inr ⟨_,hpre.out,GI⟩⟩
    ·obtain rfl:j=ni:=by omega
     have Rv:decide ((j:Int)<(j:Int))=false:=by simp
     have hE:Hid (L0++(I.take j).map (yC xa M)=bS S 0 (us.take (k+1))):=ae (by rw [hst.out,List.take_of_length_le (by rw [hni.out];omega)]);have cX:=kX.cell;have hw1:IntKind.i64.wrap (M+xb)=M+xb:=by rw [IntKind.wrap_i64];omega
     gi_wp2_with fail
     go_roundw
     case rel=>exact ⟨k+1,by omega,by rw [hsm.out],by go_num,hwz,ae (by rw [←hE.out];exact hJs.out),k2,hrs,gG⟩
     case measure=>simp [intOf];omega
  ·obtain rfl:k=nu:=by omega
   have hlt':decide ((k:Int)<(k:Int))=false:=by simp
   have hE:Hid (us.take k=us):=ae (List.take_of_length_le (by rw [hnu.out];omega))
   gi_wp2_with fail
   go_end0
   exact ⟨⟨_,rfl⟩,.inl (by have:=hJs.out;rw [hE.out] at this;exact this)⟩
def kC (V:Vm) (pg n f bk ev node:Int):Cr×Int×Vm :=
 let r:Cr:=⟨pg,n,f,bk,ev,node,0,[],false⟩
 if bE r≠0 then (bn,bE r,V)
 else
  let J:=bJ V pg n 0 0 1
  if J.1≠0 then (bn,J.1,J.2)
  else
   let P:=jw J.2 (bN pg n f bk ev) (eH pg n f bk ev)
   if P.2.1=0 then (r,0,P.2.2)
   else if P.1.length=0 then
    let E:=bJ P.2.2 pg n 1 1 0
    if E.1=0 then (bn,P.2.1,E.2) else ({ r with cl:=true },P.2.1,E.2)
   else ({ r with cl:=true },P.2.1,P.2.2)
theorem Er (bs:Nat) (V:Vm) (pg n f bk ev node:Int) (w:World) (hV:aD w bs V) (xU:aQ V) :
  Calls prog 23 #[.pointer (some ⟨bs,0,none⟩),eQ pg n f bk ev,.int .i64 node] w fun e w'=>∃v,e= .returned (.tuple #[v,.int .i64 (kC V pg n f bk ev node).2.1])∧Bj (kC V pg n f bk ev node).1 w' v∧dw bs (kC V pg n f bk ev node).2.2 w w':=by
 have HC:=ae (fun W (h:aD W bs V)=>Ck bs V W h xU);have HK:=ae (fun W=>wV ⟨pg,n,f,bk,ev,node,0,[],false⟩ none 0 W (Nat.le_refl _) (by unfold maxLen;omega) RU.nil);obtain ⟨R,hR⟩:=aj (kC V pg n f bk ev node);rw [hR];unfold kC at hR;simp only at hR;generalize bE ⟨pg,n,f,bk,ev,node,0,[],false⟩=ck at *;have hb0:=below_alloc2 (aV w (.cells (bf pg n f bk ev) 25)) (.cells (ai bn (.slice none 0 0)) 43);have k0:=(ag.new w 25 (bf pg n f bk ev)).dU (.cells (ai bn (.slice none 0 0)) 43);have kR:=ag.nL w (.cells (bf pg n f bk ev) 25) 43 (ai bn (.slice none 0 0));dsimp only [ai,bn,bf,List.length_nil] at k0 hb0 kR HK ⊢;unfold eQ;by_cases h0:ck=0
 case neg =>
  have h0':(ck != 0)=true:=by simpa using h0
  rw [if_pos h0] at hR;subst hR;clear h0;go_enter func23,ntmps23;go_wp2_with fail;refine (HC.out _ (hV.call hb0)).mono ?_;rintro e w1 ⟨n1,n2,n3,n4,n5,rfl,hb1⟩;have k1:=k0.call hb1;have aN:=kR.call hb1;have B1:=hb0.trans (hb1.mono hb0.size);have hbX:=below_alloc2 (aV w1 (.cells #[.int .i64 n1,.int .i64 n2,.int .i64 n3,.int .i64 n4,.int .i64 n5] 106)) (.cells (ai ⟨pg,n,f,bk,ev,node,0,[],false⟩ (.slice none 0 0)) 43);have kr:=ag.nL w1 (.cells #[.int .i64 n1,.int .i64 n2,.int .i64 n3,.int .i64 n4,.int .i64 n5] 106) 43 (ai ⟨pg,n,f,bk,ev,node,0,[],false⟩ (.slice none 0 0));dsimp only [ai] at hbX kr;obtain ⟨gx,hgx⟩:=aj (w1.heap.size);rw [hgx] at kr;have kX:=k1.call hbX;have nW:=aN.call hbX;have BX:=B1.trans (hbX.mono B1.size);have c1:=(k1.dU (.cells #[.int .i64 n1,.int .i64 n2,.int .i64 n3,.int .i64 n4,.int .i64 n5] 106)).cell;have Rw:w.heap.size+2≤w1.heap.size:=aN.lt;clear HC k0 kR hb0 hb1;go_upto_region 5 with fail
  generalize (w1.alloc _).alloc _=wx at *;have GK:=kr.cell;go_wp2_with fail;refine (HK.out _).mono ?_;rintro e w2 ⟨rfl,hb2⟩;have k2:=kX.call hb2;have bT:=nW.call hb2;have Bq:=kr.call hb2;have B2:=BX.trans (hb2.mono BX.size);have c2:=k2.cell;have qE:=bT.cell;have qF:=bT.frozen;clear HK k1 aN B1 hbX kr kX nW BX c1 GK hb2;go_wp2_with fail;change bodyPost _ _ _ _ _ (aL w2 (w.heap.size+1) bn (.slice none 0 0));have aR:=aG bT bn (.slice none 0 0);have F9:=aH w2 (w.heap.size+1) bn (.slice none 0 0);have B9:=bW B2 (g:=(w.heap.size+1)) (by omega) bn (.slice none 0 0);generalize aL w2 (w.heap.size+1) bn (.slice none 0 0)=w9 at *;dsimp only [ai] at aR;have bV:=aR.cell;refine bodyPost_ret (v:=.tuple #[.agg (ai bn (.slice none 0 0)),.int .i64 ck]) (by simp [results,results23,go_sem,bV,ai]) rfl ?_;exact ⟨_,rfl,⟨none,0,rfl,Nat.le_refl _,by unfold maxLen;omega,KeptAt.none _ _⟩,.below hV B9⟩
 subst h0;rw [if_neg (by simp)] at hR;have HV:=ae (fun W h=>LJ bs pg n V W h);have hKJ:=ae (xU.bJ pg n 0 0 (tk:=1) (by omega));obtain ⟨J,hJ⟩:=aj (bJ V pg n 0 0 1);rw [hJ] at hR HV hKJ;obtain ⟨je,jV⟩:=J;simp only at hR HV hKJ;clear hJ;by_cases h1:je=0
 case neg =>
  have h1':(je != 0)=true:=by simpa using h1
  rw [if_pos h1] at hR;subst hR;clear h1;go_enter func23,ntmps23;go_wp2_with fail;refine (HC.out _ (hV.call hb0)).mono ?_;rintro e w1 ⟨n1,n2,n3,n4,n5,rfl,hb1⟩;have k1:=k0.call hb1;have aN:=kR.call hb1;have B1:=hb0.trans (hb1.mono hb0.size);have hbX:=below_alloc2 (aV w1 (.cells #[.int .i64 n1,.int .i64 n2,.int .i64 n3,.int .i64 n4,.int .i64 n5] 106)) (.cells (ai ⟨pg,n,f,bk,ev,node,0,[],false⟩ (.slice none 0 0)) 43);have kr:=ag.nL w1 (.cells #[.int .i64 n1,.int .i64 n2,.int .i64 n3,.int .i64 n4,.int .i64 n5] 106) 43 (ai ⟨pg,n,f,bk,ev,node,0,[],false⟩ (.slice none 0 0));dsimp only [ai] at hbX kr;obtain ⟨gx,hgx⟩:=aj (w1.heap.size);rw [hgx] at kr;have kX:=k1.call hbX;have nW:=aN.call hbX;have BX:=B1.trans (hbX.mono B1.size);have c1:=(k1.dU (.cells #[.int .i64 n1,.int .i64 n2,.int .i64 n3,.int .i64 n4,.int .i64 n5] 106)).cell;have Rw:w.heap.size+2≤w1.heap.size:=aN.lt;clear HC k0 kR hb0 hb1;go_upto_region 5 with fail
  generalize (w1.alloc _).alloc _=wx at *;have GK:=kr.cell;go_wp2_with fail;refine (HK.out _).mono ?_;rintro e w2 ⟨rfl,hb2⟩;have k2:=kX.call hb2;have bT:=nW.call hb2;have Bq:=kr.call hb2;have B2:=BX.trans (hb2.mono BX.size);have c2:=k2.cell;have qE:=bT.cell;have qF:=bT.frozen;clear HK k1 aN B1 hbX kr kX nW BX c1 GK hb2;go_wp2_with fail;refine (HV.out _ (hV.call B2)).mono ?_;rintro e w3 ⟨rfl,nY⟩;have T3:=(dw.below hV B2).trans nY;have k3:=nY.blk (hV.call B2) k2 (by decide);have eZ:=nY.blk (hV.call B2) bT (by decide);have ES:=nY.blk (hV.call B2) Bq (by decide);have c3:=k3.cell;have ET:=eZ.cell;have EU:=eZ.frozen;clear HV k2 bT Bq B2 c2 qE qF nY;go_wp2_with fail;change bodyPost _ _ _ _ _ (aL w3 (w.heap.size+1) bn (.slice none 0 0));have aR:=aG eZ bn (.slice none 0 0);have F9:=aH w3 (w.heap.size+1) bn (.slice none 0 0);generalize aL w3 (w.heap.size+1) bn (.slice none 0 0)=w9 at *;dsimp only [ai] at aR;have bV:=aR.cell;refine bodyPost_ret (v:=.tuple #[.agg (ai bn (.slice none 0 0)),.int .i64 je]) (by simp [results,results23,go_sem,bV,ai]) rfl ?_;exact ⟨_,rfl,⟨none,0,rfl,Nat.le_refl _,by unfold maxLen;omega,KeptAt.none _ _⟩,T3.fresh F9 (fun k hk=>by subst hk;omega) (fun k hk=>by subst hk;exact ⟨_,_,eZ,by decide,by decide⟩)⟩
 subst h1;rw [if_neg (by simp)] at hR;have HP:=ae (fun W h=>N9 bs pg n f bk ev jV W h hKJ.out (Ca _ _ _ _ _));obtain ⟨Q,hQ⟩:=aj (jw jV (bN pg n f bk ev) (eH pg n f bk ev));rw [hQ] at hR HP;obtain ⟨sl,pe,pV⟩:=Q;unfold N7 at HP;simp only at hR HP;clear hQ;by_cases h2:pe=0
 case pos =>
  subst h2;rw [if_pos rfl] at hR;subst hR;go_enter func23,ntmps23;go_wp2_with fail;refine (HC.out _ (hV.call hb0)).mono ?_;rintro e w1 ⟨n1,n2,n3,n4,n5,rfl,hb1⟩;have k1:=k0.call hb1;have aN:=kR.call hb1;have B1:=hb0.trans (hb1.mono hb0.size);have hbX:=below_alloc2 (aV w1 (.cells #[.int .i64 n1,.int .i64 n2,.int .i64 n3,.int .i64 n4,.int .i64 n5] 106)) (.cells (ai ⟨pg,n,f,bk,ev,node,0,[],false⟩ (.slice none 0 0)) 43);have kr:=ag.nL w1 (.cells #[.int .i64 n1,.int .i64 n2,.int .i64 n3,.int .i64 n4,.int .i64 n5] 106) 43 (ai ⟨pg,n,f,bk,ev,node,0,[],false⟩ (.slice none 0 0));dsimp only [ai] at hbX kr;obtain ⟨gx,hgx⟩:=aj (w1.heap.size);rw [hgx] at kr;have kX:=k1.call hbX;have nW:=aN.call hbX;have BX:=B1.trans (hbX.mono B1.size);have c1:=(k1.dU (.cells #[.int .i64 n1,.int .i64 n2,.int .i64 n3,.int .i64 n4,.int .i64 n5] 106)).cell;have Rw:w.heap.size+2≤w1.heap.size:=aN.lt;clear HC k0 kR hb0 hb1;go_upto_region 5 with fail
  generalize (w1.alloc _).alloc _=wx at *;have GK:=kr.cell;go_wp2_with fail;refine (HK.out _).mono ?_;rintro e w2 ⟨rfl,hb2⟩;have k2:=kX.call hb2;have bT:=nW.call hb2;have Bq:=kr.call hb2;have B2:=BX.trans (hb2.mono BX.size);have c2:=k2.cell;have qE:=bT.cell;have qF:=bT.frozen;clear HK k1 aN B1 hbX kr kX nW BX c1 GK hb2;go_wp2_with fail;refine (HV.out _ (hV.call B2)).mono ?_;rintro e w3 ⟨rfl,nY⟩;have T3:=(dw.below hV B2).trans nY;have k3:=nY.blk (hV.call B2) k2 (by decide);have eZ:=nY.blk (hV.call B2) bT (by decide);have ES:=nY.blk (hV.call B2) Bq (by decide);have c3:=k3.cell;have ET:=eZ.cell;have EU:=eZ.frozen;clear HV k2 bT Bq B2 c2 qE qF nY;go_wp2_with fail;refine (HP.out _ T3.1).mono ?_;rintro e w4 ⟨Ap,cp,rfl,_,_,hpl,GL,GM⟩;have ql:dw bs pV w3 w4:=⟨GL,GM⟩;have T4:=T3.trans ql;have k4:=ql.blk T3.1 k3;have dI:=ql.blk T3.1 eZ;have EW:=ql.blk T3.1 ES;have c4:=k4.cell;have JA:=dI.cell;have JB:=dI.frozen;have c4r:=EW.cell;clear HP k3 eZ ES c3 ET EU GL GM;go_wp2_with fail;change bodyPost _ _ _ _ _ (aL w4 (w.heap.size+1) ⟨pg,n,f,bk,ev,node,0,[],false⟩ (.slice none 0 0));have aR:=aG dI ⟨pg,n,f,bk,ev,node,0,[],false⟩ (.slice none 0 0);have F9:=aH w4 (w.heap.size+1) ⟨pg,n,f,bk,ev,node,0,[],false⟩ (.slice none 0 0);generalize aL w4 (w.heap.size+1) ⟨pg,n,f,bk,ev,node,0,[],false⟩ (.slice none 0 0)=w9 at *;dsimp only [ai] at aR;have bV:=aR.cell;refine bodyPost_ret (v:=.tuple #[.agg (ai ⟨pg,n,f,bk,ev,node,0,[],false⟩ (.slice none 0 0)),.int .i64 0]) (by simp [results,results23,go_sem,bV,ai]) rfl ?_;exact ⟨_,rfl,⟨none,0,rfl,Nat.le_refl _,by unfold maxLen;omega,KeptAt.none _ _⟩,T4.fresh F9 (fun k hk=>by subst hk;omega) (fun k hk=>by subst hk;exact ⟨_,_,dI,by decide,by decide⟩)⟩
 have h2':(pe==0)=false:=by simpa using h2
 rw [if_neg h2] at hR;obtain ⟨sn,hsn⟩:=aj (sl.length);rw [hsn] at hR HP;by_cases h3:sn=0
 case neg =>
  have h3':((sn:Int)==0)=false:=by simpa using h3
  rw [if_neg h3] at hR;subst hR;clear h2 h3;go_enter func23,ntmps23;go_wp2_with fail;refine (HC.out _ (hV.call hb0)).mono ?_;rintro e w1 ⟨n1,n2,n3,n4,n5,rfl,hb1⟩;have k1:=k0.call hb1;have aN:=kR.call hb1;have B1:=hb0.trans (hb1.mono hb0.size);have hbX:=below_alloc2 (aV w1 (.cells #[.int .i64 n1,.int .i64 n2,.int .i64 n3,.int .i64 n4,.int .i64 n5] 106)) (.cells (ai ⟨pg,n,f,bk,ev,node,0,[],false⟩ (.slice none 0 0)) 43);have kr:=ag.nL w1 (.cells #[.int .i64 n1,.int .i64 n2,.int .i64 n3,.int .i64 n4,.int .i64 n5] 106) 43 (ai ⟨pg,n,f,bk,ev,node,0,[],false⟩ (.slice none 0 0));dsimp only [ai] at hbX kr;obtain ⟨gx,hgx⟩:=aj (w1.heap.size);rw [hgx] at kr;have kX:=k1.call hbX;have nW:=aN.call hbX;have BX:=B1.trans (hbX.mono B1.size);have c1:=(k1.dU (.cells #[.int .i64 n1,.int .i64 n2,.int .i64 n3,.int .i64 n4,.int .i64 n5] 106)).cell;have Rw:w.heap.size+2≤w1.heap.size:=aN.lt;clear HC k0 kR hb0 hb1;go_upto_region 5 with fail
  generalize (w1.alloc _).alloc _=wx at *;have GK:=kr.cell;go_wp2_with fail;refine (HK.out _).mono ?_;rintro e w2 ⟨rfl,hb2⟩;have k2:=kX.call hb2;have bT:=nW.call hb2;have Bq:=kr.call hb2;have B2:=BX.trans (hb2.mono BX.size);have c2:=k2.cell;have qE:=bT.cell;have qF:=bT.frozen;clear HK k1 aN B1 hbX kr kX nW BX c1 GK hb2;go_wp2_with fail;refine (HV.out _ (hV.call B2)).mono ?_;rintro e w3 ⟨rfl,nY⟩;have T3:=(dw.below hV B2).trans nY;have k3:=nY.blk (hV.call B2) k2 (by decide);have eZ:=nY.blk (hV.call B2) bT (by decide);have ES:=nY.blk (hV.call B2) Bq (by decide);have c3:=k3.cell;have ET:=eZ.cell;have EU:=eZ.frozen;clear HV k2 bT Bq B2 c2 qE qF nY;go_wp2_with fail;refine (HP.out _ T3.1).mono ?_;rintro e w4 ⟨Ap,cp,rfl,_,_,hpl,GL,GM⟩;have ql:dw bs pV w3 w4:=⟨GL,GM⟩;have T4:=T3.trans ql;have k4:=ql.blk T3.1 k3;have dI:=ql.blk T3.1 eZ;have EW:=ql.blk T3.1 ES;have c4:=k4.cell;have JA:=dI.cell;have JB:=dI.frozen;have c4r:=EW.cell;clear HP k3 eZ ES c3 ET EU GL GM;have f4r:=EW.frozen;go_upto_region 17 with fail
  have hgw:w.heap.size+1≠gx+1:=by rw [←hgx];have:=Rw;omega
  have Yx:=(EW).aO 8 (.bool true);have mJ:=(dI).far (p:=⟨gx+1,8,none⟩) (by show w.heap.size+1≠gx+1;exact hgw) (.bool true);have F5:=(af.refl (fun k=>k=gx+1∨k=w.heap.size+1) w4).setCell (p:=⟨gx+1,8,none⟩) (fun _=>.inl rfl) (.bool true);generalize (w4).setCell ⟨gx+1,8,none⟩ (.bool true)=w5 at *;simp only [List.setIfInBounds_toArray,List.set_cons_zero,List.set_cons_succ] at Yx;have c5:=Yx.cell;have ahR:=mJ.cell;have ahS:=mJ.frozen;go_wp2_with fail;change bodyPost _ _ _ _ _ (aL w5 (w.heap.size+1) ⟨pg,n,f,bk,ev,node,0,[],true⟩ (.slice none 0 0));have aR:=aG mJ ⟨pg,n,f,bk,ev,node,0,[],true⟩ (.slice none 0 0);have F9:=aH w5 (w.heap.size+1) ⟨pg,n,f,bk,ev,node,0,[],true⟩ (.slice none 0 0);generalize aL w5 (w.heap.size+1) ⟨pg,n,f,bk,ev,node,0,[],true⟩ (.slice none 0 0)=w9 at *;dsimp only [ai] at aR;have bV:=aR.cell;refine bodyPost_ret (v:=.tuple #[.agg (ai ⟨pg,n,f,bk,ev,node,0,[],true⟩ (.slice none 0 0)),.int .i64 pe]) (by simp [results,results23,go_sem,bV,ai]) rfl ?_;exact ⟨_,rfl,⟨none,0,rfl,Nat.le_refl _,by unfold maxLen;omega,KeptAt.none _ _⟩,T4.fresh (F5.trans (F9.mono (fun k _ hk=>.inr hk))) (fun k hk=>by rcases hk with rfl|rfl <;> omega) (fun k hk=>by rcases hk with rfl|rfl;exact ⟨_,_,EW,by decide,by decide⟩;exact ⟨_,_,dI,by decide,by decide⟩)⟩
 subst h3;rw [if_pos rfl] at hR;have HE:=ae (fun W h=>wP bs pg n pV W h);obtain ⟨E,hE⟩:=aj (bJ pV pg n 1 1 0);rw [hE] at hR HE;obtain ⟨ee,eV⟩:=E;simp only at hR HE;clear hE;by_cases h4:ee=0
 case pos =>
  subst h4;rw [if_pos rfl] at hR;subst hR;clear h2;go_enter func23,ntmps23;go_wp2_with fail;refine (HC.out _ (hV.call hb0)).mono ?_;rintro e w1 ⟨n1,n2,n3,n4,n5,rfl,hb1⟩;have k1:=k0.call hb1;have aN:=kR.call hb1;have B1:=hb0.trans (hb1.mono hb0.size);have hbX:=below_alloc2 (aV w1 (.cells #[.int .i64 n1,.int .i64 n2,.int .i64 n3,.int .i64 n4,.int .i64 n5] 106)) (.cells (ai ⟨pg,n,f,bk,ev,node,0,[],false⟩ (.slice none 0 0)) 43);have kr:=ag.nL w1 (.cells #[.int .i64 n1,.int .i64 n2,.int .i64 n3,.int .i64 n4,.int .i64 n5] 106) 43 (ai ⟨pg,n,f,bk,ev,node,0,[],false⟩ (.slice none 0 0));dsimp only [ai] at hbX kr;obtain ⟨gx,hgx⟩:=aj (w1.heap.size);rw [hgx] at kr;have kX:=k1.call hbX;have nW:=aN.call hbX;have BX:=B1.trans (hbX.mono B1.size);have c1:=(k1.dU (.cells #[.int .i64 n1,.int .i64 n2,.int .i64 n3,.int .i64 n4,.int .i64 n5] 106)).cell;have Rw:w.heap.size+2≤w1.heap.size:=aN.lt;clear HC k0 kR hb0 hb1;go_upto_region 5 with fail
  generalize (w1.alloc _).alloc _=wx at *;have GK:=kr.cell;go_wp2_with fail;refine (HK.out _).mono ?_;rintro e w2 ⟨rfl,hb2⟩;have k2:=kX.call hb2;have bT:=nW.call hb2;have Bq:=kr.call hb2;have B2:=BX.trans (hb2.mono BX.size);have c2:=k2.cell;have qE:=bT.cell;have qF:=bT.frozen;clear HK k1 aN B1 hbX kr kX nW BX c1 GK hb2;go_wp2_with fail;refine (HV.out _ (hV.call B2)).mono ?_;rintro e w3 ⟨rfl,nY⟩;have T3:=(dw.below hV B2).trans nY;have k3:=nY.blk (hV.call B2) k2 (by decide);have eZ:=nY.blk (hV.call B2) bT (by decide);have ES:=nY.blk (hV.call B2) Bq (by decide);have c3:=k3.cell;have ET:=eZ.cell;have EU:=eZ.frozen;clear HV k2 bT Bq B2 c2 qE qF nY;go_wp2_with fail;refine (HP.out _ T3.1).mono ?_;rintro e w4 ⟨Ap,cp,rfl,_,_,hpl,GL,GM⟩;have ql:dw bs pV w3 w4:=⟨GL,GM⟩;have T4:=T3.trans ql;have k4:=ql.blk T3.1 k3;have dI:=ql.blk T3.1 eZ;have EW:=ql.blk T3.1 ES;have c4:=k4.cell;have JA:=dI.cell;have JB:=dI.frozen;have c4r:=EW.cell;clear HP k3 eZ ES c3 ET EU GL GM;go_wp2_with fail;refine (HE.out _ T4.1).mono ?_;rintro e w5 ⟨rfl,Rx⟩;have T5:=T4.trans Rx;have mJ:=Rx.blk T4.1 dI;have c5R:=mJ.cell;have f5R:=mJ.frozen;go_wp2_with fail;change bodyPost _ _ _ _ _ (aL w5 (w.heap.size+1) bn (.slice none 0 0));have aR:=aG mJ bn (.slice none 0 0);have F9:=aH w5 (w.heap.size+1) bn (.slice none 0 0);generalize aL w5 (w.heap.size+1) bn (.slice none 0 0)=w9 at *;dsimp only [ai] at aR;have bV:=aR.cell;refine bodyPost_ret (v:=.tuple #[.agg (ai bn (.slice none 0 0)),.int .i64 pe]) (by simp [results,results23,go_sem,bV,ai]) rfl ?_;exact ⟨_,rfl,⟨none,0,rfl,Nat.le_refl _,by unfold maxLen;omega,KeptAt.none _ _⟩,T5.fresh F9 (fun k hk=>by subst hk;omega) (fun k hk=>by subst hk;exact ⟨_,_,mJ,by decide,by decide⟩)⟩
 have h4':(ee==0)=false:=by simpa using h4
 rw [if_neg h4] at hR;subst hR;clear h2 h4;go_enter func23,ntmps23;go_wp2_with fail;refine (HC.out _ (hV.call hb0)).mono ?_;rintro e w1 ⟨n1,n2,n3,n4,n5,rfl,hb1⟩;have k1:=k0.call hb1;have aN:=kR.call hb1;have B1:=hb0.trans (hb1.mono hb0.size);have hbX:=below_alloc2 (aV w1 (.cells #[.int .i64 n1,.int .i64 n2,.int .i64 n3,.int .i64 n4,.int .i64 n5] 106)) (.cells (ai ⟨pg,n,f,bk,ev,node,0,[],false⟩ (.slice none 0 0)) 43);have kr:=ag.nL w1 (.cells #[.int .i64 n1,.int .i64 n2,.int .i64 n3,.int .i64 n4,.int .i64 n5] 106) 43 (ai ⟨pg,n,f,bk,ev,node,0,[],false⟩ (.slice none 0 0));dsimp only [ai] at hbX kr;obtain ⟨gx,hgx⟩:=aj (w1.heap.size);rw [hgx] at kr;have kX:=k1.call hbX;have nW:=aN.call hbX;have BX:=B1.trans (hbX.mono B1.size);have c1:=(k1.dU (.cells #[.int .i64 n1,.int .i64 n2,.int .i64 n3,.int .i64 n4,.int .i64 n5] 106)).cell;have Rw:w.heap.size+2≤w1.heap.size:=aN.lt;clear HC k0 kR hb0 hb1;go_upto_region 5 with fail
 generalize (w1.alloc _).alloc _=wx at *;have GK:=kr.cell;go_wp2_with fail;refine (HK.out _).mono ?_;rintro e w2 ⟨rfl,hb2⟩;have k2:=kX.call hb2;have bT:=nW.call hb2;have Bq:=kr.call hb2;have B2:=BX.trans (hb2.mono BX.size);have c2:=k2.cell;have qE:=bT.cell;have qF:=bT.frozen;clear HK k1 aN B1 hbX kr kX nW BX c1 GK hb2;go_wp2_with fail;refine (HV.out _ (hV.call B2)).mono ?_;rintro e w3 ⟨rfl,nY⟩;have T3:=(dw.below hV B2).trans nY;have k3:=nY.blk (hV.call B2) k2 (by decide);have eZ:=nY.blk (hV.call B2) bT (by decide);have ES:=nY.blk (hV.call B2) Bq (by decide);have c3:=k3.cell;have ET:=eZ.cell;have EU:=eZ.frozen;clear HV k2 bT Bq B2 c2 qE qF nY;go_wp2_with fail;refine (HP.out _ T3.1).mono ?_;rintro e w4 ⟨Ap,cp,rfl,_,_,hpl,GL,GM⟩;have ql:dw bs pV w3 w4:=⟨GL,GM⟩;have T4:=T3.trans ql;have k4:=ql.blk T3.1 k3;have dI:=ql.blk T3.1 eZ;have EW:=ql.blk T3.1 ES;have c4:=k4.cell;have JA:=dI.cell;have JB:=dI.frozen;have c4r:=EW.cell;clear HP k3 eZ ES c3 ET EU GL GM;go_wp2_with fail;refine (HE.out _ T4.1).mono ?_;rintro e w5a ⟨rfl,Rx⟩;have T5:=T4.trans Rx;have Ux:=Rx.blk T4.1 dI;have Uy:=Rx.blk T4.1 EW;have c5R:=Ux.cell;have f5R:=Ux.frozen;have c5r:=Uy.cell;have f5r:=Uy.frozen;clear dI EW k4 c4 JA JB c4r Rx HE;go_upto_region 17 with fail
 have hgw:w.heap.size+1≠gx+1:=by rw [←hgx];have:=Rw;omega
 have Yx:=(Uy).aO 8 (.bool true);have mJ:=(Ux).far (p:=⟨gx+1,8,none⟩) (by show w.heap.size+1≠gx+1;exact hgw) (.bool true);have F5:=(af.refl (fun k=>k=gx+1∨k=w.heap.size+1) w5a).setCell (p:=⟨gx+1,8,none⟩) (fun _=>.inl rfl) (.bool true);generalize (w5a).setCell ⟨gx+1,8,none⟩ (.bool true)=w5 at *;simp only [List.setIfInBounds_toArray,List.set_cons_zero,List.set_cons_succ] at Yx;have c5:=Yx.cell;have ahR:=mJ.cell;have ahS:=mJ.frozen;go_wp2_with fail;change bodyPost _ _ _ _ _ (aL w5 (w.heap.size+1) ⟨pg,n,f,bk,ev,node,0,[],true⟩ (.slice none 0 0));have aR:=aG mJ ⟨pg,n,f,bk,ev,node,0,[],true⟩ (.slice none 0 0);have F9:=aH w5 (w.heap.size+1) ⟨pg,n,f,bk,ev,node,0,[],true⟩ (.slice none 0 0);generalize aL w5 (w.heap.size+1) ⟨pg,n,f,bk,ev,node,0,[],true⟩ (.slice none 0 0)=w9 at *;dsimp only [ai] at aR;have bV:=aR.cell;refine bodyPost_ret (v:=.tuple #[.agg (ai ⟨pg,n,f,bk,ev,node,0,[],true⟩ (.slice none 0 0)),.int .i64 pe]) (by simp [results,results23,go_sem,bV,ai]) rfl ?_;exact ⟨_,rfl,⟨none,0,rfl,Nat.le_refl _,by unfold maxLen;omega,KeptAt.none _ _⟩,T5.fresh (F5.trans (F9.mono (fun k _ hk=>.inr hk))) (fun k hk=>by rcases hk with rfl|rfl <;> omega) (fun k hk=>by rcases hk with rfl|rfl;exact ⟨_,_,Uy,by decide,by decide⟩;exact ⟨_,_,Ux,by decide,by decide⟩)⟩
theorem zZ (bs:Nat) (V:Vm) (pg f bk ev:Int) (n:Nat) (w:World) (hV:aD w bs V) (hp:0≤pg) (hn:pg+n≤1024) :
  Calls prog 67 #[.pointer (some ⟨bs,0,none⟩),eQ pg n f bk ev] w fun e w'=>∃(A:Option Addr) (cap:Nat),e= .returned (.slice A (pX V pg n).length cap)∧RU w' w'.heap.size A (pX V pg n)∧(∀g o,A=some ⟨g,o,none⟩→w.heap.size≤g)∧(pX V pg n).length≤cap∧cap≤maxLen∧Below w.heap.size w w':=by
 have hb0:=aV w (.cells (bf pg n f bk ev) 25);have k0:=ag.new w 25 (bf pg n f bk ev);have V0:=ae hV;have HK:=ae (fun (q:Int) W h=>QZ bs q V W h);have hof:=Yy V hp hn;unfold pX;rw [Int.toNat_natCast];obtain ⟨SL,Yz⟩:=aj (setOf (qm V pg n));rw [Yz];have EX:=ae Yz;clear Yz;unfold eQ;dsimp only [bf] at k0 hb0 ⊢;obtain ⟨i0,hi,hz0,hz1,hz2⟩:=dW;have hws:IntKind.i64.wrap (pg+(n:Int))=pg+n:=by rw [IntKind.wrap_i64];omega
 clear hV;go_enter func67,ntmps67;go_wp2_with fail
 go_loopw [5,6] (fun v i wr=>∃(k:Nat) (l:List Sp),k≤n∧i= .int .i64 (pg+k)∧Hid (qm V pg k=l)∧wr.ownsRow w.heap.size 140 2 v l.length (ax l)∧Below w.heap.size w wr∧ag wr w.heap.size 25 #[.int .i64 pg,.int .i64 n,.int .i64 f,.int .i64 bk,.int .i64 ev]) (fun _ i _=>(pg+n - intOf i).toNat)
 case atStart=>exact ⟨0,[],by omega,by simp,ae rfl,World.ownsRow_nil _ _ _ _,hb0,k0⟩
 case round =>
  clear hb0 k0;obtain ⟨k,l,hk,rfl,hl,hrow,hB,k1⟩:=hrel;have V1:=V0.out.call hB;have c1:=k1.cell;by_cases hlt:k<n
  ·have hlt':decide (pg+(k:Int)<pg+(n:Int))=true:=by simp;omega
   have hw1:IntKind.i64.wrap (pg+(k:Int)+1)=pg+((k+1:Nat):Int):=by rw [IntKind.wrap_i64];omega
   obtain ⟨kd,hkd⟩:=aj (Du V (pg+(k:Int)));have hst:Hid (qm V pg (k+1)=if kd=3 then l++[(pg+k,1)] else l):=ae (by rw [qm,hkd,hl.out]);have HK1:=HK.out (pg+(k:Int)) wr V1;unfold Du at hkd;rw [hkd] at HK1;have HK2:=ae HK1;obtain ⟨ll,hll⟩:=aj (l.length);have hlb:=zn V pg k;rw [hl.out,hll] at hlb;rw [hll] at hrow;clear hkd HK1 hl;go_wp2_with fail;refine HK2.out.mono ?_;rintro e w1 ⟨rfl,hb1⟩;have B1:=hB.trans (hb1.mono hB.size);have j5:=aB hrow hb1;have hs1:=B1.size;have k2:=k1.call hb1;clear HK2 hrow V1 hB k1 c1;by_cases hk3:kd=3
   ·subst hk3
    have df:Hid (qm V pg (k+1)=l++[(pg+(k:Int),1)]):=ae (by rw [hst.out,if_pos rfl]);have kN:=ag.new w1 140 #[.int .i64 (pg+(k:Int)),.int .i64 1];clear hst
    go_wp2_with (refine wpList_append_own _ rfl (.tmp 32) (.tmp 35) 41 rfl w.heap.size 140 i0 (.agg #[.int .i64 0,.int .i64 0]) 2 16 underlying41 hi hz0 hz1 hz2 rfl (by decide) _ ll (ax l) rfl (j5.alloc _) ⟨w1.heap.size,0,none⟩ 1 1 [.int .i64 (pg+(k:Int)),.int .i64 1] rfl rfl (ja kN) gQ (by unfold maxLen;omega) (by omega) (by simp;omega) ?_;intro v' w3 hown' hgrow _)
    go_roundw
    case rel =>
     refine ⟨k+1,_,by omega,by simp,df,?_,(B1.alloc hs1 _).grown hgrow (by simp;omega) (fun j hj=>(j5.lt j hj).1),(k2.alloc _).grown hgrow (fun e=>k2.not_row j5 (by decide) e.symm)⟩;rw [dE,List.length_append,List.length_singleton,hll];exact hown'
    case measure=>simp [intOf];omega
   ·have anJ:(kd==3)=false:=by simpa using hk3
    have df:Hid (qm V pg (k+1)=l):=ae (by rw [hst.out,if_neg hk3]);clear hst hk3;go_wp2_with fail;go_roundw
    case rel=>exact ⟨k+1,l,by omega,by simp,df,by rw [hll];exact j5,B1,k2⟩
    case measure=>simp [intOf];omega
  ·obtain rfl:k=n:=by omega
   have hlt':decide (pg+(k:Int)<pg+(k:Int))=false:=by simp
   have YA:=hof;rw [hl.out] at YA;have hlb:=zn V pg k;rw [hl.out] at hlb;obtain ⟨A',cap',rfl,gG,hnc,hcm,hfr,hnz⟩:=mU hrow rfl;have HO:=ae (Q8 A' l.length cap' l wr rfl (by unfold maxLen;omega) gG);have Oy:=EX.out;rw [hl.out] at Oy;rw [YA,if_pos rfl,Oy] at HO;generalize l.length=ll at *;clear hl hof YA hrow EX Oy;go_wp2_with fail;refine HO.out.mono ?_;rintro e w1 ⟨A1,c1',rfl,hr1,hm1,hc1,hf1,hb1,_⟩;go_wp2_with fail;go_ret;exact ⟨A1,c1',rfl,hr1,fun g o e=>Nat.le_trans hB.size (hf1 g o e),hm1,hc1,hB.trans (hb1.mono hB.size)⟩
end Go.Proofs.YtjmmgoijnhnnaaaGreat
