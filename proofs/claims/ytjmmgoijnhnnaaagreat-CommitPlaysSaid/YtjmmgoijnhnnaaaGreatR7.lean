/- Walks of layer 12 (commit): what Close does, in plain words; memory across its loop. -/
import Derived.RangeFuncLeaves
import Derived.Test.YtjmmgoijnhnnaaaGreatR6
set_option maxRecDepth 100000
set_option maxHeartbeats 12800000
namespace Go.Pol
open Go Go.RowKit Go.Proofs.Tryz
theorem o6 (L:List Nd) (n:Nat) (p:Int):(iT L n p).2.length=L.length:=by
 unfold iT;split
 ·rfl
 ·split
  ·rfl
  ·show (qQ _ n (-p)).length=_
   rw [zl,List.length_modify]
theorem GN {S:List Sp} (hS:Can S):∀(l:List Sp) (m:Int),0≤m→m+aI l≤1024→(∀u∈l,bB u=true)→∀x∈bS S m l,bB (x.2.2,x.2.1)=true
 | [],_,_,_,_,_,h=>by cases h
 | u::l,m,h0,h1,hv,x,h=>by
  rw [bS] at h;rw [Eo] at h1;have hu:=av.1 (hv u (by simp));have hl:=(iA l (fun y hy=>hv y (by simp [hy]))).1;rcases List.mem_append.1 h with h|h
  ·obtain ⟨y,hy,rfl⟩:=List.mem_map.1 h
   have wO:bB (m,u.2)=true:=av.2 ⟨h0,by show m<1024;omega,hu.2.2.1,by show u.2≤1024 - m;omega⟩;exact (Can.common hS (Can.one wO)).1 y hy
  ·exact GN hS l (m+u.2) (by omega) (by omega) (fun y hy=>hv y (by simp [hy])) x h
theorem zo {S:List Sp} (hS:Can S) {pg n f b ev:Int} (hp:dS pg n f b ev):∀x∈bS S 0 (aA pg n f b ev),bB (x.2.2,x.2.1)=true :=
 GN hS _ 0 (Int.le_refl _) (by have:=(nJ hp).2;omega) (bL hp).1
def dD (n:Nat) (S:Vm×List Nd×List Sp×Int) (x:iF):Vm×List Nd×List Sp×Int :=
 let J:=bJ S.1 x.1 x.2.1 3 2 1
 if J.1=0 then (J.2,(iT S.2.1 n x.2.1).2,ay S.2.2.1 (aZ [(x.2.2,x.2.1)] (0,1024)),S.2.2.2)
 else (J.2,S.2.1,S.2.2.1,if S.2.2.2=0 then J.1 else S.2.2.2)
theorem Ry {n:Nat} {S:Vm×List Nd×List Sp×Int} {x:iF} (hx:bB (x.2.2,x.2.1)=true) (hO:bg S.2.1) (hn:n<S.2.1.length) (hk:Can S.2.2.1) :
  bg (dD n S x).2.1∧n<(dD n S x).2.1.length∧Can (dD n S x).2.2.1:=by
 unfold dD;dsimp only;split
 ·exact ⟨rQ hO hn _,by rw [o6];exact hn,Can.common hk ((Can.one hx).DU (i:=(0,1024)) (by decide)).1⟩
 ·exact ⟨hO,hn,hk⟩
def iG:List Sp→Vm→Int×Vm
 | [],V=>(0,V)
 | x::r,V=>let J:=bJ V x.1 x.2 4 3 1;if J.1≠0 then J else iG r J.2
def fT (V:Vm) (r:Cr):Cr×Int×Vm :=
 let P:=iG (pX V r.pg r.n) V
 if P.1≠0 then (r,P.1,P.2)
 else
  let E:=bJ P.2 r.pg r.n 1 1 0
  if E.1≠0 then (r,E.1,E.2) else (bn,0,E.2)
def dG (V:Vm) (L:List Nd) (r:Cr):Cr×Int×Vm×List Nd :=
 if bE r≠0 then (r,bE r,V,L)
 else if r.cl=true then
  let Q:=fT V r
  (Q.1,Q.2.1,Q.2.2,L)
 else
  let all:=setOf (r.kept++bG 0 r.live)
  let S:=(bS all 0 (aA r.pg r.n r.f r.bk r.ev)).foldl (dD r.node.toNat) (V,L,all,0)
  if S.2.2.2≠0 then ({ r with live:=0,kept:=S.2.2.1 },S.2.2.2,S.1,S.2.1)
  else
   let Q:=fT S.1 { r with live:=0,kept:=S.2.2.1,cl:=true }
   (Q.1,Q.2.1,Q.2.2,S.2.1)
theorem aS.soft {N bs bb:Nat} {V:Vm} {L:List Nd} {w A B:World} (h:aS bs bb V L w A) (hN:w.heap.size≤N) (hs:jW N A B):aS bs bb V L w B:=by
 obtain ⟨T,hF,hT,hB⟩:=hs;obtain ⟨cs,hc⟩:=h.sys.typed;refine ⟨h.sys.far hF (hB _ _ _ hc) (fun _ _ _ _ _ _ _ _ _ _ ⟨_,hr⟩=>hB _ _ _ hr),h.eD.far hF ?_ (fun k ⟨_,_,hd⟩=>hB _ _ _ hd),h.far.trans' hF (fun i hi ht=>absurd (hT i ht) (by omega))⟩;obtain ⟨A',cap,k,_⟩:=h.eD.ex;exact hB _ _ _ k
theorem KeptAt.soft {N:Nat} {A B:World} {q:Option Addr} {us:List Sp} (h:KeptAt A q us) (hs:jW N A B):KeptAt B q us:=by
 obtain ⟨T,hF,_,hB⟩:=hs;exact h.far hF (fun _ _ hg=>hB _ _ _ hg)
structure nM (W:World) (g:Nat) (r:Cr):Prop where
 ex:∃(A:Option Addr) (cap:Nat),ag W g 43 (ai r (.slice A r.kept.length cap))∧KeptAt W A r.kept∧r.kept.length≤cap∧cap≤maxLen
theorem nM.soft {N:Nat} {A B:World} {g:Nat} {r:Cr} (h:nM A g r) (hs:jW N A B):nM B g r:=by
 obtain ⟨q,cap,h1,h2,h3,h4⟩:=h.ex;exact ⟨q,cap,hs.blk h1,h2.soft hs,h3,h4⟩
theorem nM.both {bs bb:Nat} {V V0:Vm} {L:List Nd} {A B:World} {g:Nat} {r:Cr} (h:nM A g r) (h0:aD A bs V0) (hb:aS bs bb V L A B):nM B g r:=by
 obtain ⟨q,cap,h1,h2,h3,h4⟩:=h.ex;exact ⟨q,cap,hb.blk h0 h1,hb.kept h0 h2,h3,h4⟩
theorem nM.call {A B:World} {g:Nat} {r:Cr} (h:nM A g r) (hb:Below A.heap.size A B):nM B g r:=h.soft (N:=0) (.of_below hb)
def mK (o:Option Nat) (W:World):Prop:=∀D,o=some D→W.heap[D]? = some (.deferred (some []))
theorem mK.nil (W:World):mK none W:=fun _ h=>by cases h
theorem mK.far {o:Option Nat} {A B:World} {T:Nat→Prop} (h:mK o A) (hF:af T A B) (hT:∀k,T k→∃t cs,ag A k t cs):mK o B:=fun D e =>
 hF.same (h D e) (fun ht=>by
  obtain ⟨t,cs,hk⟩:=hT D ht;have:=(h D e).symm.trans hk;cases this)
theorem mK.call {o:Option Nat} {A B:World} (h:mK o A) (hb:Below A.heap.size A B):mK o B:=h.far (T:=fun _=>False) (af.of_below hb) (fun _ h=>h.elim)
theorem mK.both {o:Option Nat} {bs bb:Nat} {V V0:Vm} {L:List Nd} {A B:World} (h:mK o A) (h0:aD A bs V0) (hb:aS bs bb V L A B):mK o B:=h.far hb.far (fun k hk=>by
 rcases hk with rfl|⟨_,cs,hc⟩
 ·obtain ⟨cs,hc⟩:=h0.typed
  exact ⟨_,cs,hc⟩
 ·exact ⟨_,cs,hc⟩)
theorem mK.soft {D N:Nat} {W:World} (h:mK (some D) W) (hN:N≤D):jW N W (W.putObj D (.deferred none)) :=
 ⟨fun k=>k=D,af.putObj (T:=fun k=>k=D) (af.refl _ W) (fun _=>rfl) _,fun k hk=>by rw [hk];exact hN,fun k t cs hk e=>by subst e;exact lH (h _ rfl) (fun _ _ _ h=>by cases h) t cs hk⟩
theorem Md (t1 t2 t3 t4:TypeId) (c1 c2 c3 c4:Array Value) (w:World):∃w0:World,w0=(((w.alloc (.cells c1 t1)).alloc (.cells c2 t2)).alloc (.cells c3 t3)).alloc (.cells c4 t4) ∧
  w0.heap.size=w.heap.size+4∧Below w.heap.size w w0∧ag w0 w.heap.size t1 c1∧ag w0 (w.heap.size+1) t2 c2∧ag w0 (w.heap.size+2) t3 c3∧ag w0 (w.heap.size+3) t4 c4:=by
 have e1:=World.size_alloc w (.cells c1 t1);have e2:=World.size_alloc (w.alloc (.cells c1 t1)) (.cells c2 t2);have e3:=World.size_alloc ((w.alloc (.cells c1 t1)).alloc (.cells c2 t2)) (.cells c3 t3);have e4:=World.size_alloc (((w.alloc (.cells c1 t1)).alloc (.cells c2 t2)).alloc (.cells c3 t3)) (.cells c4 t4);have k1:=(((ag.new w t1 c1).dU (.cells c2 t2)).dU (.cells c3 t3)).dU (.cells c4 t4);have k2:=((ag.new (w.alloc (.cells c1 t1)) t2 c2).dU (.cells c3 t3)).dU (.cells c4 t4);have k3:=(ag.new ((w.alloc (.cells c1 t1)).alloc (.cells c2 t2)) t3 c3).dU (.cells c4 t4);have k4:=ag.new (((w.alloc (.cells c1 t1)).alloc (.cells c2 t2)).alloc (.cells c3 t3)) t4 c4;have hb:=(((aV w (.cells c1 t1)).alloc (by omega) (.cells c2 t2)).alloc (by omega) (.cells c3 t3)).alloc (by omega) (.cells c4 t4);rw [e1] at k2;rw [e2,e1] at k3;rw [e3,e2,e1] at k4;exact ⟨_,rfl,by omega,hb,k1,k2,k3,k4⟩
theorem Oz {P:Program} {tE:TypeId} {g:Operand} {ps:Array Tmp} {assign body:Code} {Q:Exit→Act→World→Prop} {a:Act} {w:World} (ib pb:Nat) (tR:TypeId)
  {gf:Nat} {lb:Array Value} (hg:a.eval g= .func (.func gf) #[] lb) (eg:∀args w,(callFunc gf args).run P w= .ok (.enter gf args) w)
  {K:Nat→Prop} {xs:List iF} (hseq:Ud P tE gf lb Om K xs w) (hps:ps=#[pb])
  (hK:∀k,K k→k<w.heap.size)
  (I:List iF→World→Prop) (Ix:Code→List iF→World→Prop)
  (hI:∀pre A B,I pre A→jW w.heap.size A B→I pre B)
  (hIx:∀c pre A B,Ix c pre A→jW w.heap.size A B→Ix c pre B)
  (h0:I [] w)
  (hassign:∀(m l:Nat) (x:iF) (W:World) (C:Act→World→Prop),
   C { tmps:=(a.tmps.setIfInBounds pb (.agg (oM x))).setIfInBounds ib (.pointer (some ⟨W.heap.size,0,none⟩)),defers:=[] } (W.alloc (.cells (oM x) tR)) →
   assign.wpIn (Fence.wide.inRound l) m P (Exit.then C (fun _ _ _=>False)) { tmps:=a.tmps.setIfInBounds pb (.agg (oM x)),defers:=[] } W)
  (hbody:∀(m l:Nat) (X:Nat→Prop) (pre:List iF) (x:iF) (Bx:Nat) (W:World),w.heap.size+2≤W.heap.size→(∀k,X k→∃cs,ag W k tE cs)→(∀t cs,¬ag W w.heap.size t cs)→(∀t cs,¬ag W (w.heap.size+1) t cs)→I pre W→ag W Bx tR (oM x)→pre++[x] <+: xs →
   body.wpIn (Fence.wide.inRound l) m P (QD w.heap.size K X I Ix (pre++[x]) W) { tmps:=(a.tmps.setIfInBounds pb (.agg (oM x))).setIfInBounds ib (.pointer (some ⟨Bx,0,none⟩)),defers:=[] } W)
  (hdone:∀(W:World),w.heap.size+2≤W.heap.size→I xs W→W.heap[w.heap.size]? = some (.deferred (some []))→Q .normal { a with defers:=eX w.heap.size::a.defers } W)
  (hstop:∀(c:Code) (pre:List iF) (W:World),w.heap.size+2≤W.heap.size→pre <+: xs→Ix c pre W→W.heap[w.heap.size]? = some (.deferred (some []))→c.wp P Q { a with defers:=eX w.heap.size::a.defers } W) :
  (Code.rangeFunc g ps assign body).wp P Q a w:=by
 subst hps;refine Ue hg eg hseq (fun _=>rfl) hK I Ix hI hIx h0
  (fun x a' W=>∃Bx,ag W Bx tR (oM x)∧a'={ tmps:=(a.tmps.setIfInBounds pb (.agg (oM x))).setIfInBounds ib (.pointer (some ⟨Bx,0,none⟩)),defers:=[] })
  (fun x a' A B ⟨Bx,h2,h3⟩ hf=>⟨Bx,hf.blk h2,h3⟩) ?_ ?_ hdone hstop
 ·intro m l x W C hC
  have e:(#[pb].zip (Om x)).foldl (fun t (p,v)=>t.setIfInBounds p v) a.tmps=a.tmps.setIfInBounds pb (.agg (oM x)):=by simp [Om]
  rw [e];exact hassign m l x W C (hC _ _ ((Below.refl _ W).alloc (Nat.le_refl _) _) ⟨W.heap.size,ag.new _ _ _,rfl⟩)
 ·rintro m l X pre x a' W hs hX hD hE hi ⟨Bx,h2,rfl⟩ hpre
  exact hbody m l X pre x Bx W hs hX hD hE hi h2 hpre
def Rz (s:Nat) (v:Value) (bx:Nat) (a b c:Value) (W:World):Prop:=W.cell? ⟨s,7,none⟩=some v∧W.cell? ⟨bx,0,none⟩=some a∧W.cell? ⟨bx,1,none⟩=some b∧W.cell? ⟨bx,2,none⟩=some c
theorem Rz.call {s bx:Nat} {v a b c:Value} {W W':World} (h:Rz s v bx a b c W) (hb:Below W.heap.size W W'):Rz s v bx a b c W':=by
 obtain ⟨h1,h2,h3,h4⟩:=h;exact ⟨(hb.cell (block_lt_of_cell h1)).trans h1,(hb.cell (block_lt_of_cell h2)).trans h2,(hb.cell (block_lt_of_cell h3)).trans h3,(hb.cell (block_lt_of_cell h4)).trans h4⟩
def RA (s:Nat) (r:Cr) (v:Value) (g:Nat) (e:Int) (W:World):Prop:=W.cell? ⟨s,0,none⟩=some (.int .i64 r.pg)∧W.cell? ⟨s,1,none⟩=some (.int .i64 r.n)∧W.cell? ⟨s,2,none⟩=some (.int .i64 r.f)∧W.cell? ⟨s,3,none⟩=some (.int .i64 r.bk)∧W.cell? ⟨s,4,none⟩=some (.int .i64 r.ev)∧W.cell? ⟨s,5,none⟩=some (.int .i64 r.node)∧W.cell? ⟨s,6,none⟩=some (.int .i64 r.live)∧W.cell? ⟨s,7,none⟩=some v∧W.cell? ⟨s,8,none⟩=some (.bool r.cl)∧W.cell? ⟨g,0,none⟩=some (.int .i64 e)
theorem RA.of {s g:Nat} {r:Cr} {v:Value} {e:Int} {W:World} {t u:TypeId} (h:ag W s t (ai r v)) (k:ag W g u #[.int .i64 e]):RA s r v g e W :=
 ⟨h.cell 0,h.cell 1,h.cell 2,h.cell 3,h.cell 4,h.cell 5,h.cell 6,h.cell 7,h.cell 8,k.cell 0⟩
theorem Ct {n:Nat}:∀(l:List iF) (S:Vm×List Nd×List Sp×Int),(∀x∈l,bB (x.2.2,x.2.1)=true)→bg S.2.1→n<S.2.1.length→Can S.2.2.1 →
  bg (l.foldl (dD n) S).2.1∧n<(l.foldl (dD n) S).2.1.length∧Can (l.foldl (dD n) S).2.2.1
 | [],S,_,h1,h2,h3=>⟨h1,h2,h3⟩
 | x::l,S,hv,h1,h2,h3=>by
  have h:=Ry (S:=S) (x:=x) (hv x (by simp)) h1 h2 h3;exact Ct l (dD n S x) (fun y hy=>hv y (by simp [hy])) h.1 h.2.1 h.2.2
def Dw (P:Program):List Deferred→World→World→Prop
 | [],w,w'=>w'=w
 | d::ds,w,w'=>∃r w1,d.target= .collected r∧(Instr.takeDeferred r).run P w= .ok [] w1∧Dw P ds w1 w'
theorem wX {P:Program} {F:Fence} {n:Nat}:∀(ds:List Deferred) (w w':World) (fr:Frame) (cs:List Frame),fr.mode= .returning→fr.defers=ds→F.fn fr.fn→F.room (cs.length+1+n)→Dw P ds w w' →
  StepsIn (Machine.fenced P F) P (lone fr cs w) (lone { fr with defers:=[] } cs w')
 | [],w,w',fr,cs,_,hd,_,_,h=>by
  have e:({ fr with defers:=[] }:Frame)=fr:=by rw [←hd]
  have h:w'=w:=h;rw [e,h];exact StepsIn.refl _
 | d::ds,w,w',fr,cs,hm,hd,hb,hr,h=>by
  obtain ⟨r,w1,ht,hk,hrest⟩:=h;have h1:=step_collected (cs:=cs) (by rw [hm];simp) hd ht hk;have i1:(lone fr cs w).fenced P F:=fenced_out hb hr (by rw [hm];simp) hd (fun g hg=>by rw [ht] at hg;simp [Target.leads] at hg);have h2:=wX (F:=F) (n:=n) ds w1 w' { fr with defers:=[]++ds } cs hm rfl hb hr hrest;exact .head i1 h1 h2
def aa9 (P:Program) (fn:Func) (R:Ending→World→Prop):Exit→Act→World→Prop
 | .normal,a,w | .ret,a,w=>∃w',Dw P a.defers w w'∧∃v,(results fn a.tmps).run P w'= .ok v w'∧R (.returned v) w'
 | _,_,_=>False
theorem sH {P:Program} {F:Fence} {n:Nat} {f:FuncId} {fn:Func} {c:Code} {args:Array Value} {u:FrameMode} {w:World} {R:Ending→World→Prop}
  (hf:P.funcs[f]? = some fn) (hb:fn.body=some c) (hF:F.fn f)
  (h:c.wpIn F n P (aa9 P fn R) { tmps:=args++Array.replicate (fn.ntmps - args.size) undef,defers:=[] } w) (hro:F.round=none:=by rfl) :
  CallsDIn F n P f args u w fun e u' w'=>u'=u∧R e w':=by
 refine ⟨hF,fun c₀ cs hu hr=>?_⟩
 let b:Frame:={ (default:Frame) with fn:=f,kind:=.deferred,roundOf:=none }
 have henter:Frame.enter P f args .deferred =
   b.atR { tmps:=args++Array.replicate (fn.ntmps - args.size) undef,defers:=[] } [.code c]:=by
  simp [Frame.enter,Frame.atR,hf,hb,b]
 have hc:({ c₀ with mode:=u }:Frame)=c₀:=by subst hu;rfl
 obtain ⟨e,a',w',hq,harr⟩:=h b [] (c₀::cs) hro.symm hF hr;rw [←henter] at harr;cases e with
 | normal =>
  obtain ⟨w2,hM,v,hr',hR⟩:=hq;have hs:=wX (F:=F) (n:=n) a'.defers w' w2 { b.atR a' [] with mode:=.returning } (c₀::cs) rfl rfl hF hr hM;exact ⟨.returned v,u,w2,_,⟨rfl,hR⟩,(by rw [hc];exact StepsIn.trans (StepsIn.trans harr (.one (fenced_calm (fr:=b.atR a' []) hF hr rfl) (stepR_end rfl))) hs),rfl,rfl,rfl,rfl,fn,hf,hr'⟩
 | ret =>
  obtain ⟨w2,hM,v,hr',hR⟩:=hq;obtain ⟨todo,hs0⟩:=harr.1 rfl;have hs:=wX (F:=F) (n:=n) a'.defers w' w2 { b.atR a' todo with mode:=.returning } (c₀::cs) rfl rfl hF hr hM;exact ⟨.returned v,u,w2,_,⟨rfl,hR⟩,(by rw [hc];exact StepsIn.trans hs0 hs),rfl,rfl,rfl,rfl,fn,hf,hr'⟩
 | panic chain=>exact hq.elim
 | exit id=>exact hq.elim
 | goto l=>exact hq.elim
 | outgrown=>exact hq.elim
def dK (S:Vm×List Sp×Int) (x:iF):Vm×List Sp×Int :=
 let J:=bJ S.1 x.1 x.2.1 3 2 1
 if J.1≠0 then (J.2,setOf (S.2.1++[(x.2.2,x.2.1)]),S.2.2 - x.2.1) else (J.2,S.2.1,S.2.2)
def jy:List iF→List iF→Vm→Int×Vm×List iF
 | [],d,V=>(0,V,d)
 | x::r,d,V=>let J:=bJ V x.1 x.2.1 2 1 2;if J.1≠0 then (J.1,J.2,d) else jy r (d++[x]) J.2
def cZ (V:Vm) (L:List Nd) (r:Cr) (tt:Int):Cr×Int×Vm×List Nd :=
 if bE r≠0 then (r,bE r,V,L)
 else if r.cl=true then (r,9,V,L)
 else if tt<r.live∨oG r<tt then (r,7,V,L)
 else
  let more:=ay (bG r.live tt) (aZ r.kept (0,1024))
  let c:=iO L r.node.toNat (aI more)
  if c.1≠0 then (r,c.1,V,c.2)
  else
   let C:=jy (bS more 0 (aA r.pg r.n r.f r.bk r.ev)) [] V
   if C.1=0 then ({ r with live:=tt,kept:=ay r.kept (aZ (bG 0 tt) (0,1024)) },0,C.2.1,c.2)
   else
    let U:=C.2.2.reverse.foldl dK (C.2.1,r.kept,aI more)
    ({ r with kept:=U.2.1 },C.1,U.1,(iT c.2 r.node.toNat U.2.2).2)
def OA (bs g8 gm k:Nat):Prop:=k=bs∨k=g8∨k=gm
structure ahV (bs g8 gm:Nat) (r:Cr) (S:Vm×List Sp×Int) (w w':World):Prop where
 sys:aD w' bs S.1
 cr:nM w' g8 { r with kept:=S.2.1 }
 many:ag w' gm 3 #[.int .i64 S.2.2]
 far:af (OA bs g8 gm) w w'
theorem aD.soft {N b:Nat} {V:Vm} {A B:World} (h:aD A b V) (hs:jW N A B):aD B b V:=by
 obtain ⟨T,hF,_,hB⟩:=hs;obtain ⟨cs,hc⟩:=h.typed;exact h.far hF (hB _ _ _ hc) (fun _ _ _ _ _ _ _ _ _ _ ⟨_,hr⟩=>hB _ _ _ hr)
theorem bA.soft {N b:Nat} {L:List Nd} {A B:World} (h:bA A b L) (hs:jW N A B):bA B b L:=by
 obtain ⟨T,hF,_,hB⟩:=hs;obtain ⟨A',cap,k,_⟩:=h.ex;exact h.far hF (hB _ _ _ k) (fun k ⟨_,_,hd⟩=>hB _ _ _ hd)
theorem af.soft {N:Nat} {T:Nat→Prop} {w A B:World} (h:af T w A) (hN:w.heap.size≤N) (hs:jW N A B):af T w B:=by
 obtain ⟨T',hF,hT,_⟩:=hs;exact h.trans' hF (fun i hi ht=>absurd (hT i ht) (by omega))
theorem Me {S:Vm×List Sp×Int} {x:iF} (hx:bB (x.2.2,x.2.1)=true) (hk:Can S.2.1) (_:x.2.1≤S.2.2) (h1:S.2.2≤5000) :
  Can (dK S x).2.1∧S.2.2 - x.2.1≤(dK S x).2.2∧(dK S x).2.2≤5000:=by
 have hv:=av.1 hx;simp only at hv;unfold dK;dsimp only;split
 ·exact ⟨ng _,Int.le_refl _,by show S.2.2 - x.2.1≤5000;omega⟩
 ·exact ⟨hk,by show S.2.2 - x.2.1≤S.2.2;omega,h1⟩
def dQ (l:List iF):Int:=(l.map (·.2.1)).sum
theorem GQ:∀(l:List iF) (S:Vm×List Sp×Int),(∀x∈l,bB (x.2.2,x.2.1)=true)→Can S.2.1→dQ l≤S.2.2→S.2.2≤5000 →
  Can (l.foldl dK S).2.1∧S.2.2 - dQ l≤(l.foldl dK S).2.2∧(l.foldl dK S).2.2≤5000
 | [],S,_,h1,_,h3=>⟨h1,by simp [dQ],h3⟩
 | x::l,S,hv,h1,h2,h3=>by
  have hs:dQ (x::l)=x.2.1+dQ l:=by simp [dQ]
  have hx:=hv x (by simp);have hp:∀l':List iF,(∀y∈l',bB (y.2.2,y.2.1)=true)→0≤dQ l':=fun l'=>by
   induction l' with
   | nil=>intro _;simp [dQ]
   | cons y l' ih =>
    intro h;have:=(av.1 (h y (by simp))).2.2.1;have h2:=ih (fun z hz=>h z (by simp [hz]));simp only [dQ,List.map_cons,List.sum_cons] at h2 ⊢;simp only at this;omega
  have hl:=hp l (fun y hy=>hv y (by simp [hy]));have h:=Me (S:=S) (x:=x) hx h1 (by omega) h3;have h':=GQ l (dK S x) (fun y hy=>hv y (by simp [hy])) h.1 (by omega) h.2.2;refine ⟨h'.1,?_,h'.2.2⟩;have:=h'.2.1;simp only [List.foldl_cons];omega
theorem pY (a b:List iF):dQ (a++b)=dQ a+dQ b:=by simp [dQ]
theorem RF (a:List iF):dQ a.reverse=dQ a:=by
 unfold dQ;rw [List.map_reverse,List.sum_reverse]
theorem sI:∀l:List iF,(∀y∈l,bB (y.2.2,y.2.1)=true)→0≤dQ l
 | [],_=>by simp [dQ]
 | y::l,h=>by
  have h1:=(av.1 (h y (by simp))).2.2.1;have h2:=sI l (fun z hz=>h z (by simp [hz]));have hs:dQ (y::l)=y.2.1+dQ l:=by simp [dQ]
  simp only at h1;omega
theorem GR {fv:Nat→Value}:∀{n:Nat} {x:VS},x∈mh fv n→x.1<n∧x.2=fv x.1
 | 0,_,h=>by cases h
 | n+1,x,h=>by
  rcases List.mem_cons.1 h with rfl|h
  ·exact ⟨Nat.lt_succ_self _,rfl⟩
  ·have:=GR h
   exact ⟨by omega,this.2⟩
theorem yD (fv:Nat→Value) (d:List iF):∀n,n≤d.length→(mh fv n).map (fun x=>d.getD x.1 nX)=(d.take n).reverse
 | 0,_=>by simp [mh]
 | n+1,h=>by
  rw [mh,List.map_cons,yD fv d n (by omega),rz nX d (by omega),List.reverse_append];rfl
theorem KN {fv:Nat→Value} {d:List iF} {n:Nat} {pre:List VS} {V:Vm} {K:List Sp} {m:Int} (hn:d.length=n) (hp:pre <+: mh fv n) (hv:∀x∈d,bB (x.2.2,x.2.1)=true) (hC:Can K) (hs:dQ d≤m) (hm:m≤5000) :
  Can ((pre.map (fun x=>d.getD x.1 nX)).foldl dK (V,K,m)).2.1∧0≤((pre.map (fun x=>d.getD x.1 nX)).foldl dK (V,K,m)).2.2∧((pre.map (fun x=>d.getD x.1 nX)).foldl dK (V,K,m)).2.2≤5000:=by
 have hr:=yD fv d n (by omega);rw [List.take_of_length_le (by omega)] at hr;have hq:=hp.map (fun x:VS=>d.getD x.1 nX);rw [hr] at hq;generalize pre.map (fun x=>d.getD x.1 nX)=l at *;have hvl:∀x∈l,bB (x.2.2,x.2.1)=true:=fun x hx=>hv x (List.mem_reverse.1 (hq.subset hx))
 obtain ⟨t,ht⟩:=hq;have h1:=RF d;rw [←ht,pY] at h1;have h2:=sI t (fun x hx=>hv x (List.mem_reverse.1 (by rw [←ht];exact List.mem_append_right _ hx)));have h:=GQ l (V,K,m) hvl hC (by show dQ l≤m;omega) hm;refine ⟨h.1,?_,h.2.2⟩;have:=h.2.1;simp only at this;omega
theorem abd (t1 t2 t3 t4 t5:TypeId) (c1 c2 c3 c4 c5:Array Value) (w:World):∃w0:World,w0=((((w.alloc (.cells c1 t1)).alloc (.cells c2 t2)).alloc (.cells c3 t3)).alloc (.cells c4 t4)).alloc (.cells c5 t5) ∧
  Below w.heap.size w w0∧ag w0 w.heap.size t1 c1∧ag w0 (w.heap.size+1) t2 c2∧ag w0 (w.heap.size+2) t3 c3∧ag w0 (w.heap.size+3) t4 c4∧ag w0 (w.heap.size+4) t5 c5:=by
 obtain ⟨w1,hw1,hs,hb,k1,k2,k3,k4⟩:=Md t1 t2 t3 t4 c1 c2 c3 c4 w;have k5:=ag.new w1 t5 c5;rw [hs] at k5;exact ⟨w1.alloc (.cells c5 t5),by rw [hw1],below_alloc2 hb _,k1.dU _,k2.dU _,k3.dU _,k4.dU _,k5⟩
open Go.Proofs Tryz
theorem Mg (V:Vm) (a n:Int) (call:Nat) (pr:Pg→Bool) (fd:Pg→Pg) :
  ((gT V a n call pr fd).1≠0∧(gT V a n call pr fd).2.pg=V.pg) ∨
  ((gT V a n call pr fd).1=0∧0≤a∧1≤n∧a+n≤1024∧(∀p:Nat,a≤p→(p:Int)<a+n→pr (V.pg p)=true) ∧
   ∀p:Nat,(gT V a n call pr fd).2.pg p=if a≤p∧(p:Int)<a+n then fd (V.pg p) else V.pg p):=by
 unfold gT;by_cases h1:n<1∨a<0∨1024≤a∨1024 - a<n
 ·rw [if_pos h1];exact .inl ⟨(by decide:(7:Int)≠0),rfl⟩
 ·rw [if_neg h1]
  by_cases h2:qN V a.toNat n.toNat pr=false
  ·rw [if_pos h2];exact .inl ⟨(by decide:(9:Int)≠0),rfl⟩
  ·rw [if_neg h2]
   rw [Bool.not_eq_false] at h2;by_cases h3:qO V.rf call=true
   ·rw [if_pos h3];exact .inl ⟨(by decide:(60:Int)≠0),rfl⟩
   ·rw [if_neg h3]
    refine .inr ⟨rfl,by omega,by omega,by omega,fun p p1 p2=>jb.1 h2 p (by omega) (by omega),fun p=>?_⟩;show (if _ then _ else _)=_;by_cases h4:a≤p∧(p:Int)<a+n
    ·rw [if_pos h4,if_pos (by omega)];rfl
    ·rw [if_neg h4,if_neg (by omega)];rfl
def kd (V:Vm) (p:Nat):Int:=(V.pg p).kind
def Apt (s:List Sp):Prop:=(∀x∈s,1≤x.2)∧s.Pairwise (fun a b=>a.1+a.2<b.1)
theorem Es:∀(s:List Sp) (e:Int),(∀x∈s,1≤x.2)→(aW e s=true↔(∀x∈s,e<x.1)∧s.Pairwise (fun a b=>a.1+a.2<b.1))
 | [],e,_=>by simp [aW]
 | x::s,e,h=>by
  rw [aJ,Es s (x.1+x.2) (fun y hy=>h y (by simp [hy])),List.pairwise_cons];constructor
  ·rintro ⟨h1,h2,h3⟩
   refine ⟨fun y hy=>?_,h2,h3⟩;rcases List.mem_cons.1 hy with rfl|hy
   ·exact h1
   ·have:=h2 y hy;have:=h x (by simp);omega
  ·rintro ⟨h1,h2,h3⟩
   exact ⟨h1 x (by simp),h2,h3⟩
theorem Can.apt {s:List Sp} (h:Can s):Apt s :=
 have hw:∀x∈s,1≤x.2:=fun x hx=>(av.1 (h.1 x hx)).2.2.1
 ⟨hw,((Es s (-1) hw).1 h.2).2⟩
structure Dx (m:Int) (L:List Sp) (x:iF):Prop where
 pos:1≤x.2.1
 lo:0≤x.1
 hi:x.1+x.2.1≤1024
 nlo:m≤x.2.2
 nhi:x.2.2+x.2.1≤m+aI L
 page:∀p,x.1≤p→p<x.1+x.2.1→mem p L=true∧(jg p m L).1=x.2.2+(p - x.1)
 num:∀p,mem p L=true→x.2.2≤(jg p m L).1→(jg p m L).1<x.2.2+x.2.1→x.1≤p∧p<x.1+x.2.1
theorem nN:∀(L:List Sp) (m p:Int),(∀u∈L,1≤u.2)→mem p L=true→m≤(jg p m L).1∧(jg p m L).1<m+aI L
 | [],_,_,_,h=>by cases h
 | u::r,m,p,hw,h=>by
  have hu:=hw u (by simp);have hs:aI (u::r)=u.2+aI r:=by simp [aI]
  have hr:0≤aI r:=by
   have:∀l:List Sp,(∀x∈l,1≤x.2)→0≤aI l:=fun l=>by
    induction l with
    | nil=>intro _;simp [aI]
    | cons y l ih =>
     intro h;have:=h y (by simp);have:=ih (fun z hz=>h z (by simp [hz]));simp only [aI,List.map_cons,List.sum_cons] at this ⊢;omega
   exact this r (fun z hz=>hw z (by simp [hz]))
  rw [jg];by_cases hp:u.1≤p∧p<u.1+u.2
  ·rw [if_pos hp]
   simp only;omega
  ·rw [if_neg hp]
   have hm:mem p r=true:=by
    rcases bK.1 h with h|h
    ·exact absurd h hp
    ·exact h
   have:=nN r (m+u.2) p (fun z hz=>hw z (by simp [hz])) hm;omega
theorem Dy:∀(L:List Sp) (m p q:Int),(∀u∈L,1≤u.2)→mem p L=true→mem q L=true→(jg p m L).1=(jg q m L).1→p=q
 | [],_,_,_,_,h,_,_=>by cases h
 | u::r,m,p,q,hw,hp,hq,he=>by
  have hu:=hw u (by simp);have hwr:∀z∈r,1≤z.2:=fun z hz=>hw z (by simp [hz])
  rw [jg,jg] at he;by_cases h1:u.1≤p∧p<u.1+u.2
  ·rw [if_pos h1] at he
   by_cases h2:u.1≤q∧q<u.1+u.2
   ·rw [if_pos h2] at he
    simp only at he;omega
   ·rw [if_neg h2] at he
    have hm:mem q r=true:=(bK.1 hq).resolve_left h2;have:=nN r (m+u.2) q hwr hm;simp only at he;omega
  ·have hm1:mem p r=true:=(bK.1 hp).resolve_left h1
   rw [if_neg h1] at he;by_cases h2:u.1≤q∧q<u.1+u.2
   ·rw [if_pos h2] at he
    have:=nN r (m+u.2) p hwr hm1;simp only at he;omega
   ·rw [if_neg h2] at he
    have hm2:mem q r=true:=(bK.1 hq).resolve_left h2;exact Dy r (m+u.2) p q hwr hm1 hm2 he
theorem qo:∀{L:List Sp},(∀u∈L,1≤u.2)→0≤aI L
 | [],_=>by simp [aI]
 | u::r,h=>by
  have:=h u (by simp);have:=qo (L:=r) (fun z hz=>h z (by simp [hz]));simp only [aI,List.map_cons,List.sum_cons] at this ⊢;omega
theorem o9 {L:List Sp} (h:∀u∈L,bB u=true):∀u∈L,1≤u.2:=fun u hu=>(av.1 (h u hu)).2.2.1
theorem GX {S:List Sp} (hS:Can S) {i:Sp} (hi:bB i=true) {y:Sp} (hy:y∈ay S [i]):1≤y.2∧i.1≤y.1∧y.1+y.2≤i.1+i.2∧∀k,y.1≤k→k<y.1+y.2→mem k S=true:=by
 have hc:=hS.common (Can.one hi);have hv:=av.1 (hc.1 y hy);have hm:∀k,y.1≤k→k<y.1+y.2→mem k (ay S [i])=true:=fun k h1 h2=>List.any_eq_true.2 ⟨y,hy,by simp;omega⟩
 have hq:∀k,y.1≤k→k<y.1+y.2→mem k S=true∧i.1≤k∧k<i.1+i.2:=fun k h1 h2=>by
  have:=hm k h1 h2;rw [hS.iy (Can.one hi),Bool.and_eq_true,iM] at this;exact this
 have h1:=hq y.1 (Int.le_refl _) (by omega);have h2:=hq (y.1+y.2 - 1) (by omega) (by omega);exact ⟨hv.2.2.1,by omega,by omega,fun k a b=>(hq k a b).1⟩
theorem pz {S:List Sp} (hS:Can S):∀(L:List Sp) (m e:Int),0≤m→m+aI L≤1024→(∀u∈L,bB u=true)→aW e L=true→∀x∈bS S m L,Dx m L x∧∀k,x.2.2≤k→k<x.2.2+x.2.1→mem k S=true
 | [],_,_,_,_,_,_,_,h=>by cases h
 | u::r,m,e,h0,h1,hv,hf,x,h=>by
  have hs:aI (u::r)=u.2+aI r:=by simp [aI]
  have hu:=av.1 (hv u (by simp));have Cv:∀y∈r,bB y=true:=fun y hy=>hv y (by simp [hy])
  have hr0:=qo (o9 Cv);have hf':=aJ.1 hf;have low:∀q,mem q r=true→u.1+u.2<q:=fun q hq=>uo hf'.2 (fun y hy=>by have:=o9 Cv y hy;omega) hq
  have wO:bB (m,u.2)=true:=av.2 ⟨h0,by show m<1024;omega,hu.2.2.1,by show u.2≤1024 - m;omega⟩;rw [bS] at h;rcases List.mem_append.1 h with h|h
  ·obtain ⟨y,hy,rfl⟩:=List.mem_map.1 h
   obtain ⟨c1,c2,c3,c4⟩:=GX hS wO hy;simp only at c2 c3;refine ⟨⟨c1,by show 0≤u.1+y.1 - m;omega,by show u.1+y.1 - m+y.2≤1024;omega,c2,by show y.1+y.2≤_;omega,fun p h2 h3=>?_,fun p h2 h3 h4=>?_⟩,c4⟩
   ·simp only at h2 h3
    have hp:u.1≤p∧p<u.1+u.2:=by omega
    refine ⟨bK.2 (.inl hp),?_⟩;rw [jg,if_pos hp];simp only;omega
   ·simp only at h3 h4 ⊢
    rw [jg] at h3 h4;by_cases hp:u.1≤p∧p<u.1+u.2
    ·rw [if_pos hp] at h3 h4
     simp only at h3 h4;omega
    ·rw [if_neg hp] at h3 h4
     have hm:=(bK.1 h2).resolve_left hp;have:=nN r (m+u.2) p (o9 Cv) hm;omega
  ·obtain ⟨R,hR⟩:=pz hS r (m+u.2) _ (by omega) (by omega) Cv hf'.2 x h
   have hnot:∀p,mem p r=true→¬(u.1≤p∧p<u.1+u.2):=fun p hp=>by have:=low p hp;omega
   refine ⟨⟨R.pos,R.lo,R.hi,by have:=R.nlo;omega,by have:=R.nhi;omega,fun p h2 h3=>?_,fun p h2 h3 h4=>?_⟩,hR⟩
   ·obtain ⟨a,b⟩:=R.page p h2 h3
    refine ⟨bK.2 (.inr a),?_⟩;rw [jg,if_neg (hnot p a)];exact b
   ·rw [jg] at h3 h4
    by_cases hp:u.1≤p∧p<u.1+u.2
    ·rw [if_pos hp] at h3 h4
     have:=R.nlo;simp only at h3 h4;omega
    ·rw [if_neg hp] at h3 h4
     exact R.num p ((bK.1 h2).resolve_left hp) h3 h4
theorem Et {S:List Sp} (hS:Can S):∀(L:List Sp) (m e:Int),0≤m→m+aI L≤1024→(∀u∈L,bB u=true)→aW e L=true→(bS S m L).Pairwise (fun x y=>x.2.2+x.2.1≤y.2.2)
 | [],_,_,_,_,_,_=>List.Pairwise.nil
 | u::r,m,e,h0,h1,hv,hf=>by
  have hs:aI (u::r)=u.2+aI r:=by simp [aI]
  have hu:=av.1 (hv u (by simp));have Cv:∀y∈r,bB y=true:=fun y hy=>hv y (by simp [hy])
  have hr0:=qo (o9 Cv);have hf':=aJ.1 hf;have wO:bB (m,u.2)=true:=av.2 ⟨h0,by show m<1024;omega,hu.2.2.1,by show u.2≤1024 - m;omega⟩;rw [bS,List.pairwise_append];refine ⟨?_,Et hS r (m+u.2) _ (by omega) (by omega) Cv hf'.2,fun a ha b hb=>?_⟩
  ·rw [List.pairwise_map]
   exact (Can.apt (hS.common (Can.one wO))).2.imp (fun {a b} h=>by simp only;omega)
  ·obtain ⟨y,hy,rfl⟩:=List.mem_map.1 ha
   obtain ⟨c1,c2,c3,c4⟩:=GX hS wO hy;have:=(pz hS r (m+u.2) _ (by omega) (by omega) Cv hf'.2 b hb).1.nlo;simp only at c2 c3 ⊢;omega
theorem wY {S:List Sp} (hS:Can S):∀(L:List Sp) (m:Int),0≤m→m+aI L≤1024→(∀u∈L,bB u=true)→∀k,mem k S=true→m≤k→k<m+aI L→∃x∈bS S m L,x.2.2≤k∧k<x.2.2+x.2.1
 | [],m,_,_,_,k,_,h2,h3=>by simp [aI] at h3;omega
 | u::r,m,h0,h1,hv,k,hk,h2,h3=>by
  have hs:aI (u::r)=u.2+aI r:=by simp [aI]
  have hu:=av.1 (hv u (by simp));have Cv:∀y∈r,bB y=true:=fun y hy=>hv y (by simp [hy])
  have hr0:=qo (o9 Cv);have wO:bB (m,u.2)=true:=av.2 ⟨h0,by show m<1024;omega,hu.2.2.1,by show u.2≤1024 - m;omega⟩;rw [bS];by_cases hlt:k<m+u.2
  ·have hm:mem k (ay S [(m,u.2)])=true:=by
    rw [hS.iy (Can.one wO),Bool.and_eq_true,iM];exact ⟨hk,h2,hlt⟩
   obtain ⟨y,hy,hyk⟩:=List.any_eq_true.1 hm;have ah3:y.1≤k∧k<y.1+y.2:=by simpa using hyk
   exact ⟨_,List.mem_append_left _ (List.mem_map.2 ⟨y,hy,rfl⟩),ah3⟩
  ·obtain ⟨x,hx,hxk⟩:=wY hS r (m+u.2) (by omega) (by omega) Cv k hk (by omega) (by omega)
   exact ⟨x,List.mem_append_right _ hx,hxk⟩
theorem z8 {f:Int→Bool} (a b:Int) (ha:0≤a) (hb:0≤b) (hab:a+b≤1024) (h:∀q,f q=true→a≤q∧q<a+b):iC f 1024 0=iC f b.toNat a:=by
 have e1:(1024:Nat)=a.toNat+(b.toNat+(1024 - (a+b)).toNat):=by omega
 rw [e1,jY,jY,show (0:Int)+(a.toNat:Int)=a by omega,show a+(b.toNat:Int)=a+b by omega];rw [nk a.toNat 0 (fun q h1 h2=>by rw [Bool.eq_false_iff];intro hq;have:=h q hq;omega)];rw [nk _ (a+b) (fun q h1 h2=>by rw [Bool.eq_false_iff];intro hq;have:=h q hq;omega)];omega
theorem GY {S:List Sp} (hS:Can S):∀(L:List Sp) (m:Int),0≤m→m+aI L≤1024→(∀u∈L,bB u=true)→((bS S m L).map (·.2.1)).sum=iC (fun q=>mem q S) (aI L).toNat m
 | [],m,_,_,_=>by simp [bS,aI,iC]
 | u::r,m,h0,h1,hv=>by
  have hs:aI (u::r)=u.2+aI r:=by simp [aI]
  have hu:=av.1 (hv u (by simp));have Cv:∀y∈r,bB y=true:=fun y hy=>hv y (by simp [hy])
  have hr0:=qo (o9 Cv);have wO:bB (m,u.2)=true:=av.2 ⟨h0,by show m<1024;omega,hu.2.2.1,by show u.2≤1024 - m;omega⟩;have ih:=GY hS r (m+u.2) (by omega) (by omega) Cv;rw [bS,List.map_append,List.sum_append,ih,hs,show (u.2+aI r).toNat=u.2.toNat+(aI r).toNat by omega,jY,show m+(u.2.toNat:Int)=m+u.2 by omega];congr 1;rw [List.map_map];have hc:=hS.common (Can.one wO);have hcl:=Ba hc;unfold cntF at hcl;simp only at hcl;have e0:(1024:Int).toNat=1024:=rfl;rw [e0,z8 m u.2 h0 (by omega) (by omega) (fun q hq=>by
   have hq:mem q (ay S [(m,u.2)])=true:=hq;rw [hS.iy (Can.one wO),Bool.and_eq_true,iM] at hq;exact hq.2)] at hcl
  have e2:(List.map ((fun x:iF=>x.2.1)∘fun x:Sp=>(u.1+x.1 - m,x.2,x.1)) (ay S [(m,u.2)])).sum=aI (ay S [(m,u.2)]):=by
   unfold aI;congr 1
  rw [e2,←hcl];exact (uF _ _ (fun q h2 h3=>by
   show mem q S=mem q (ay S [(m,u.2)]);rw [hS.iy (Can.one wO),show mem q [(m,u.2)]=true from iM.2 ⟨h2,by show q<m+u.2;omega⟩,Bool.and_true])).symm
section
variable {pg n f b ev:Int}
theorem Br {S:List Sp} (hS:Can S) (hp:dS pg n f b ev):(∀x∈bS S 0 (aA pg n f b ev),Dx 0 (aA pg n f b ev) x∧∀k,x.2.2≤k→k<x.2.2+x.2.1→mem k S=true)∧(bS S 0 (aA pg n f b ev)).Pairwise (fun x y=>x.2.2+x.2.1≤y.2.2) ∧
  (∀k,mem k S=true→k<aI (aA pg n f b ev)→∃x∈bS S 0 (aA pg n f b ev),x.2.2≤k∧k<x.2.2+x.2.1):=by
 have hs:=(nJ hp).2;have hc:=bL hp;exact ⟨pz hS _ 0 _ (Int.le_refl _) (by omega) hc.1 hc.2,Et hS _ 0 _ (Int.le_refl _) (by omega) hc.1 hc.2,fun k hk h2=>wY hS _ 0 (Int.le_refl _) (by omega) hc.1 k hk (hS.range hk).1 (by omega)⟩
theorem GZ {S:List Sp} (hS:Can S) (hp:dS pg n f b ev) (hin:∀k,mem k S=true→k<aI (aA pg n f b ev)):((bS S 0 (aA pg n f b ev)).map (·.2.1)).sum=aI S:=by
 have hs:=(nJ hp);have hc:=bL hp;rw [GY hS _ 0 (Int.le_refl _) (by omega) hc.1];have:=Ba hS;unfold cntF at this;simp only at this;have e0:(1024:Int).toNat=1024:=rfl;rw [e0,z8 0 (aI (aA pg n f b ev)) (Int.le_refl _) (by omega) (by omega) (fun q hq=>⟨(hS.range hq).1,by have:=hin q hq;omega⟩)] at this;exact this
end
structure aeT (V:Vm) (a n fr tk:Int) (W:Vm):Prop where
 lo:0≤a
 pos:1≤n
 hi:a+n≤1024
 was:∀p:Nat,a≤p→(p:Int)<a+n→kd V p=fr
 pg:∀p:Nat,W.pg p=if a≤p∧(p:Int)<a+n then iB tk else V.pg p
theorem RH (V:Vm) (a n:Int) (call:Nat) (fr tk:Int) :
  ((bJ V a n call fr tk).1≠0∧(bJ V a n call fr tk).2.pg=V.pg)∨((bJ V a n call fr tk).1=0∧aeT V a n fr tk (bJ V a n call fr tk).2):=by
 rcases Mg V a n call (fun g=>g.kind==fr&&!g.dz) (fun _=>iB tk) with h|⟨h1,h2,h3,h4,h5,h6⟩
 ·exact .inl h
 ·refine .inr ⟨h1,h2,h3,h4,fun p hp hp2=>?_,h6⟩
  have:=h5 p hp hp2;simp only [Bool.and_eq_true,beq_iff_eq] at this;exact this.1
theorem wZ (L:List Nd) (n:Nat) (p:Int):(iO L n p).2.length=L.length:=by
 unfold iO;split
 ·rfl
 ·split
  ·rfl
  ·show (qQ _ n p).length=_
   rw [zl,List.length_modify]
theorem OD {s:List Sp} (hs:Can s):iC (fun q=>mem q s) 1024 0=aI s:=Ba hs
theorem sJ {A B:List Sp} (hA:Can A) (hB:Can B) (k:Int):mem k (ay A (aZ B (0,1024)))=(mem k A&&!mem k B):=by
 have hg:=hB.DU (i:=(0,1024)) (by decide);rw [hA.iy hg.1];cases h:mem k A with
 | false=>rfl
 | true =>
  have hr:=hA.range h;rw [Bool.true_and,Bool.true_and,Bool.eq_iff_iff,hg.2 k];simp;omega
theorem pE {A B:List Sp} (hA:Can A) (hB:Can B):Can (ay A (aZ B (0,1024))):=hA.common (hB.DU (i:=(0,1024)) (by decide)).1
theorem G5 {A B:List Sp} (hA:Can A) (hB:Can B) (k:Int):mem k (setOf (A++B))=(mem k A||mem k B):=by
 rw [Bool.eq_iff_iff,wQ (fun x hx=>by
  rcases List.mem_append.1 hx with h|h
  ·exact hA.1 x h
  ·exact hB.1 x h),mem_append]
theorem vM (a b k:Int):mem k (bG a b)=(decide (a≤k)&&decide (k<b)):=by
 unfold bG;by_cases h:b≤a
 ·rw [if_pos h,fB]
  symm;rw [Bool.eq_false_iff];intro hk;simp at hk;omega
 ·rw [if_neg h,Bool.eq_iff_iff,iM]
  simp;omega
theorem VT {a b:Int} (ha:0≤a) (hb:b≤1024):Can (bG a b):=by
 unfold bG;split
 ·exact ⟨fun x hx=>(by cases hx),rfl⟩
 ·exact Can.one (av.2 ⟨ha,by show a<1024;omega,by show 1≤b - a;omega,by show b - a≤1024 - a;omega⟩)
theorem VU {pg n f bk ev:Int} (hp:dS pg n f bk ev) {k:Int} (h0:0≤k) (h1:k<aI (aA pg n f bk ev)):Dx 0 (aA pg n f bk ev) ((lu (aA pg n f bk ev) k).1,1,k):=by
 obtain ⟨m,rfl⟩:∃m:Nat,k=m:=⟨k.toNat,by omega⟩;obtain ⟨h2,h3,h4,h5,h6,_⟩:=Gm hp m h1;rw [h2];refine ⟨Int.le_refl _,h5,by show _+1≤1024;omega,h0,by show (m:Int)+1≤_;omega,fun p a b=>?_,fun p a b c=>?_⟩
 ·simp only at a b
  have e:p=mW (aA pg n f bk ev) m:=by omega
  subst e;rw [h3];exact ⟨h4,by simp⟩
 ·simp only at b c ⊢
  have e:p=mW (aA pg n f bk ev) m:=Dy _ 0 p _ (rO hp) a h4 (by rw [h3];simp only;omega);omega
theorem G6:∀(l:List iF),(∀x∈l,1≤x.2.1)→(l.length:Int)≤dQ l
 | [],_=>by simp [dQ]
 | x::l,h=>by
  have h1:=h x (by simp);have h2:=G6 l (fun y hy=>h y (by simp [hy]));have e:dQ (x::l)=x.2.1+dQ l:=by simp [dQ]
  simp only [List.length_cons];omega
theorem OE {pg n f bk ev live tt:Int} {K:List Sp} (hp:dS pg n f bk ev) (hK:Can K) (h0:0≤live) (h1:tt≤aI (aA pg n f bk ev)) :
  dQ (bS (ay (bG live tt) (aZ K (0,1024))) 0 (aA pg n f bk ev))=aI (ay (bG live tt) (aZ K (0,1024)))∧(bS (ay (bG live tt) (aZ K (0,1024))) 0 (aA pg n f bk ev)).length≤1024 ∧
   0≤aI (ay (bG live tt) (aZ K (0,1024)))∧aI (ay (bG live tt) (aZ K (0,1024)))≤1024:=by
 have hs:=(nJ hp).2;have hcb:Can (bG live tt):=VT h0 (by omega);have hc:=pE hcb hK;have hlen:=GZ hc hp (fun k hk=>by
  rw [sJ hcb hK,vM,Bool.and_eq_true] at hk;have:=hk.1;simp at this;omega)
 have hcount:=OD hc;have hnn:=qo (o9 hc.1);have h24:=(Ee (fun q=>mem q (ay (bG live tt) (aZ K (0,1024)))) 1024 0).2;have hl:=G6 _ (fun x hx=>((Br hc hp).1 x hx).1.pos);have e:dQ (bS (ay (bG live tt) (aZ K (0,1024))) 0 (aA pg n f bk ev))=aI (ay (bG live tt) (aZ K (0,1024))):=hlen;exact ⟨e,by omega,hnn,by omega⟩
end Go.Pol
namespace Go.Proofs.YtjmmgoijnhnnaaaGreat
open Go Go.Proofs Go.RowKit Go.Pol Go.Shelf Tryz
attribute [local go_sem] Oper.semAt_some aC au az ah
theorem RB (bs g4 gx g8 gm:Nat) (V:Vm) (r:Cr) (m:Int) (x:iF) (w:World) (hV:aD w bs V) (k4:ag w g4 44 #[.pointer (some ⟨bs,0,none⟩)]) (kx:ag w gx 137 (oM x)) (hc:nM w g8 r) (km:ag w gm 3 #[.int .i64 m]) (hC:Go.Pol.Can r.kept) (hx:bB (x.2.2,x.2.1)=true) (hm : -5000≤m∧m≤5000) :
  Calls prog 60 #[.pointer (some ⟨g4,0,none⟩),.pointer (some ⟨gx,0,none⟩),.pointer (some ⟨g8,0,none⟩),.pointer (some ⟨gm,0,none⟩)] w fun e w'=>e= .returned (.tuple #[])∧ahV bs g8 gm r (dK (V,r.kept,m) x) w w':=by
 obtain ⟨xa,xb,xn⟩:=x;obtain ⟨R,hR⟩:=aj (dK (V,r.kept,m) (xa,xb,xn));rw [hR];unfold dK at hR;simp only at hR hx;have kZ:=av.1 hx;simp only at kZ;have HD:=ae (fun W h=>uV bs xa xb V W h);obtain ⟨J,hJ⟩:=aj (bJ V xa xb 3 2 1);rw [hJ] at hR HD;obtain ⟨je,jV⟩:=J;simp only at hR HD;obtain ⟨pg,n,f,bk,ev,node,live,K,cl⟩:=r;obtain ⟨A,cap,k8,hk,hl,hcm⟩:=hc.ex;simp only at hR k8 hk hl hC;obtain ⟨kl,YB⟩:=aj (K.length);have hkl:=ae YB;rw [YB] at k8 hl;have hwm:IntKind.i64.wrap (m - xb)=m - xb:=by rw [IntKind.wrap_i64];omega
 dsimp only [oM] at kx;have c4:=k4.cell;have cx:=kx.cell;clear hJ hc YB;by_cases h0:je=0
 ·subst h0
  rw [if_neg (by simp)] at hR;subst hR;go_enter func60,ntmps60;go_wp2_with fail;refine (HD.out _ hV).mono ?_;rintro e w1 ⟨rfl,h1⟩;go_wp2_with fail
  go_end0
  exact ⟨rfl,h1.1,⟨A,cap,by simp only;rw [hkl.out];exact h1.blk hV k8,hk.far h1.2 (fun g cs hg e=>by have e:g=bs:=e;subst e;obtain ⟨es,he⟩:=hV.typed;exact hg.ne he),by simp only;rw [hkl.out];exact hl,hcm⟩,h1.blk hV km,h1.2.mono (fun _ _ h=>.inl h)⟩
 have h0':(je != 0)=true:=by simpa using h0
 rw [if_pos h0] at hR;subst hR;clear h0;have HU:=ae (fun W A2 h h2=>yB A A2 kl cap 1 1 K [(xn,xb)] W hkl.out hl hcm h rfl (Nat.le_refl _) (by unfold maxLen;omega) h2 hC (Can.one hx));unfold nV at HU;generalize setOf (K++[(xn,xb)])=K2 at *;go_enter func60,ntmps60;go_wp2_with fail;refine (HD.out _ hV).mono ?_;rintro e w1 ⟨rfl,h1⟩;have k81:=h1.blk hV k8;have lY:=h1.blk hV kx;have JD:=h1.blk hV km;have hk1:=hk.far h1.2 (fun g cs hg e=>by have e:g=bs:=e;subst e;obtain ⟨es,he⟩:=hV.typed;exact hg.ne he);go_upto_region 1 with fail
 have hbd:=(Below.refl w1.heap.size w1).drew;have T2:=h1.aU hbd;have k82:=k81.call hbd;have gp:=lY.call hbd;have RD:=JD.call hbd;have hk2:=hk1.call hbd;refine bO ?_;refine bD (Rz g8 (.slice A kl cap) gx (.int .i64 xa) (.int .i64 xb) (.int .i64 xn)) [6,7,8,9] (by kernel_rfl) ?_;generalize w1.drew=wd at *;have hS:Rz g8 (.slice A kl cap) gx (.int .i64 xa) (.int .i64 xb) (.int .i64 xn) wd:=⟨k82.cell 7,gp.cell 0,gp.cell 1,gp.cell 2⟩;clear k81 lY JD hk1 k8 kx km hk h1 c4 cx HD hbd;refine aX 0 hS ?_;refine aX 1 hS ?_;refine aX 2 hS ?_;refine fu 3 fun K hK=>?_
 go_simp;refine ((Cm xa xb xn wd)).mono ?_;rintro (e w4 ⟨g4',rfl,Ox,hg4,hb4⟩);refine hK.out _ _ (fun _=>hS.call hb4) (fun hS=>?_);clear hK K;replace hS:=hS rfl;try simp only [Act.put,gM,gN,gP]
 have HU4:=ae (HU.out w4 _ (hk2.call hb4).ru Ox);refine fu 4 fun K hK=>?_
 go_simp;refine (HU4.out).mono ?_;rintro (e w5 ⟨A5,c5,rfl,hk5,hl5,OB,hb5⟩);refine hK.out _ _ (fun _=>hS.call hb5) (fun hS=>?_);clear hK K;replace hS:=hS rfl;try simp only [Act.put,gM,gN,gP]
 have uI:=hb4.trans (hb5.mono hb4.size);have T5:=T2.aU uI;have OC:=k82.call uI;have l6:=gp.call uI;have YC:=RD.call uI;refine aX 5 hS ?_;refine fD 6 ?_;refine fD 7 ?_;refine fD 8 ?_;have c85:=OC.cell;have f85:=OC.frozen;refine fu 9 fun K hK=>?_
 go_simp;refine hK.out _ _ (fun h=>absurd h (by decide)) (fun _=>?_);clear hK;refine bz (by kernel_rfl) ?_ _;refine aT ?_;have hne:gm≠g8:=fun e=>by subst e;exact YC.ne OC
 have hnx:gx≠g8:=fun e=>by subst e;exact l6.ne OC
 have hnm:g8≠gm:=fun e=>hne e.symm
 have F6:af (fun k=>k=g8∨k=gm) w5 ((w5.setCell ⟨g8,7,none⟩ (.slice A5 K2.length c5))):=af.setCell (T:=fun k=>k=g8∨k=gm) (p:=⟨g8,7,none⟩) (af.refl _ w5) (fun _=>.inl rfl) _;have k86:=OC.aO 7 (.slice A5 K2.length c5);have oH:=l6.far (p:=⟨g8,7,none⟩) hnx (.slice A5 K2.length c5);have km6:=YC.far (p:=⟨g8,7,none⟩) hne (.slice A5 K2.length c5);generalize w5.setCell ⟨g8,7,none⟩ (.slice A5 K2.length c5)=w6 at *;simp only [List.setIfInBounds_toArray,List.set_cons_zero,List.set_cons_succ] at k86;have cx6:=oH.cell;have cm6:=km6.cell;have fm6:=km6.frozen;clear hS c85 f85;go_wp2_with fail
 go_end0
 have F7:af (fun k=>k=g8∨k=gm) w5 (w6.setCell ⟨gm,0,none⟩ (.int .i64 (m - xb))):=af.setCell (T:=fun k=>k=g8∨k=gm) (p:=⟨gm,0,none⟩) F6 (fun _=>.inr rfl) _;refine ⟨rfl,?_,⟨A5,c5,k86.far (p:=⟨gm,0,none⟩) hnm _,hk5.far F7 (fun g cs hg e=>by rcases e with rfl|rfl;exact OC.ne hg;exact YC.ne hg),hl5,OB⟩,km6.aO 0 (.int .i64 (m - xb)),(T5.2.mono (fun _ _ h=>.inl h)).trans (F7.mono (fun _ _ h=>.inr h))⟩;obtain ⟨es,he⟩:=T5.1.typed;exact T5.1.far F7 (fun e=>by rcases e with rfl|rfl;exact OC.ne he;exact YC.ne he) (fun _ _ _ _ _ _ _ _ _ _ ⟨_,hr⟩ e=>by rcases e with rfl|rfl;exact OC.ne hr;exact YC.ne hr)
def EY (g4 g8 gm b:Nat):Value:=.func (.func 60) #[] #[.pointer (some ⟨g4,0,none⟩),.pointer (some ⟨b,0,none⟩),.pointer (some ⟨g8,0,none⟩),.pointer (some ⟨gm,0,none⟩)]
theorem Mf (ge gu g5 g6 gm nn:Nat) (u:FrameMode) (w:World) (ke:ag w ge 36 #[.int .i64 0]) :
  CallsDIn Fence.wide nn prog 55 #[.pointer (some ⟨ge,0,none⟩),.pointer (some ⟨gu,0,none⟩),.pointer (some ⟨g5,0,none⟩),.pointer (some ⟨g6,0,none⟩),.pointer (some ⟨gm,0,none⟩)] u w fun e u' w'=>u'=u∧e= .returned (.tuple #[])∧w'=w:=by
 have ce:=ke.cell;refine sH (R:=fun e w'=>e= .returned (.tuple #[])∧w'=w) func55 rfl trivial (wpIn_wide.2 ?_);simp only [ntmps55,List.size_toArray,List.length_cons,List.length_nil,Nat.reduceAdd,Nat.reduceSub,Array.replicate_succ,Array.replicate_zero,List.push_toArray,List.append_toArray,List.nil_append,List.cons_append];go_wp2_with fail;exact ⟨w,rfl,_,results_none rfl _ _ _,rfl,rfl⟩
theorem RG (bs bb ge gu g4 g5 g6 g8 gm nn nd:Nat) (V:Vm) (L:List Nd) (rr rN:Cr) (sv:Value) (many er:Int) (done:List iF) (bx:Nat→Nat) (Au:Option Addr) (n cap:Nat) (u:FrameMode) (w:World)
  (her:er≠0) (hV:aD w bs V) (hB:bA w bb L) (hO:bg L) (hnl:nd<L.length) (ke:ag w ge 36 #[.int .i64 er]) (ku:ag w gu 129 #[.slice Au n cap]) (hn:done.length=n) (hn1:n≤1000000)
  (hfn:GG w Au (fun k=>∃o,Au=some ⟨k,o,none⟩) (fun i=>EY g4 g8 gm (bx i)) n) (hty:∀g o,Au=some ⟨g,o,none⟩→∃cs,ag w g 1 cs)
  (k4:ag w g4 44 #[.pointer (some ⟨bs,0,none⟩)]) (k5:ag w g5 45 #[.pointer (some ⟨bb,0,none⟩)]) (k6:ag w g6 43 (ai rr sv)) (hnd:rr.node=nd) (h68:g6≠g8)
  (hx:∀i,i<n→ag w (bx i) 137 (oM (done.getD i nX))) (hc:nM w g8 rN) (km:ag w gm 3 #[.int .i64 many]) (hvd:∀x∈done,bB (x.2.2,x.2.1)=true) (hC:Go.Pol.Can rN.kept) (hs:dQ done≤many) (hm:many≤5000) :
  CallsDIn Fence.wide nn prog 55 #[.pointer (some ⟨ge,0,none⟩),.pointer (some ⟨gu,0,none⟩),.pointer (some ⟨g5,0,none⟩),.pointer (some ⟨g6,0,none⟩),.pointer (some ⟨gm,0,none⟩)] u w fun e u' w'=>u'=u∧e= .returned (.tuple #[]) ∧
   aD w' bs (done.reverse.foldl dK (V,rN.kept,many)).1∧bA w' bb (iT L nd (done.reverse.foldl dK (V,rN.kept,many)).2.2).2∧nM w' g8 { rN with kept:=(done.reverse.foldl dK (V,rN.kept,many)).2.1 }∧af (fun k=>OA bs g8 gm k∨ko bb w k) w w':=by
 have ce:=ke.cell;have cu:=ku.cell;have anK:(er==0)=false:=by simpa using her
 have kB:=ag.new w 129 #[.slice Au n cap];have hb1:=aV w (.cells #[.slice Au n cap] 129);have HBk:=ae (JC Au n cap w);refine sH (R:=fun e w'=>e= .returned (.tuple #[])∧aD w' bs (done.reverse.foldl dK (V,rN.kept,many)).1∧bA w' bb (iT L nd (done.reverse.foldl dK (V,rN.kept,many)).2.2).2∧nM w' g8 { rN with kept:=(done.reverse.foldl dK (V,rN.kept,many)).2.1 }∧af (fun k=>OA bs g8 gm k∨ko bb w k) w w') func55 rfl trivial (wpIn_wide.2 ?_);simp only [ntmps55,List.size_toArray,List.length_cons,List.length_nil,Nat.reduceAdd,Nat.reduceSub,Array.replicate_succ,Array.replicate_zero,List.push_toArray,List.append_toArray,List.nil_append,List.cons_append]
 go_wp2_with (go_at_call 56;refine HBk.out.mono ?_;rintro e w1 ⟨rfl,hw1⟩)
 rw [←hw1] at kB hb1 ⊢;obtain ⟨B1,hB1⟩:=aj (w.heap.size);rw [hB1] at kB;simp only [hB1];have hseq:=GH 140 B1 Au n cap (fun i=>EY g4 g8 gm (bx i)) (fun k=>k=B1∨∃o,Au=some ⟨k,o,none⟩) w1 (.inl rfl) hn1 kB (fun i hi=>by
  obtain ⟨g,e,hg,hcell⟩:=hfn i hi;exact ⟨g,e,.inr ⟨0,e⟩,((af.of_below (T:=fun _=>False) hb1).cell hcell id)⟩)
 have ah0:B1<w1.heap.size:=kB.lt;refine Ue (by rfl) Cn hseq (fun _=>rfl) (fun k hk=>by
   rcases hk with rfl|⟨o,e⟩
   ·exact ah0
   ·obtain ⟨cs,hcs⟩:=hty k o e
    exact (hcs.call hb1).lt)
  (fun pre W=>∃S,Hid ((pre.map (fun x=>done.getD x.1 nX)).foldl dK (V,rN.kept,many)=S)∧aD W bs S.1∧bA W bb L∧nM W g8 { rN with kept:=S.2.1 }∧ag W gm 3 #[.int .i64 S.2.2]∧af (OA bs g8 gm) w W ∧
   ag W g4 44 #[.pointer (some ⟨bs,0,none⟩)]∧ag W g5 45 #[.pointer (some ⟨bb,0,none⟩)]∧ag W g6 43 (ai rr sv)∧(∀i,i<n→ag W (bx i) 137 (oM (done.getD i nX)))∧(∃cs,ag W B1 129 cs)∧(∀g o,Au=some ⟨g,o,none⟩→∃cs,ag W g 1 cs))
  (fun _ _ _=>False) ?hI (fun _ _ _ _ h _=>h.elim) ?h0
  (fun x a' _=>a'={ tmps:=#[.pointer (some ⟨ge,0,none⟩),.pointer (some ⟨gu,0,none⟩),.pointer (some ⟨g5,0,none⟩),.pointer (some ⟨g6,0,none⟩),.pointer (some ⟨gm,0,none⟩),undef,x.2,.int .i64 er,.bool false,.slice Au n cap,.func (.func 123) #[] #[.pointer (some ⟨B1,0,none⟩)],.int .i64 x.1,x.2,undef,undef,undef,undef,undef,undef,undef],defers:=[] })
  (fun _ _ _ _ h _=>h) ?assign ?body ?done (fun _ _ _ _ _ h _=>h.elim)
 case h0 =>
  obtain ⟨q,cq,h1,h2,h3,h4⟩:=hc.ex;exact ⟨_,ae rfl,hV.call hb1,hB.call hb1,hc.call hb1,km.call hb1,.of_below hb1,k4.call hb1,k5.call hb1,k6.call hb1,fun i hi=>(hx i hi).call hb1,⟨_,kB⟩,fun g o e=>(hty g o e).imp fun cs h=>h.call hb1⟩
 case hI =>
  rintro pre WA WB ⟨S,h1,h2,h3,h4,h5,h6,h7,h8,h9,h10,⟨c11,h11⟩,h12⟩ o7;exact ⟨S,h1,h2.soft o7,h3.soft o7,h4.soft o7,o7.blk h5,af.soft h6 hb1.size o7,o7.blk h7,o7.blk h8,o7.blk h9,fun i hi=>o7.blk (h10 i hi),⟨c11,o7.blk h11⟩,fun g o e=>(h12 g o e).imp fun cs h=>o7.blk h⟩
 case assign =>
  intro mm l x W C hC;obtain ⟨xi,xv⟩:=x;have hC2:=hC _ W (Below.refl _ _) rfl;simp [bkA] at hC2 ⊢
  gi_wp2
  exact hC2
 case body =>
  rintro mm l X pre x a' W hs2 hX hD hE ⟨S,hS,V1,B1',hc1,JD,hF1,iQ,jM,YD,hx1,⟨c11,kB1⟩,YE⟩ rfl hpre;obtain ⟨hxi,hxv⟩:=GR (hpre.subset (by simp:x∈pre++[x]));obtain ⟨xi,xv⟩:=x;simp only at hxi hxv;subst hxv;have hup:=KN (V:=V) hn ((List.prefix_append pre _).trans hpre) hvd hC hs hm;rw [hS.out] at hup;have hst:Hid (((pre++[(xi,EY g4 g8 gm (bx xi))]).map (fun x=>done.getD x.1 nX)).foldl dK (V,rN.kept,many)=dK S (done.getD xi nX)):=ae (by rw [List.map_append,List.foldl_append,hS.out];rfl);have kZ:=hvd (done.getD xi nX) (by rw [List.getD_eq_getElem?_getD,List.getElem?_eq_getElem (by omega)];exact List.getElem_mem _);have lY:=hx1 xi hxi;generalize done.getD xi nX=xd at *;obtain ⟨SV,Sk,Sm⟩:=S;simp only at V1 hc1 JD hup;have HU:=ae (RB bs g4 (bx xi) g8 gm SV { rN with kept:=Sk } Sm xd W V1 iQ lY hc1 JD hup.1 kZ (by omega));simp only [EY];have YF:∀k t cs,ag W k t cs→t≠71→(t=43→k≠g8)→t≠3→¬OA bs g8 gm k:=by
   intro k t cs hb h1 h2 h3 hz;rcases hz with h|h|h
   ·subst h;obtain ⟨es,he⟩:=V1.typed;exact hb.ne he h1
   ·obtain ⟨q,cq,hq,_⟩:=hc1.ex
    by_cases e:t=43
    ·exact h2 e h
    ·subst h;exact hb.ne hq e
   ·subst h;exact hb.ne JD h3
  have Cu:∀k,OA bs g8 gm k→¬((k=B1∨∃o,Au=some ⟨k,o,none⟩)∨X k∨k=w1.heap.size∨k=w1.heap.size+1):=by
   intro k hk hz;have ⟨t,cs,hb,ht⟩:∃t cs,ag W k t cs∧(t=71∨t=43∨t=3):=by
    rcases hk with rfl|rfl|rfl
    ·obtain ⟨es,he⟩:=V1.typed;exact ⟨_,es,he,.inl rfl⟩
    ·obtain ⟨q,cq,hq,_⟩:=hc1.ex;exact ⟨_,_,hq,.inr (.inl rfl)⟩
    ·exact ⟨_,_,JD,.inr (.inr rfl)⟩
   rcases hz with (h|⟨o,h⟩)|h|h|h
   ·subst h;exact hb.ne kB1 (by rcases ht with rfl|rfl|rfl <;> decide)
   ·obtain ⟨cs',hc'⟩:=YE k o h;exact hb.ne hc' (by rcases ht with rfl|rfl|rfl <;> decide)
   ·obtain ⟨cs',hc'⟩:=hX k h;exact hb.ne hc' (by rcases ht with rfl|rfl|rfl <;> decide)
   ·subst h;exact hD _ _ hb
   ·subst h;exact hE _ _ hb
  have mM:=ae YF;have ah1:=ae Cu;clear YF Cu hD hE hX
  gi_wp2_with fail
  refine (callsIn_wide.2 HU.out).mono ?_;rintro e W2 ⟨rfl,hU⟩
  gi_wp2_with fail
  refine ⟨hU.far.mono (fun k _ h=>ah1.out k h),_,hst,hU.sys,?_,hU.cr,hU.many,hF1.trans hU.far,hU.far.blk iQ (mM.out _ _ _ iQ (by decide) (fun h=>absurd h (by decide)) (by decide)),hU.far.blk jM (mM.out _ _ _ jM (by decide) (fun h=>absurd h (by decide)) (by decide)),hU.far.blk YD (mM.out _ _ _ YD (by decide) (fun _=>h68) (by decide)),fun i hi=>hU.far.blk (hx1 i hi) (mM.out _ _ _ (hx1 i hi) (by decide) (fun h=>absurd h (by decide)) (by decide)),⟨c11,hU.far.blk kB1 (mM.out _ _ _ kB1 (by decide) (fun h=>absurd h (by decide)) (by decide))⟩,fun g o e=>(YE g o e).imp fun cs h=>hU.far.blk h (mM.out _ _ _ h (by decide) (fun h=>absurd h (by decide)) (by decide))⟩;obtain ⟨qb,cb,kb,_⟩:=B1'.ex;exact B1'.far hU.far (mM.out _ _ _ kb (by decide) (fun h=>absurd h (by decide)) (by decide)) (fun k ⟨_,_,hd⟩=>mM.out _ _ _ hd (by decide) (fun h=>absurd h (by decide)) (by decide))
 case done =>
  rintro W hs2 ⟨S,hS,V1,B1',hc1,JD,hF1,iQ,jM,YD,hx1,_,YE⟩ hd;have hup:=KN (V:=V) hn (List.prefix_refl (mh (fun i=>EY g4 g8 gm (bx i)) n)) hvd hC hs hm;have hr:=yD (fun i=>EY g4 g8 gm (bx i)) done n (by omega);rw [List.take_of_length_le (by omega)] at hr;rw [hr] at hS hup;rw [hS.out] at hup;have hSH:=ae hS.out;obtain ⟨SV,Sk,Sm⟩:=S;simp only at V1 hc1 JD hup;have HG:=ae (Bh bb nd Sm L W B1' hO hnl);have GU:=hb1.size;generalize w1.heap.size=D at *;have c5:=jM.cell;have cm:=JD.cell;obtain ⟨pg,nw,f,bk,ev,node,live,K,cl⟩:=rr;simp only at hnd;subst hnd;dsimp only [ai] at YD;have c6:=YD.cell;go_wp2_with fail;refine HG.out.mono ?_;rintro e W2 ⟨rfl,h2⟩;have S2:=aS.mi V1 h2;have hd1:mK (some D) W:=fun D' e=>by cases e;exact hd
  have hd2:=hd1.both V1 S2;have SF:=hd2.soft (N:=w.heap.size) GU;have FF:af (fun k=>OA bs g8 gm k∨ko bb w k) w W2:=(hF1.mono (fun _ _ h=>.inl h)).trans' S2.far (fun i hi ht=>by
   rcases ht with h|⟨hbk,cs,hcs⟩
   ·exact .inl (.inl h)
   ·by_cases hU:OA bs g8 gm i
    ·exact .inl hU
    ·exact .inr ⟨hbk,cs,(hF1.block i hi hU).symm.trans hcs⟩)
  have hc2:=hc1.both V1 S2;go_wp2_with fail;refine ⟨W2.putObj D (.deferred none),⟨D,_,rfl,run_takeDeferred (hd2 _ rfl),rfl⟩,_,results_none rfl _ _ _,rfl,?_⟩;rw [hSH.out];exact ⟨S2.sys.soft SF,S2.eD.soft SF,hc2.soft SF,af.soft FF (Nat.le_refl _) SF⟩
end Go.Proofs.YtjmmgoijnhnnaaaGreat
