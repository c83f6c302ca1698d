/- Texts CWalkM, CSpecH, CWalkT, Row, QRowA, GRowP, CRow, CWalkU, CWalkV, CWalkQ, CWalkR. -/
import Derived.Test.YtlgcpjhimomiaaaGreatRows
import Derived.Carry
import Derived.ChangeSlices
import Derived.RowKit2
import Derived.RowKit3
import Derived.JoinedAt
import Derived.Test.YtlgcpjhimomiaaaGreatO12
set_option maxRecDepth 100000
set_option maxHeartbeats 12800000
namespace Go.Pol
open Go Go.RowKit Go.Proofs.Tryz
theorem aho {w:World} {base n:Nat} {e:TypeId} {v:Value} {fv:Nat->Value} (h:w.ownsRow base e 1 v n ((List.range n).map fv)) :
  ∃(Au:Option Addr) (cap:Nat),v= .slice Au n cap/\Kj w Au (λk=>∃o,Au=some ⟨k,o,none⟩) fv n/\∀g o,Au=some ⟨g,o,none⟩->∃cs,af w g e cs:=by
 rcases h.2 with ⟨hv,hn⟩|⟨g,cap,cur,hv,_,hk,_,_,hsz,ht⟩
 ·subst hn
  exact ⟨none,0,hv,λi hi=>absurd hi zo,λg o e=>(by cases e)⟩
 ·refine ⟨some ⟨g,0,none⟩,cap,hv,λi hi=>⟨g,rfl,⟨0,rfl⟩,?_⟩,λg' o e=>?_⟩
  ·have hk':af w g e cur:=hk
   rw [hk'.cell];have h1:(cur.toList.take (n*1))[i]? = some (fv i):=by
    rw [ht,List.getElem?_map,List.getElem?_range hi];rfl
   rw [List.getElem?_take,if_pos zo] at h1;simpa using h1
  ·cases e
   exact ⟨cur,hk⟩
theorem xe {P:Program} {fn:Func} {tmps:Array Value} {R:Ending->World->Prop} {D:Nat} {d:Deferred} {fv:Fn} {cap:Array Value} {f:FuncId} {args:Array Value} {w wf:World} {Q:World->Prop}
  (htk:(Instr.takeDeferred D).run P w= .ok [] wf) (ht:d.target= .fn fv cap) (hi:(invoke d.target d.args).run P wf= .ok (.enter f args) wf)
  (hG:CallsDIn Fence.wide (0 - 1) P f args .returning wf λe u' w'=>u'= .returning/\e= .returned (.tuple #[])/\Q w')
  (hR:∀w',Q w'->∃v,(results fn tmps).run P w'= .ok v w'/\R (.returned v) w') :
  bodyPostM Fence.wide 0 P fn R .ret { tmps:=tmps,defers:=[dB D,d] } w:=by
 refine ⟨zs,.inl ⟨_,_,rfl,htk,zs,.inr ⟨λh=>(by cases h),fv,cap,f,args,ht,hi,λg _=>trivial,hG.mono ?_⟩⟩⟩;rintro e u' w' ⟨rfl,rfl,hq⟩;obtain ⟨v,h1,h2⟩:=hR w' hq;exact ⟨v,h1,h2⟩
theorem Dn {w:World} {base sz n g:Nat} {e:TypeId} {v:Value} {xs:List Value} (h:w.ownsRow base e sz v n xs) (hv:v.ownBlock=some g):∃cs,af w g e cs:=by
 rcases h.2 with ⟨e,_⟩|⟨g',cap',cur,e,_,hk,_⟩
 ·rw [e] at hv;cases hv
 ·rw [e] at hv
  cases hv;exact ⟨cur,hk⟩
theorem TN {α:Type} (f:Nat->α) (g:Nat->α) (n:Nat) (h:∀i,i<n->g i=f i):(List.range (n+1)).map g=(List.range n).map f++[g n]:=by
 rw [List.range_succ,List.map_append];congr 1;exact List.map_congr_left (λi hi=>h i (List.mem_range.1 hi))
theorem Al {base size n:Nat} {A B:World} {T:Nat->Prop} {e:TypeId} {v:Value} {xs:List Value} (h:A.ownsRow base e size v n xs) (hF:ag T A B) (hT:∀g cs,af A g e cs->¬T g):B.ownsRow base e size v n xs:=by
 refine aN h hF (λg hg ht=>?_);rcases h.2 with ⟨hv,_⟩|⟨g',cap',cur,hv,_,hk,_⟩
 ·rw [hv] at hg;cases hg
 ·rw [hv] at hg
  cases hg;exact hT _ _ hk ht
theorem wm {N base size n:Nat} {A B:World} {e:TypeId} {v:Value} {xs:List Value} (h:A.ownsRow base e size v n xs) (hs:lI N A B):B.ownsRow base e size v n xs:=by
 obtain ⟨T,hF,_,hB⟩:=hs;refine aN h hF (λg hg ht=>?_);rcases h.2 with ⟨hv,_⟩|⟨g',cap',cur,hv,_,hk,_⟩
 ·rw [hv] at hg;cases hg
 ·rw [hv] at hg
  cases hg;exact hB _ _ _ hk ht
theorem aO.pW {V:Vm} (h:aO V) (tk:Int) {a n:Int} {call:Nat} {fr:Int} (ht:0<=tk/\tk<=3:=by omega):aO (Go.Pol.bK V a n call fr tk).2:=λp hp=>by
 have h0:=h p hp;rcases Xh V a n call fr tk with ⟨_,k⟩|⟨_,k⟩
 ·rw [k];exact h0
 ·rw [k.pg p]
  split
  ·exact ht
  ·exact h0
theorem aO.jN:∀(XS d:List iO) (V:Vm),aO V->aO (jN XS d V).2.1
 | [],_,_,h=>h
 | x::r,d,V,h=>by
  rw [Go.Pol.jN];split
  ·exact (h.pW 2)
  ·exact aO.jN r _ _ (h.pW 2)
theorem aO.TS:∀(l:List iO) (S:Vm×List Sp×Int),aO S.1->aO (l.foldl dK S).1
 | [],_,h=>h
 | x::l,S,h=>by
  refine aO.TS l (dK S x) ?_;unfold dK;dsimp only;split <;> exact (h.pW 1)
theorem aO.grow {V:Vm} (h:aO V) (L:List Nd) (r:Cr) (tt:Int):aO (dh V L r tt).2.2.1:=by
 unfold dh;split
 ·exact h
 ·split
  ·exact h
  ·split
   ·exact h
   ·dsimp only
    split
    ·exact h
    ·split
     ·exact aO.jN _ _ _ h
     ·exact aO.TS _ _ (aO.jN _ _ _ h)
theorem TT (V:Vm) (L:List Nd) (r:Cr) (tt:Int):(dh V L r tt).1.node=r.node:=by
 unfold dh;split
 ·rfl
 ·split
  ·rfl
  ·split
   ·rfl
   ·dsimp only
    split
    ·rfl
    ·split <;> rfl
theorem MN (r:Cr) (tt:Int):(iN r tt).1.node=r.node:=by
 unfold iN;split
 ·rfl
 ·split
  ·rfl
  ·split <;> rfl
theorem bf.dh {L:List Nd} (h:bf L) (V:Vm) (r:Cr) (tt:Int) (hn:r.node.toNat<L.length):bf (dh V L r tt).2.2.2/\(dh V L r tt).2.2.2.length=L.length:=by
 unfold Go.Pol.dh;split
 ·exact ⟨h,rfl⟩
 ·split
  ·exact ⟨h,rfl⟩
  ·split
   ·exact ⟨h,rfl⟩
   ·have h1:=uX h hn (aG (az (bJ r.live tt) (aZ r.kept (0,1024))))
    have h2:=xZ L r.node.toNat (aG (az (bJ r.live tt) (aZ r.kept (0,1024))));dsimp only;split
    ·exact ⟨h1,h2⟩
    ·split
     ·exact ⟨h1,h2⟩
     ·exact ⟨sU h1 (by rw [h2];exact hn) _,by rw [qj,h2]⟩
theorem aO.dA (n:Nat):∀(l:List iO) (S:Vm×List Nd×List Sp×Int),aO S.1->bf S.2.1->n<S.2.1.length->aO (l.foldl (dA n) S).1/\bf (l.foldl (dA n) S).2.1/\(l.foldl (dA n) S).2.1.length=S.2.1.length
 | [],_,h,h2,_=>⟨h,h2,rfl⟩
 | x::l,S,h,h2,h3=>by
  have e:aO (Go.Pol.dA n S x).1/\bf (Go.Pol.dA n S x).2.1/\(Go.Pol.dA n S x).2.1.length=S.2.1.length:=by
   unfold Go.Pol.dA;dsimp only;split
   ·exact ⟨(h.pW 1),sU h2 h3 _,qj _ _ _⟩
   ·exact ⟨(h.pW 1),h2,rfl⟩
  obtain ⟨a,b,c⟩:=aO.dA n l (Go.Pol.dA n S x) e.1 e.2.1 (by rw [e.2.2];exact h3);exact ⟨a,b,c.trans e.2.2⟩
theorem aO.iP:∀(G:List Sp) (V:Vm),aO V->aO (iP G V).2
 | [],_,h=>h
 | x::G,V,h=>by
  rw [Go.Pol.iP];split
  ·exact (h.pW 1)
  ·exact aO.iP G _ (h.pW 1)
theorem aO.gP {V:Vm} (h:aO V) (r:Cr):aO (gP V r).2.2:=by
 unfold Go.Pol.gP;dsimp only;split
 ·exact aO.iP _ _ h
 ·split <;> exact ((aO.iP _ _ h).pW 0)
theorem aO.close {V:Vm} {L:List Nd} (h:aO V) (hL:bf L) (r:Cr) (hn:r.node.toNat<L.length):aO (dI V L r).2.2.1/\bf (dI V L r).2.2.2/\(dI V L r).2.2.2.length=L.length:=by
 unfold dI;split
 ·exact ⟨h,hL,rfl⟩
 ·split
  ·exact ⟨aO.gP h r,hL,rfl⟩
  ·obtain ⟨a,b,c⟩:=aO.dA r.node.toNat (bW (setOf (r.kept++bJ 0 r.live)) 0 (ay r.pg r.n r.f r.bk r.ev)) (V,L,setOf (r.kept++bJ 0 r.live),0) h hL hn
   dsimp only;split
   ·exact ⟨a,b,c⟩
   ·exact ⟨aO.gP a _,b,c⟩
theorem aO.pU (G:List Sp):∀(r d:List Sp) (V:Vm),aO V->aO (pU G d r V).2.2
 | [],_,_,h=>h
 | x::r,d,V,h=>by
  rw [Go.Pol.pU];split
  ·exact aO.pU G r (x::d) _ (h.pW 3)
  ·have hu:∀(d:List Sp) (S:List Sp×Vm),aO S.2->aO (d.foldl jH S).2:=λd=>by
    induction d with
    | nil=>exact λ_ h=>h
    | cons x d ih=>exact λS h=>ih (jH S x) (h.pW 1)
   exact hu d ([],_) (h.pW 3)
theorem aO.jL {V:Vm} (h:aO V) (ck:Int) (G:List Sp):aO (jL V ck G).2.2:=by
 unfold Go.Pol.jL;split
 ·exact aO.pU G G [] V h
 ·exact h
theorem GQ:aO iM:=λ_ _=>by show (0:Int)<=0/\(0:Int)<=3;omega
theorem Oh (l:List Ru) (h:(iy l).2=0):vS iM l={ iM with rf:=Pb l }:=by unfold vS;rw [if_pos h]
theorem iA.congr {cs:Array Value} {v:Value} {V U:Vm} (h:iA cs v V) (hp:U.pg=V.pg) (hc:U.rf.calls=V.rf.calls) (hh:U.rf.hits=V.rf.hits):iA cs v U :=
 ⟨h.size,h.made,λp hp2 i hi=>by rw [hp];exact h.page p hp2 i hi,λi hi=>by rw [hc,hh];exact h.rf i hi⟩
open Go.ChangeShapes Go.WideShapes Go.Deep
section
variable {H:Type} {enc:TypeId×Value->H} {P:Program}
theorem KT {f:Func} {s:ChangeSpec} {apart fresh handsOn again:Bool} {W W':World} {args:Array Value} {v:Value} {ds gs:List (DataW H)} {before pa pv:List MemPlace}
  (hW:DataW.Whole enc P f.params.toList s.vars apart W args.toList ds gs before)
  (hres:∀(b:Nat) (sp:Nat->Bool) (hd:Bool),DataW.TrodAll enc P W' b sp hd f.resultTypes.toList (v.resultList f.resultTypes.size) (s.fn H (ds++gs)).results [])
  (hargs:∀sp:Nat->Bool,(∀p∈before,sp p.block=true)->DataW.TrodAll enc P W' 0 sp true f.params.toList args.toList (s.fn H (ds++gs)).args pa)
  (hvars:∀sp:Nat->Bool,(∀p∈before,sp p.block=true)->DataW.TrodVars enc P W' sp s.vars (s.fn H (ds++gs)).vars pv)
  (hps:before=pa++pv) (hb:Below W.heap.size W W')
  (hok:∀(j:Nat) (t:TypeId) (r:Value),f.resultTypes[j]? = some t->(v.resultList f.resultTypes.size)[j]? = some r->Value.okWide P W' .any 0 t r) :
  s.post enc P f apart fresh handsOn again W args v W':=by
 have hlt:∀p∈before,p.block<W.heap.size:=λp hp=>hW.lt p hp
 have hold:∀p∈before,(λb=>decide (b<W.heap.size)) p.block=true:=λp hp=>by simpa using hlt p hp
 refine ⟨ds,gs,before,[],pa,pv,hW,hres _ _ _,hargs _ hold,hvars _ hold,World.keptBut_mono (λp hp=>⟨hp,?_⟩) (hb.frame (·∈before)),λ_=>?_⟩
 ·rw [hps,List.mem_append] at hp
  exact Or.inr hp
 ·obtain ⟨_,_,_,_,_,hz,hn⟩:=hW
  refine ⟨hok,_,_,([]++pa)++pv,⟨[]++pa,pv,trodAll_append (hargs _ (λ_ _=>rfl)) (hres _ _ _),hvars _ (λ_ _=>rfl),rfl,?_,?_⟩,?_⟩
  ·intro b off hp
   have hin:MemPlace.cell b off∈before:=by rw [hps];simpa using hp
   rw [hb.frozen (hlt _ hin)];exact hz b off hin
  ·intro ha
   have:=hn ha;rw [hps] at this;simpa using this
  ·intro p hp _
   rw [hps];simpa using hp
end
section
variable {H:Type} {enc:TypeId×Value->H} {P:Program} {w:World} {base:Nat} {spare:Nat->Bool} {held:Bool}
theorem lh {t e:TypeId} {fs:Array Field} {fuel:Nat} {cs:List Value} {x:DataW H×List MemPlace} (ht:P.underlying t=some (.slice e)) (he:P.underlying e=some (.struct fs))
  (hone:oneCellFields P fs=true) (hC:P.cellsOf e=fs.size) (h:DataW.trod enc P w base spare held fuel t cs=some x) :
  (cs=[.slice none 0 0]/\x=(.nil,[])) \/
  ∃(a:Addr) (len cap m:Nat) (D:Nat->DataW H) (Pl:Nat->List MemPlace),cs=[.slice (some a) len cap]/\base<=a.block/\len<=cap/\cap<=maxLen/\m=(if spare a.block then cap else len) /\
   x=(.slice ((List.range len).map D) ((List.range (m - len)).map λj=>D (len+j)),MemPlace.row a (m*fs.size)++(List.range m).flatMap Pl) /\
   ∀i,i<m->∃(ys:List (DataW H×List MemPlace)) (n:Nat),D i= .agg (ys.map (·.1))/\Pl i=ys.flatMap (·.2)/\ys.length=fs.size /\
    ∀(j:Nat) (f:Field),fs[j]? = some f->∃(v:Value) (y:DataW H×List MemPlace),w.cell? (a.add (i*fs.size+j))=some v/\ys[j]? = some y/\DataW.trod enc P w base spare held n f.type [v]=some y:=by
 rcases open_slice ht h with h0|⟨a,len,cap,m,n,D,Pl,hcs,hb,hl,hm,hmm,hx,hi⟩
 ·exact .inl h0
 ·refine .inr ⟨a,len,cap,m,D,Pl,hcs,hb,hl,hm,hmm,by rw [hC] at hx;exact hx,λi him=>?_⟩
  obtain ⟨cs',hc,ht'⟩:=hi i him;rw [hC] at hc;obtain ⟨ys,n',hn',hy,hlen,hyl,hf⟩:=DataW.trod_struct he ht';obtain ⟨_,hcl,hat⟩:=World.cells?_some hc;simp only [Prod.mk.injEq] at hy;refine ⟨ys,n',hy.1,hy.2,hyl,λj f hj=>?_⟩;obtain ⟨ho,hk⟩:=hone_of hone j f hj;have hjl:j<fs.size:=(Array.getElem?_eq_some_iff.1 hj).1;have hcell:=hat j hjl;have hv:cs'[j]? = some (cs'[j]'zo):=List.getElem?_eq_getElem zo;have h1:=hf j f hj;rw [ho,hk] at h1;have hone':(cs'.drop j).take 1=[cs'[j]'zo]:=by
   rw [List.drop_eq_getElem_cons zo];rfl
  rw [hone'] at h1;have hys:ys[j]? = some (ys[j]'zo):=List.getElem?_eq_getElem zo;refine ⟨_,_,?_,hys,h1.trans hys⟩;rw [<-Go.Deep.add_add,hcell,hv]
theorem XF {P:Prop} (h:P:=by
 obtain ⟨c0',_⟩:=hf 0 zo;simpa [Addr.add] using World.cell?_spot c0'):P:=h
theorem anc {t e:TypeId} {f0 f1:Field} {fuel:Nat} {v:Value} {x:DataW H×List MemPlace} (ht:P.underlying t=some (.slice e)) (he:P.underlying e=some (.struct #[f0,f1])) (hone:oneCellFields P #[f0,f1]=true) (hC:P.cellsOf e=2)
  (h0:P.underlying f0.type=some (.int .i64)) (h1:P.underlying f1.type=some (.int .i64))
  (h:DataW.trod enc P w base (λ_=>true) held fuel t [v]=some x):∃(A:Option Addr) (n cap:Nat) (us:List (Int×Int)),v= .slice A n cap/\us.length=n/\n<=maxLen/\RU w w.heap.size A us:=by
 rcases lh ht he hone hC h with ⟨hcs,_⟩|⟨a,len,cap,m,D,Pl,hcs,_,hl,hm,hmm,_,hi⟩
 ·simp only [List.cons.injEq,and_true] at hcs
  exact ⟨none,0,0,[],hcs,rfl,by unfold maxLen;omega,RU.nil⟩
 ·simp only [List.cons.injEq,and_true] at hcs
  simp only [if_true] at hmm;have each:∀i,i<len->∃p q:Int,w.cell? (a.add (i*2))=some (zI p)/\w.cell? (a.add (i*2+1))=some (zI q):=by
   intro i hil;obtain ⟨ys,n,_,_,_,hf⟩:=hi i zo;obtain ⟨v0,y0,c0,_,t0⟩:=hf 0 f0 rfl;obtain ⟨v1,y1,c1,_,t1⟩:=hf 1 f1 rfl;obtain ⟨p,e0,_⟩:=DataW.trod_int h0 t0;obtain ⟨q,e1,_⟩:=DataW.trod_int h1 t1;simp only [List.cons.injEq,and_true] at e0 e1;subst e0;subst e1;exact ⟨p,q,c0,c1⟩
  obtain ⟨f,hf⟩:=Classical.axiomOfChoice (r:=λ(i:Nat) (pq:Int×Int)=>i<len->w.cell? (a.add (i*2))=some (zI pq.1)/\w.cell? (a.add (i*2+1))=some (zI pq.2)) (λi=>by
   by_cases hil:i<len
   ·obtain ⟨p,q,c0,c1⟩:=each i hil
    exact ⟨(p,q),λ_=>⟨c0,c1⟩⟩
   ·exact ⟨(0,0),λh=>absurd h hil⟩)
  refine ⟨some a,len,cap,(List.range len).map f,hcs,zs,zo,?_⟩;intro k hk;have hk':k<len:=by simpa using hk
  obtain ⟨c0,c1⟩:=hf k hk';obtain ⟨b,off,spot⟩:=a;have hspot:spot=none:=by
   exact XF
  subst hspot;rw [add_plain] at c0 c1;have e:((List.range len).map f).getD k (0,0)=f k:=by simp [List.getD_eq_getElem?_getD,hk']
  refine ⟨b,off,rfl,World.block_lt_of_cell? _ _ c0,?_,?_⟩
  ·rw [e];exact c0
  ·rw [e,Nat.add_assoc];exact c1
end
open Go.Proofs Tryz
theorem Rd.TV {α:Type} {enc:α->List Value} {sz:Nat} {w:World} {B b o:Nat} (hlen:∀x,(enc x).length=sz) (h0:0<sz) (d:α) (us:List α) (hb:us≠[]->b<B)
  (h:∀k,k<us.length->∀(j:Nat) (v:Value),(enc (us.getD k d))[j]? = some v->w.cell? ⟨b,o+k*sz+j,none⟩=some v):Rd w B (some ⟨b,o,none⟩) (fl enc us):=λi hi=>by
 have hl:=mg hlen us;have hk:i / sz<us.length:=Nat.div_lt_of_lt_mul (by rw [Nat.mul_comm,<-hl];exact hi);have hj:i % sz<sz:=Nat.mod_lt _ h0;have hi2:i / sz*sz+i % sz=i:=Nat.div_add_mod' i sz;have e:=yV hlen d us (i / sz) hk (i % sz) hj;rw [hi2] at e;refine ⟨b,o,rfl,hb (λh=>by rw [h] at hk;simp at hk),?_⟩;have:=h (i / sz) hk (i % sz) _ (e.symm.trans (List.getElem?_eq_getElem hi))
 rwa [Nat.add_assoc,hi2] at this
section
variable {H:Type} {enc:TypeId×Value->H} {P:Program} {w:World} {base:Nat} {held:Bool}
theorem ae9 {P:Prop} (h:P:=by
 obtain ⟨c0',_⟩:=hf 0 zo;rw [add_plain] at c0';exact World.block_lt_of_cell? _ _ c0'):P:=h
theorem ane {t e:TypeId} {f0 f1 f2 f3:Field} {fuel:Nat} {v:Value} {x:DataW H×List MemPlace} (ht:P.underlying t=some (.slice e)) (he:P.underlying e=some (.struct #[f0,f1,f2,f3])) (hone:oneCellFields P #[f0,f1,f2,f3]=true) (hC:P.cellsOf e=4)
  (h0:P.underlying f0.type=some (.int .i64)) (h1:P.underlying f1.type=some (.int .i64)) (h2:P.underlying f2.type=some (.int .i64)) (h3:P.underlying f3.type=some (.int .i64))
  (h:DataW.trod enc P w base (λ_=>true) held fuel t [v]=some x):∃(A:Option Addr) (n cap:Nat) (us:List Ru),v= .slice A n cap/\us.length=n/\n<=maxLen/\Rd w w.heap.size A (fl iU us)/\(A=none->cap=0):=by
 rcases lh ht he hone hC h with ⟨hcs,_⟩|⟨a,len,cap,m,D,Pl,hcs,_,hl,hm,hmm,_,hi⟩
 ·simp only [List.cons.injEq,and_true] at hcs
  exact ⟨none,0,0,[],hcs,rfl,by unfold maxLen;omega,λk hk=>absurd hk (by simp [fl]),λ_=>rfl⟩
 ·simp only [List.cons.injEq,and_true] at hcs
  simp only [if_true] at hmm;have each:∀i,i<len->∃p q r s:Int,w.cell? (a.add (i*4))=some (zI p)/\w.cell? (a.add (i*4+1))=some (zI q)/\w.cell? (a.add (i*4+2))=some (zI r)/\w.cell? (a.add (i*4+3))=some (zI s):=by
   intro i hil;obtain ⟨ys,n,_,_,_,hf⟩:=hi i zo;obtain ⟨v0,y0,c0,_,t0⟩:=hf 0 f0 rfl;obtain ⟨v1,y1,c1,_,t1⟩:=hf 1 f1 rfl;obtain ⟨v2,y2,c2,_,t2⟩:=hf 2 f2 rfl;obtain ⟨v3,y3,c3,_,t3⟩:=hf 3 f3 rfl;obtain ⟨p,e0,_⟩:=DataW.trod_int h0 t0;obtain ⟨q,e1,_⟩:=DataW.trod_int h1 t1;obtain ⟨r,e2,_⟩:=DataW.trod_int h2 t2;obtain ⟨s,e3,_⟩:=DataW.trod_int h3 t3;simp only [List.cons.injEq,and_true] at e0 e1 e2 e3;subst e0;subst e1;subst e2;subst e3;exact ⟨p,q,r,s,c0,c1,c2,c3⟩
  obtain ⟨f,hf⟩:=Classical.axiomOfChoice (r:=λ(i:Nat) (x:Ru)=>i<len->w.cell? (a.add (i*4))=some (zI x.1)/\w.cell? (a.add (i*4+1))=some (zI x.2.1)/\w.cell? (a.add (i*4+2))=some (zI x.2.2.1)/\w.cell? (a.add (i*4+3))=some (zI x.2.2.2)) (λi=>by
   by_cases hil:i<len
   ·obtain ⟨p,q,r,s,c⟩:=each i hil
    exact ⟨(p,q,r,s),λ_=>c⟩
   ·exact ⟨(0,0,0,0),λh=>absurd h hil⟩)
  by_cases hz:len=0
  ·subst hz
   exact ⟨some a,0,cap,[],hcs,rfl,zo,λk hk=>absurd hk (by simp [fl]),λh=>(by cases h)⟩
  ·obtain ⟨b,off,spot⟩:=a
   have hspot:spot=none:=by
    exact XF
   subst hspot;refine ⟨_,len,cap,(List.range len).map f,hcs,zs,zo,Rd.TV jY zo qa _ (λ_=>?_) (λk hk j v hj=>?_),λh=>(by cases h)⟩
   ·exact ae9
   ·have hk':k<len:=by simpa using hk
    obtain ⟨c0,c1,c2,c3⟩:=hf k hk';have e:((List.range len).map f).getD k qa=f k:=by simp [List.getD_eq_getElem?_getD,hk']
    rw [e] at hj;rw [add_plain] at c0 c1 c2 c3
    match j,hj with
    | 0,hj=>cases hj;exact c0
    | 1,hj=>cases hj;rw [Nat.add_assoc];exact c1
    | 2,hj=>cases hj;rw [Nat.add_assoc];exact c2
    | 3,hj=>cases hj;rw [Nat.add_assoc];exact c3
end
def acC (x:Int×Int):List Value:=[.int .u8 x.1,zI x.2]
theorem TY (x:Int×Int):(acC x).length=2:=rfl
section
variable {H:Type} {enc:TypeId×Value->H} {P:Program} {w:World} {base:Nat} {held:Bool}
theorem anf {t e:TypeId} {f0 f1:Field} {fuel:Nat} {v:Value} {x:DataW H×List MemPlace} (ht:P.underlying t=some (.slice e)) (he:P.underlying e=some (.struct #[f0,f1])) (hone:oneCellFields P #[f0,f1]=true) (hC:P.cellsOf e=2)
  (h0:P.underlying f0.type=some (.int .u8)) (h1:P.underlying f1.type=some (.int .i64))
  (h:DataW.trod enc P w base (λ_=>true) held fuel t [v]=some x):∃(A:Option Addr) (n cap:Nat) (us:List (Int×Int)),v= .slice A n cap/\us.length=n/\n<=maxLen/\Rd w w.heap.size A (fl acC us)/\∀x∈us,0<=x.1/\x.1<=255/\-9223372036854775808<=x.2/\x.2<=9223372036854775807:=by
 rcases lh ht he hone hC h with ⟨hcs,_⟩|⟨a,len,cap,m,D,Pl,hcs,_,hl,hm,hmm,_,hi⟩
 ·simp only [List.cons.injEq,and_true] at hcs
  exact ⟨none,0,0,[],hcs,rfl,by unfold maxLen;omega,λk hk=>absurd hk (by simp [fl]),λx hx=>(by cases hx)⟩
 ·simp only [List.cons.injEq,and_true] at hcs
  simp only [if_true] at hmm;have each:∀i,i<len->∃p q:Int,w.cell? (a.add (i*2))=some (.int .u8 p)/\w.cell? (a.add (i*2+1))=some (zI q)/\(Lit.int .u8 p).wf=true/\(Lit.int .i64 q).wf=true:=by
   intro i hil;obtain ⟨ys,n,_,_,_,hf⟩:=hi i zo;obtain ⟨v0,y0,c0,_,t0⟩:=hf 0 f0 rfl;obtain ⟨v1,y1,c1,_,t1⟩:=hf 1 f1 rfl;obtain ⟨p,e0,_,w0⟩:=DataW.trod_int h0 t0;obtain ⟨q,e1,_,w1⟩:=DataW.trod_int h1 t1;simp only [List.cons.injEq,and_true] at e0 e1;subst e0;subst e1;exact ⟨p,q,c0,c1,w0,w1⟩
  obtain ⟨f,hf⟩:=Classical.axiomOfChoice (r:=λ(i:Nat) (pq:Int×Int)=>i<len->w.cell? (a.add (i*2))=some (.int .u8 pq.1)/\w.cell? (a.add (i*2+1))=some (zI pq.2)/\(Lit.int .u8 pq.1).wf=true/\(Lit.int .i64 pq.2).wf=true) (λi=>by
   by_cases hil:i<len
   ·obtain ⟨p,q,c0,c1,c2,c3⟩:=each i hil
    exact ⟨(p,q),λ_=>⟨c0,c1,c2,c3⟩⟩
   ·exact ⟨(0,0),λh=>absurd h hil⟩)
  by_cases hz:len=0
  ·subst hz
   exact ⟨some a,0,cap,[],hcs,rfl,zo,λk hk=>absurd hk (by simp [fl]),λx hx=>(by cases hx)⟩
  ·obtain ⟨b,off,spot⟩:=a
   have hspot:spot=none:=by
    exact XF
   subst hspot;refine ⟨_,len,cap,(List.range len).map f,hcs,zs,zo,Rd.TV TY zo (0,0) _ (λ_=>?_) (λk hk j v hj=>?_),λx hx=>?_⟩
   ·exact ae9
   ·have hk':k<len:=by simpa using hk
    obtain ⟨c0,c1,_,_⟩:=hf k hk';have e:((List.range len).map f).getD k (0,0)=f k:=by simp [List.getD_eq_getElem?_getD,hk']
    rw [e] at hj;rw [add_plain] at c0 c1
    match j,hj with
    | 0,hj=>cases hj;exact c0
    | 1,hj=>cases hj;rw [Nat.add_assoc];exact c1
   ·obtain ⟨k,hk,rfl⟩:=List.mem_map.1 hx
    obtain ⟨_,_,h2,h3⟩:=hf k (List.mem_range.1 hk);simp [Lit.wf,IntKind.min,IntKind.max,IntKind.signed,IntKind.bits] at h2 h3;omega
end
abbrev twC (ps pb:Option Addr) (r:Cr) (v:Value):Array Value:=#[.pointer ps,.pointer pb,zI r.pg,zI r.n,zI r.f,zI r.bk,zI r.ev,zI r.node,zI r.live,v,.bool r.cl,
 .pointer none,.pointer none,zI 0,zI 0,zI 0,zI 0,zI 0,zI 0,zI 0,zN,.bool false]
def xh (W:World) (g:Nat) (r:Cr) (v:Value):World :=
 ((((((((W.setCell ⟨g,2,none⟩ (zI r.pg)).setCell ⟨g,3,none⟩ (zI r.n)).setCell ⟨g,4,none⟩ (zI r.f)).setCell ⟨g,5,none⟩ (zI r.bk)).setCell ⟨g,6,none⟩ (zI r.ev)).setCell ⟨g,7,none⟩ (zI r.node)).setCell ⟨g,8,none⟩ (zI r.live)).setCell ⟨g,9,none⟩ v).setCell ⟨g,10,none⟩ (.bool r.cl)
theorem xm {W:World} {g:Nat} {t:TypeId} {a b a0 a1 a2 a3 a4 a5 a6 a7 a8 b0 b1 b2 b3 b4 b5 b6 b7 b8 b9 b10:Value} (h:af W g t #[a,b,a0,a1,a2,a3,a4,a5,a6,a7,a8,b0,b1,b2,b3,b4,b5,b6,b7,b8,b9,b10]) (r:Cr) (v:Value) :
  af (xh W g r v) g t #[a,b,zI r.pg,zI r.n,zI r.f,zI r.bk,zI r.ev,zI r.node,zI r.live,v,.bool r.cl,b0,b1,b2,b3,b4,b5,b6,b7,b8,b9,b10]:=by
 have:=((((((((h.aM 2 (zI r.pg)).aM 3 (zI r.n)).aM 4 (zI r.f)).aM 5 (zI r.bk)).aM 6 (zI r.ev)).aM 7 (zI r.node)).aM 8 (zI r.live)).aM 9 v).aM 10 (.bool r.cl);simpa [xh] using this
theorem xq (W:World) (g:Nat) (r:Cr) (v:Value):ag (λk=>k=g) W (xh W g r v) :=
 (((((((((ag.refl (λk=>k=g) W).setCell (p:=⟨g,2,none⟩) (λ_=>rfl) _).setCell (p:=⟨g,3,none⟩) (λ_=>rfl) _).setCell (p:=⟨g,4,none⟩) (λ_=>rfl) _).setCell (p:=⟨g,5,none⟩) (λ_=>rfl) _).setCell (p:=⟨g,6,none⟩) (λ_=>rfl) _).setCell (p:=⟨g,7,none⟩) (λ_=>rfl) _).setCell (p:=⟨g,8,none⟩) (λ_=>rfl) _).setCell (p:=⟨g,9,none⟩) (λ_=>rfl) _).setCell (p:=⟨g,10,none⟩) (λ_=>rfl) _
theorem aa0 {l:Int} (h:(gB (fK 4096) l).1=0):bf (gB (fK 4096) l).2/\(gB (fK 4096) l).2.length=2/\((gB (fK 4096) l).2.getD 0 nd0).own=0/\((gB (fK 4096) l).2.getD 1 nd0).own=0:=by
 refine ⟨II zd,?_⟩;unfold gB at h ⊢;split at h
 ·exact absurd h zd
 ·rename_i h1
  rw [if_neg h1];exact ⟨rfl,rfl,rfl⟩
theorem KW {P:Program} {ops:Array Oper} {Q:Exit->Act->World->Prop} {md:Region.Mode} {S:World->Prop} {tl:List Nat} {i:Nat} {oi:Oper} {v:Value} (hi:ops[i]? = some oi) (hsel:∀(j:Nat) (o:Oper) cs b,ops[j]? = some o->o.op≠.select cs b)
  (hQ:∀c a w,Q (.panic c) (a.put oi.dst v) w->Q (.panic c) a w) :
  ∀(fuel:Nat) (listed:Array Bool) (a:Act) (w:World),Closed md ops listed->(∀t∈tl,listed.getD t false=true\/t∈nI md ops i ops.size) ->
   (∀j oj,ops[j]? = some oj->j≠i->listed.getD j true=false->(∀e∈oj.after,Region.binds md e=true->e.on≠i)->oi.apart ops oj=true) ->
   i∈Region.ready md ops listed->YieldsIf P ops S oi v a->S w ->
   eQ P md ops Q S tl fuel (listed.setIfInBounds i true) (a.put oi.dst v) w->eQ P md ops Q S tl (fuel+1) listed a w:=by
 intro fuel;induction fuel with
 | zero =>
  intro listed a w hcl _ _ hr hy hS H;exact aid
 | succ fuel ih =>
  intro listed a w hcl htl hfree hr hy hS H;refine ⟨λh=>(by rw [h] at hr;cases hr),λj hj=>?_⟩;by_cases hji:j=i
  ·subst hji;exact hy.wpOp hi hS ⟨λ_=>hS,H⟩
  ·have h1:=H.2 j (ready_mono hj hji)
   obtain ⟨hjun,oj,hoj,hall⟩:=mem_ready.1 hj;have hun:listed.getD i false=false:=getD_both (mem_ready.1 hr).1;have abH:tl.contains j=false:=by
    cases h:tl.contains j with
    | false=>rfl
    | true =>
     rcases htl j (by simpa using h) with h2|h2
     ·have h3:=getD_both hjun
      rw [h3] at h2;cases h2
     ·exact absurd hj (tK hcl hun _ j h2).2
   have hnot:∀e∈oj.after,Region.binds md e=true->e.on≠i:=λe he hb heq=>by
    exact UN
   have h2:=wpOp_putIf hoj (hfree j oj hoj hji hjun hnot) (λcs b=>hsel i oi cs b hi) (λcs b=>hsel j oj cs b hoj) hQ hy h1;have hfree':∀k ok,ops[k]? = some ok->k≠i->(listed.setIfInBounds j true).getD k true=false ->
     (∀e∈ok.after,Region.binds md e=true->e.on≠i)->oi.apart ops ok=true:=λk ok hk hki hun hno=>by
    exact UL
   refine wpOp_mono (λa' w' h3=>⟨h3.2.1,ih (listed.setIfInBounds j true) a' w' (hcl.set hj) (λt ht=>(htl t ht).imp (λh=>getD_set_true h) id) hfree' (ready_mono hr (Ne.symm hji)) h3.1 (h3.2.1 abH) ?_⟩) h2;exact UM
theorem MP {P:Program} {ops:Array Oper} {Q:Exit->Act->World->Prop} {md:Region.Mode} {S:World->Prop} {tl:List Nat} {i:Nat} {oi:Oper} {v:Value} {fuel:Nat} {listed:Array Bool} {a:Act} {w:World} (hi:ops[i]? = some oi)
  (hB:(Region.noSelect ops&&Region.free md ops listed i&&(Region.ready md ops listed).contains i&&y9 md ops listed&&tl.all (λt=>listed.getD t false||(nI md ops i ops.size).contains t))=true)
  (hQ:∀c a w,Q (.panic c) (a.put oi.dst v) w->Q (.panic c) a w) (hy:YieldsIf P ops S oi v a) (hS:S w)
  (h:eQ P md ops Q S tl fuel (listed.setIfInBounds i true) (a.put oi.dst v) w):eQ P md ops Q S tl (fuel+1) listed a w:=by
 simp only [Bool.and_eq_true] at hB;obtain ⟨⟨⟨⟨h1,h2⟩,h3⟩,h4⟩,h5⟩:=hB;exact KW hi (Region.noSelect_spec h1) hQ fuel listed a w (IJ h4) (λt ht=>by simpa using List.all_eq_true.1 h5 t ht) (Region.free_spec hi h2) (by simpa using h3) hy hS h
theorem dE {P:Program} {ops:Array Oper} {Q:Exit->Act->World->Prop} {md:Region.Mode} {S:World->Prop} {tl:List Nat} (i:Nat) {oi:Oper} {v:Value} {fuel:Nat} {listed:Array Bool} {a b:Act} {w:World} (hS:S w) (h:eQ P md ops Q S tl fuel (listed.setIfInBounds i true) b w) (hi:ops[i]? = some oi:=by (simp only [List.getElem?_toArray,List.getElem?_cons_succ,List.getElem?_cons_zero];rfl)) (hB:(Region.noSelect ops&&Region.free md ops listed i&&(Region.ready md ops listed).contains i&&y9 md ops listed&&tl.all (λt=>listed.getD t false||(nI md ops i ops.size).contains t))=true:=by kernel_rfl) (hQ:∀c a w,Q (.panic c) (a.put oi.dst v) w->Q (.panic c) a w:=by exact λ_ _ _ h=>h) (hy:YieldsIf P ops S oi v a:=by (refine Or.inl ⟨rfl,?_⟩;intro wS hSw;obtain ⟨_,_⟩:=hSw;go_simp;(try with_reducible rfl))) (hb:a.put oi.dst v=b:=by (try simp only [Act.put,iE,iF,iG]);exact rfl):eQ P md ops Q S tl (fuel+1) listed a w:=MP hi hB hQ hy hS (hb ▸ h)
def uU (y bs bb x:Nat) (r:Cr) (v:Value) (b:Int) (W:World):Prop:=W.cell? ⟨y,0,none⟩=some (.pointer (some ⟨bs,0,none⟩))/\W.cell? ⟨y,1,none⟩=some (.pointer (some ⟨bb,0,none⟩))/\W.cell? ⟨y,2,none⟩=some (zI r.pg)/\W.cell? ⟨y,3,none⟩=some (zI r.n)/\W.cell? ⟨y,4,none⟩=some (zI r.f)/\W.cell? ⟨y,5,none⟩=some (zI r.bk)/\W.cell? ⟨y,6,none⟩=some (zI r.ev)/\W.cell? ⟨y,7,none⟩=some (zI r.node)/\W.cell? ⟨y,8,none⟩=some (zI r.live)/\W.cell? ⟨y,9,none⟩=some v/\W.cell? ⟨y,10,none⟩=some (.bool r.cl)/\W.cell? ⟨x,1,none⟩=some (zI b)
def Ce (r:Cr) (i:Int):Int×Int:=if bQ r.pg r.n r.f r.bk r.ev=0 then lS (ay r.pg r.n r.f r.bk r.ev) i else (0,bQ r.pg r.n r.f r.bk r.ev)
end Go.Pol
namespace Go.Proofs.YtlgcpjhimomiaaaGreat
open Go Go.Proofs Go.RowKit Go.Pol Go.Shelf Tryz
attribute [local go_sem] Oper.semAt_some aC au aB ai
theorem Cc:∀args w,(callFunc 70 args).run prog w= .ok (.enter 70 args) w:=enters_of func70 zk rfl
theorem ahp:(prog.info? 1).map (λi=>(i.zero,i.size,i.bytes))=some (some .nilFunc,1,8):=zk
theorem MM:∃i0,prog.info? 1=some i0/\i0.zero=some .nilFunc/\i0.size=1/\i0.bytes=8:=by
 obtain ⟨i0,h⟩:=info_parts ahp;exact ⟨i0,h⟩
theorem zT5 {P:Prop} (h:P:=by
 refine bL func18 rfl ?_;simp only [ntmps18,List.size_toArray,List.length_cons,List.length_nil,Nat.reduceAdd,Nat.reduceSub,Array.replicate_succ,Array.replicate_zero,List.push_toArray,List.append_toArray,List.nil_append,List.cons_append];go_upto_region 1 with fail
 rw [<-hw0];obtain ⟨c1,c2,c3⟩:=mM k1 k2 k3;clear hw0;go_wp2_with fail;refine (HK.out _ (hV.call hb0) (hB.call hb0) hr0.out).zr λw1 hb1=>?_
 obtain ⟨k11,k21,mQ,jM,lX⟩:=lM hb1 k1 k2 k3 k4 k5;have B1:=hb0.zt hb1;obtain ⟨c11,c21,c31,PS,c51⟩:=ZE k11 k21 mQ jM lX;obtain ⟨f41,f51⟩:=tu jM lX;clear HK k1 k2 k3 k4 k5 hb0 hr0 hb1 c1 c2 c3;go_wp2_with fail;refine (yN.out _).zr λw2 hb2=>?_
 obtain ⟨k12,k22,jv,ja,Ea⟩:=lM hb2 k11 k21 mQ jM lX;have B2:=B1.zt hb2;obtain ⟨c12,c22,c32,c42,c52⟩:=ZE k12 k22 jv ja Ea;obtain ⟨f42,f52⟩:=tu ja Ea;clear yN k11 k21 mQ jM lX B1 hb2 c11 c21 c31 PS f41 c51 f51;go_wp2_with fail;change bodyPostM _ _ _ _ _ _ _ ((aP w2 (w.heap.size+3) ⟨pg,n,f,bk,ev,node,live,K,false⟩ (.slice A m cap)).setCell ⟨w.heap.size+4,0,none⟩ (zI 7));have aX:=aK ja ⟨pg,n,f,bk,ev,node,live,K,false⟩ (.slice A m cap);have F9:=aL w2 (w.heap.size+3) ⟨pg,n,f,bk,ev,node,live,K,false⟩ (.slice A m cap);have Qb:=F9.blk Ea (by show ¬w.heap.size+4=w.heap.size+3;omega);have lJ:=aX.far (p:=⟨w.heap.size+4,0,none⟩) (by show w.heap.size+3≠w.heap.size+4;omega) (zI 7);have xg:=Qb.aM 0 (zI 7);have rO:=((F9.mono (λ_ _ h=>.inl h):ag (λk=>k=w.heap.size+3\/k=w.heap.size+4) _ _)).setCell (p:=⟨w.heap.size+4,0,none⟩) (λ_=>.inr rfl) (zI 7);have T9:=(aR.below hV hB B2).fresh rO (λk hk=>by rcases hk with rfl|rfl <;> omega) (λk hk=>by rcases hk with rfl|rfl;exact ⟨_,_,ja,zd,zd,zd,zd⟩;exact ⟨_,_,Ea,zd,zd,zd,zd⟩);generalize (aP w2 (w.heap.size+3) ⟨pg,n,f,bk,ev,node,live,K,false⟩ (.slice A m cap)).setCell ⟨w.heap.size+4,0,none⟩ (zI 7)=w9 at *;dsimp only [aj] at lJ;simp only [List.setIfInBounds_toArray,List.set_cons_zero,List.set_cons_succ] at xg;obtain ⟨di,Xy⟩:=bB lJ xg;refine iH (v:=.tuple #[.agg (aj ⟨pg,n,f,bk,ev,node,live,K,false⟩ (.slice A m cap)),zI 7]) (by simp [results,results18,go_sem,di,Xy,aj]) ?_;exact ⟨_,rfl,⟨A,cap,by rw [hm.out],by rw [hm.out];exact hcap,hcm,T9.kept hV kZ.out⟩,T9⟩):P:=h
theorem vK (bs bb:Nat) (V:Vm) (L:List Nd) (r:Cr) (tt:Int) (A:Option Addr) (cap:Nat) (w:World) (hV:aA w bs V) (uS:aO V) (hB:bz w bb L) (hO:bf L) (hnl:bq r=0->r.node.toNat<L.length) (hcap:r.kept.length<=cap) (hcm:cap<=maxLen) (hk:KeptAt w A r.kept) :
  Calls prog 18 #[zP bs,zP bb,.agg (aj r (.slice A r.kept.length cap)),zI tt] w λe w'=>∃v,e= .returned (.tuple #[v,zI (dh V L r tt).2.1])/\Dc (dh V L r tt).1 w' v/\aR bs bb (dh V L r tt).2.2.1 (dh V L r tt).2.2.2 w w':=by
 have hr:=hk.ru;have HK:=ae (λW (h1:aA W bs V) (h2:bz W bb L) (h3:RU W W.heap.size A r.kept)=>Db bs bb V L r A cap W h1 uS h2 hO hcap hcm h3);have yN:=ae (λW=>I4 r.pg r.n r.f r.bk r.ev W);rw [xV] at yN;obtain ⟨R,hR⟩:=ah (dh V L r tt);rw [hR];unfold dh at hR;have hz:=@fw r;have hZ:bq r=0->NV r:=hz.1;clear hz;generalize bq r=ck at *;generalize hUs:pJ r=us at *;obtain ⟨pg,n,f,bk,ev,node,live,K,cl⟩:=r;simp only at hcap hcm hr hk hR hZ HK yN hnl ⊢;generalize (lT pg n f bk ev).2=V2 at *;generalize bQ pg n f bk ev=cg at *;obtain ⟨m,hm0⟩:=ah (K.length);rw [hm0] at hcap HK ⊢;have hm:=ae hm0;obtain ⟨w0,hw0,hb0,k1,k2,k3,k4,k5⟩:=ahn 42 43 28 28 37 #[zP bs] #[zP bb] (aj ⟨pg,n,f,bk,ev,node,live,K,cl⟩ (.slice A m cap)) (aj bD zN) #[zI 0] w;have hr0:=ae (hr.on hb0);have kZ:=ae hk;dsimp only [aj,bD] at k3 k4 hw0 HK ⊢;clear hm0 hr hk;by_cases h0:ck=0
 case neg =>
  have h0':=gJ h0;rw [if_pos h0] at hR;subst hR;clear h0 hZ;refine bL func18 rfl ?_;simp only [ntmps18,List.size_toArray,List.length_cons,List.length_nil,Nat.reduceAdd,Nat.reduceSub,Array.replicate_succ,Array.replicate_zero,List.push_toArray,List.append_toArray,List.nil_append,List.cons_append];go_upto_region 1 with fail
  rw [<-hw0];obtain ⟨c1,c2,c3⟩:=mM k1 k2 k3;clear hw0;go_wp2_with fail;refine (HK.out _ (hV.call hb0) (hB.call hb0) hr0.out).zr λw1 hb1=>?_
  obtain ⟨k11,k21,mQ,jM,lX⟩:=lM hb1 k1 k2 k3 k4 k5;have B1:=hb0.zt hb1;obtain ⟨c11,c21,c31,PS,c51⟩:=ZE k11 k21 mQ jM lX;obtain ⟨f41,f51⟩:=tu jM lX;clear HK k1 k2 k3 k4 k5 hb0 hr0 hb1 c1 c2 c3;go_wp2_with fail;change bodyPostM _ _ _ _ _ _ _ ((aP w1 (w.heap.size+3) ⟨pg,n,f,bk,ev,node,live,K,cl⟩ (.slice A m cap)).setCell ⟨w.heap.size+4,0,none⟩ (zI ck));have aX:=aK jM ⟨pg,n,f,bk,ev,node,live,K,cl⟩ (.slice A m cap);have F9:=aL w1 (w.heap.size+3) ⟨pg,n,f,bk,ev,node,live,K,cl⟩ (.slice A m cap);have Qb:=F9.blk lX (by show ¬w.heap.size+4=w.heap.size+3;omega);have lJ:=aX.far (p:=⟨w.heap.size+4,0,none⟩) (by show w.heap.size+3≠w.heap.size+4;omega) (zI ck);have xg:=Qb.aM 0 (zI ck);have rO:=((F9.mono (λ_ _ h=>.inl h):ag (λk=>k=w.heap.size+3\/k=w.heap.size+4) _ _)).setCell (p:=⟨w.heap.size+4,0,none⟩) (λ_=>.inr rfl) (zI ck);have T9:=(aR.below hV hB B1).fresh rO (λk hk=>by rcases hk with rfl|rfl <;> omega) (λk hk=>by rcases hk with rfl|rfl;exact ⟨_,_,jM,zd,zd,zd,zd⟩;exact ⟨_,_,lX,zd,zd,zd,zd⟩);generalize (aP w1 (w.heap.size+3) ⟨pg,n,f,bk,ev,node,live,K,cl⟩ (.slice A m cap)).setCell ⟨w.heap.size+4,0,none⟩ (zI ck)=w9 at *;dsimp only [aj] at lJ;simp only [List.setIfInBounds_toArray,List.set_cons_zero] at xg;obtain ⟨di,Xy⟩:=bB lJ xg;refine iH (v:=.tuple #[.agg (aj ⟨pg,n,f,bk,ev,node,live,K,cl⟩ (.slice A m cap)),zI ck]) (by simp [results,results18,go_sem,di,Xy,aj]) ?_;exact Fp
 subst h0;rw [if_neg zs] at hR;by_cases h1:cl=true
 case pos =>
  subst h1;rw [if_pos rfl] at hR;subst hR;clear hZ;refine bL func18 rfl ?_;simp only [ntmps18,List.size_toArray,List.length_cons,List.length_nil,Nat.reduceAdd,Nat.reduceSub,Array.replicate_succ,Array.replicate_zero,List.push_toArray,List.append_toArray,List.nil_append,List.cons_append];go_upto_region 1 with fail
  rw [<-hw0];obtain ⟨c1,c2,c3⟩:=mM k1 k2 k3;clear hw0;go_wp2_with fail;refine (HK.out _ (hV.call hb0) (hB.call hb0) hr0.out).zr λw1 hb1=>?_
  obtain ⟨k11,k21,mQ,jM,lX⟩:=lM hb1 k1 k2 k3 k4 k5;have B1:=hb0.zt hb1;obtain ⟨c11,c21,c31,PS,c51⟩:=ZE k11 k21 mQ jM lX;obtain ⟨f41,f51⟩:=tu jM lX;clear HK k1 k2 k3 k4 k5 hb0 hr0 hb1 c1 c2 c3;go_wp2_with fail;change bodyPostM _ _ _ _ _ _ _ ((aP w1 (w.heap.size+3) ⟨pg,n,f,bk,ev,node,live,K,true⟩ (.slice A m cap)).setCell ⟨w.heap.size+4,0,none⟩ (zI 9));have aX:=aK jM ⟨pg,n,f,bk,ev,node,live,K,true⟩ (.slice A m cap);have F9:=aL w1 (w.heap.size+3) ⟨pg,n,f,bk,ev,node,live,K,true⟩ (.slice A m cap);have Qb:=F9.blk lX (by show ¬w.heap.size+4=w.heap.size+3;omega);have lJ:=aX.far (p:=⟨w.heap.size+4,0,none⟩) (by show w.heap.size+3≠w.heap.size+4;omega) (zI 9);have xg:=Qb.aM 0 (zI 9);have rO:=((F9.mono (λ_ _ h=>.inl h):ag (λk=>k=w.heap.size+3\/k=w.heap.size+4) _ _)).setCell (p:=⟨w.heap.size+4,0,none⟩) (λ_=>.inr rfl) (zI 9);have T9:=(aR.below hV hB B1).fresh rO (λk hk=>by rcases hk with rfl|rfl <;> omega) (λk hk=>by rcases hk with rfl|rfl;exact ⟨_,_,jM,zd,zd,zd,zd⟩;exact ⟨_,_,lX,zd,zd,zd,zd⟩);generalize (aP w1 (w.heap.size+3) ⟨pg,n,f,bk,ev,node,live,K,true⟩ (.slice A m cap)).setCell ⟨w.heap.size+4,0,none⟩ (zI 9)=w9 at *;dsimp only [aj] at lJ;simp only [List.setIfInBounds_toArray,List.set_cons_zero] at xg;obtain ⟨di,Xy⟩:=bB lJ xg;refine iH (v:=.tuple #[.agg (aj ⟨pg,n,f,bk,ev,node,live,K,true⟩ (.slice A m cap)),zI 9]) (by simp [results,results18,go_sem,di,Xy,aj]) ?_;exact Fp
 have h1':=QE h1;subst h1';rw [if_neg zs] at hR;by_cases h2:tt<live
 case pos =>
  have h2':=bU h2;rw [if_pos (.inl h2)] at hR;subst hR;clear h2 hZ;exact zT5
 have h2':=bV h2;by_cases h3:us<tt
 case pos =>
  have h3':=bU h3;rw [if_pos (.inr h3)] at hR;subst hR;clear h2 h3 hZ;exact zT5
 have h3':=bV h3;rw [if_neg zo] at hR;have uG:=hZ rfl;have hlv:=uG.C9;have hlv1:=Int.le_trans uG.Ff (AZ uG.plan);have arc:=AZ uG.plan;rw [hUs] at arc;have hp:=uG.plan;have jC:=uG.can;have hnd:=uG.node;simp only at hlv hlv1 jC hnd hp;obtain ⟨nd,rfl⟩:∃nd:Nat,node=nd:=⟨node.toNat,zo⟩;have NZ:=hnl rfl;rw [Int.toNat_natCast] at hR NZ;have Br:Go.Pol.Can (bJ live tt):=mF hlv zo;have Di:=Can.common Br (jC.FV (i:=(0,1024)) zd).1;have HB:=ae (λW=>xW live tt W zo zo);have HM:=ae (λW (A2:Option Addr) (c2:Nat) h1 h2 h3 h4=>vI A2 A (bJ live tt).length c2 m cap (bJ live tt) K W rfl h1 h2 h3 hm.out hcap hcm h4 Br jC);have ard:Go.Pol.Can (bJ 0 tt):=mF (Int.le_refl _) zo;have HB2:=ae (λW=>xW 0 tt W zo zo);have WW:=ae (λW (A1 A2:Option Addr) (c1 c2:Nat) (h0:m<=c1/\c1<=maxLen) h1 h2 h3 h4=>vI A1 A2 m c1 (bJ 0 tt).length c2 K (bJ 0 tt) W hm.out h0.1 h0.2 h4 rfl h1 h2 h3 jC ard);unfold o7 at WW;have hMF:=Tw (live:=live) (tt:=tt) hp jC hlv (by
  have e:us=aG (ay pg n f bk ev):=by rw [<-hUs];unfold pJ;rw [if_pos (bR.2 hp)]
  omega)
 generalize az (bJ live tt) (aZ K (0,1024))=more at *;generalize bJ live tt=L2 at *;have Af:=Bb Di hp;have PT:=Di.len;obtain ⟨al,Eo⟩:=ah (more.length);have hal:=ae Eo;rw [Eo] at PT;unfold o7 at HM;rw [Eo] at HM;have hMF:=ae hMF;clear Eo Br hnl hZ uG h2 h3;refine bL func18 rfl ?_;simp only [ntmps18,List.size_toArray,List.length_cons,List.length_nil,Nat.reduceAdd,Nat.reduceSub,Array.replicate_succ,Array.replicate_zero,List.push_toArray,List.append_toArray,List.nil_append,List.cons_append];go_upto_region 1 with fail
 rw [<-hw0];obtain ⟨c1,c2,c3⟩:=mM k1 k2 k3;clear hw0;go_wp2_with fail;refine (HK.out _ (hV.call hb0) (hB.call hb0) hr0.out).zr λw1 hb1=>?_
 obtain ⟨k11,k21,mQ,jM,lX⟩:=lM hb1 k1 k2 k3 k4 k5;have B1:=hb0.zt hb1;obtain ⟨c11,c21,c31,PS,c51⟩:=ZE k11 k21 mQ jM lX;obtain ⟨f41,f51⟩:=tu jM lX;clear HK k1 k2 k3 k4 k5 hb0 hr0 hb1 c1 c2 c3;go_wp2_with fail;refine (yN.out _).zr λw2 hb2=>?_
 obtain ⟨k12,k22,jv,ja,Ea⟩:=lM hb2 k11 k21 mQ jM lX;have B2:=B1.zt hb2;obtain ⟨c12,c22,c32,c42,c52⟩:=ZE k12 k22 jv ja Ea;obtain ⟨f42,f52⟩:=tu ja Ea;clear yN k11 k21 mQ jM lX B1 hb2 c11 c21 c31 PS f41 c51 f51;go_upto_region 9 with fail
 have hS:Fh (w.heap.size+2) live (.slice A m cap) w2:=⟨jv.cell 6,jv.cell 7⟩;have hbd:=(Below.refl w2.heap.size w2).drew;obtain ⟨SK,k2d,k3d,k4d,k5d⟩:=lM hbd k12 k22 jv ja Ea;have B2d:=B2.zt hbd;have hS:=hS.call hbd;refine bT ?_;refine bM (Fh (w.heap.size+2) live (.slice A m cap)) [] zk ?_;generalize w2.drew=wd at *;clear k12 k22 jv ja Ea B2 c12 c22 c32 c42 f42 c52 f52 hbd;refine aW 0 hS ?_;refine aW 1 hS ?_;refine aW 2 hS ?_;refine aW 4 hS ?_;refine aW 5 hS ?_;refine gD 3 λK hK=>?_
 go_simp;refine (HB.out wd).mono ?_;rintro (e w3 ⟨A2,c2,rfl,vz,hl3,hc3,_,hb3⟩);refine hK.out _ _ (λ_=>hS.call hb3) (λhS=>?_);clear hK K;replace hS:=hS rfl;try simp only [Act.put,iE,iF,iG]
 obtain ⟨k13,k23,ny,uT,k53⟩:=lM hb3 SK k2d k3d k4d k5d;have B3:=B2d.zt hb3;refine gD 6 λK hK=>?_
 go_simp;refine ((HM.out w3 A2 c2 hl3 hc3 vz (kZ.out.call B3).ru)).mono ?_;rintro (e w4 ⟨A4,TP,rfl,hk4,hl4,akd,hb4⟩);refine hK.out _ _ (λ_=>hS.call hb4) (λhS=>?_);clear hK K;replace hS:=hS rfl;try simp only [Act.put,iE,iF,iG]
 obtain ⟨k14,k24,oJ,En,k54⟩:=lM hb4 k13 k23 ny uT k53;have B4:=B3.zt hb4;clear HB HM vz hl3 SK k2d k3d k4d k5d B2d k13 k23 ny uT k53 B3 hb3 hb4;refine aW 7 hS ?_;refine aW 8 hS ?_;refine aW 9 hS ?_;refine aW 10 hS ?_;refine aW 11 hS ?_;refine bE zk ?_ _;refine aS ?_;clear hS;go_wp2_with fail;have arj:=hk4;have Xw:=ae (Rs A4 al TP more w4 hal.out (Nat.le_trans hl4 akd) hk4.ru);rw [bI.2 Di,if_pos rfl] at Xw;obtain ⟨many,Xz⟩:=ah (aG more);rw [Xz] at Xw hR;have Zk:=ae Xz;clear Xz;refine Xw.out.zr λw5 hb5=>?_
 have km:=af.new w5 3 #[zI many];have gN:=hb5.trans ((aQ w5 (.cells #[zI many] 3)).mono hb5.size);obtain ⟨k16,k26,MJ,Xm,k56⟩:=lM gN k14 k24 oJ En k54;have B6:=B4.zt gN;have wZ:=hk4.call gN;have hgs:w.heap.size+5<=w5.heap.size:=by have:=(k54.call hb5).lt;omega
 obtain ⟨gm,hgm⟩:=ah (w5.heap.size);rw [hgm] at km hgs;go_upto_region 11 with fail
 generalize w5.alloc _=w6 at *;clear k14 k24 oJ En k54 B4 hk4 arj gN hb5 Xw;have T6:=aR.below hV hB B6;have HCh:=ae (O1 bb nd many L w6 T6.eO hO NZ);obtain ⟨c,hc⟩:=ah (iZ L nd many);rw [hc] at HCh hR;have ae5:af w6 (w.heap.size+1+1) 28 _:=MJ;obtain ⟨c26,c36,cm6⟩:=mM k26 ae5 km;go_wp2_with fail;refine HCh.out.zr λw7 h7=>?_
 have S7:=aR.mU T6.sys h7;have T7:=T6.trans S7;have k17:=S7.blk T6.sys k16 zd zd;have k27:=S7.blk T6.sys k26 zd zd;have uR:=S7.blk T6.sys ae5 zd zd;have Ie:=S7.blk T6.sys Xm zd zd;have k57:=S7.blk T6.sys k56 zd zd;have km7:=S7.blk T6.sys km zd zd;have FH:=S7.kept T6.sys wZ;have ake:=T7.kept hV kZ.out;clear k16 k26 MJ ae5 Xm k56 km wZ h7 T6 S7 HCh c26 c36 cm6 B6;obtain ⟨c37,c47,c57⟩:=mM uR Ie k57;obtain ⟨f47,f57⟩:=tu Ie k57;obtain ⟨ce,cL⟩:=c;simp only at hR T7;have XA:bf cL:=by have:=uX hO NZ many;rw [hc] at this;exact this
 have arn:nd<cL.length:=by have:=xZ L nd many;rw [hc] at this;simp only at this;omega
 clear hc;by_cases h4:ce=0
 case neg =>
  have h4':=gJ h4;rw [if_pos h4] at hR;have El:=ae hR.symm;clear hR h4;go_wp2_with fail;change bodyPostM _ _ _ _ _ _ _ ((aP w7 (w.heap.size+3) ⟨pg,n,f,bk,ev,nd,live,K,false⟩ (.slice A m cap)).setCell ⟨w.heap.size+4,0,none⟩ (zI ce));have aX:=aK Ie ⟨pg,n,f,bk,ev,nd,live,K,false⟩ (.slice A m cap);have F9:=aL w7 (w.heap.size+3) ⟨pg,n,f,bk,ev,nd,live,K,false⟩ (.slice A m cap);have Qb:=F9.blk k57 (by show ¬w.heap.size+4=w.heap.size+3;omega);have lJ:=aX.far (p:=⟨w.heap.size+4,0,none⟩) (by show w.heap.size+3≠w.heap.size+4;omega) (zI ce);have xg:=Qb.aM 0 (zI ce);have rO:=((F9.mono (λ_ _ h=>.inl h):ag (λk=>k=w.heap.size+3\/k=w.heap.size+4) _ _)).setCell (p:=⟨w.heap.size+4,0,none⟩) (λ_=>.inr rfl) (zI ce);have T9:=(T7).fresh rO (λk hk=>by rcases hk with rfl|rfl <;> omega) (λk hk=>by rcases hk with rfl|rfl;exact ⟨_,_,Ie,zd,zd,zd,zd⟩;exact ⟨_,_,k57,zd,zd,zd,zd⟩);generalize (aP w7 (w.heap.size+3) ⟨pg,n,f,bk,ev,nd,live,K,false⟩ (.slice A m cap)).setCell ⟨w.heap.size+4,0,none⟩ (zI ce)=w9 at *;dsimp only [aj] at lJ;simp only [List.setIfInBounds_toArray,List.set_cons_zero] at xg;obtain ⟨di,Xy⟩:=bB lJ xg;refine iH (v:=.tuple #[.agg (aj ⟨pg,n,f,bk,ev,nd,live,K,false⟩ (.slice A m cap)),zI ce]) (by simp [results,results18,go_sem,di,Xy,aj]) ?_;rw [El.out];exact Fp
 subst h4;rw [if_neg zs] at hR;go_upto_region 15 with fail
 have kN:=aK Ie ⟨pg,n,f,bk,ev,nd,live,K,false⟩ (.slice A m cap);have FN:=aL w7 (w.heap.size+3) ⟨pg,n,f,bk,ev,nd,live,K,false⟩ (.slice A m cap);have k18:=FN.blk k17 (by show ¬w.heap.size=w.heap.size+3;omega);have k28:=FN.blk k27 (by show ¬w.heap.size+1=w.heap.size+3;omega);have uj:=FN.blk uR (by show ¬w.heap.size+1+1=w.heap.size+3;omega);have k58:=FN.blk k57 (by show ¬w.heap.size+4=w.heap.size+3;omega);have km8:=FN.blk km7 (by show ¬gm=w.heap.size+3;omega);have hk8:=FH.far FN (λg cs hg e=>by subst e;exact Ie.ne hg zd);have akf:=ake.far FN (λg cs hg e=>by subst e;exact Ie.ne hg zd);have T8:=T7.fresh FN (λk hk=>by rw [hk];omega) (λk hk=>by rw [hk];exact ⟨_,_,Ie,zd,zd,zd,zd⟩);change Code.wp _ _ _ _ (aP w7 (w.heap.size+3) ⟨pg,n,f,bk,ev,nd,live,K,false⟩ (.slice A m cap));generalize aP w7 (w.heap.size+3) ⟨pg,n,f,bk,ev,nd,live,K,false⟩ (.slice A m cap)=w8 at *;dsimp only [aj] at kN;clear k17 k27 uR Ie k57 km7 FH ake T7 FN c37 c47 f47 c57 f57;have ku:=af.new w8 151 #[zN];have gN:=aQ w8 (.cells #[zN] 151);obtain ⟨k19,k29,yI,kN9,k59,km9,oV,akg⟩:=zC8 gN k18 k28 uj kN k58 km8 hk8 akf;have T9:=T8.aU gN;obtain ⟨gu,hgu⟩:=ah (w8.heap.size);rw [hgu] at ku;have axs:gm<gu:=by have:=km8.lt;omega
 go_upto_region 17 with fail
 generalize w8.alloc _=w9 at *;clear k18 k28 uj kN k58 km8 hk8 akf T8 gN;have ae7:af w9 (w.heap.size+1+1) 28 _:=yI;have R9:=ae7.cell;have GN:=below_alloc2 (aQ w9 (.cells (aj ⟨pg,n,f,bk,ev,nd,live,K,false⟩ (.slice A m cap)) 28)) (.cells #[.slice A4 al TP] 26);have kB1:=(af.new w9 28 (aj ⟨pg,n,f,bk,ev,nd,live,K,false⟩ (.slice A m cap))).dV (.cells #[.slice A4 al TP] 26);have kB2:=af.oG w9 (.cells (aj ⟨pg,n,f,bk,ev,nd,live,K,false⟩ (.slice A m cap)) 28) 26 #[.slice A4 al TP];have wY:=ae (GG _ (.slice A m cap) ⟨pg,n,f,bk,ev,nd,live,K,false⟩ w9 rfl A4 al TP);dsimp only [aj] at GN kB1 kB2 wY
 go_wp2_with (go_at_call 73;refine wY.out.mono ?_;rintro e iV ⟨rfl,akh⟩)
 rw [<-akh] at GN kB1 kB2 ⊢;obtain ⟨B1,hB1⟩:=ah (w9.heap.size);rw [hB1] at kB1 kB2;simp only [hB1];obtain ⟨k10,k20,k30,aru,k50,aki,arw,hk10,am7⟩:=zC9 GN k19 k29 ae7 kN9 k59 km9 ku oV akg;have wo:=T9.aU GN;have axt:gu<B1:=by have:=ku.lt;omega
 have aqz:bs<B1:=by have:=hV.lt;omega
 have Ty:=ae (Ee ⟨pg,n,f,bk,ev,nd,live,K,false⟩ (.slice A m cap) B1 (B1+1) A4 al TP more (λk=>k=B1\/k=B1+1\/(more≠[]/\∃o,A4=some ⟨k,o,none⟩)) iV hp Di hal.out hl4 akd (.inl rfl) (.inr (.inl rfl)) (λhn g o e=>.inr (.inr ⟨hn,o,e⟩)) kB1 kB2 hk10.ru);have Zd:∀k,(k=B1\/k=B1+1\/(more≠[]/\∃o,A4=some ⟨k,o,none⟩))->k<iV.heap.size:=λk hk=>by
  rcases hk with rfl|rfl|⟨hn,o,e⟩
  ·exact kB1.lt
  ·exact kB2.lt
  ·obtain ⟨cs,hc⟩:=hk10.block hn e
   exact hc.lt
 clear k19 k29 yI ae7 kN9 k59 km9 ku oV akg T9 akh R9 wY;simp only at Ty;obtain ⟨XS,hXS⟩:=ah (bW more 0 (ay pg n f bk ev));rw [hXS] at Ty hR Af;have hMF:=hMF.out;rw [hXS,Zk.out] at hMF;obtain ⟨mf1,mf2,mf3,mf4⟩:=hMF;clear hXS Zk;have hcr:mK iV (w.heap.size+3) ⟨pg,n,f,bk,ev,nd,live,K,false⟩:=⟨A,cap,by simp only;rw [hm.out];exact aru,am7,by simp only;rw [hm.out];exact hcap,hcm⟩;have Zl:w.heap.size<=iV.heap.size:=wo.size;refine Tk 20 79 159 (by rfl) yB Ty.out rfl Zd
  (λpre W=>∃(U:Vm) (v:Value) (bx:Nat->Nat),Hid (∀rest,pre++rest=XS->jN XS [] V=jN rest pre U)/\aR bs bb U cL w W/\af W w.heap.size 42 #[zP bs]/\af W (w.heap.size+1) 43 #[zP bb]/\af W (w.heap.size+1+1) 28 #[zI pg,zI n,zI f,zI bk,zI ev,zI nd,zI live,.slice A m cap,.bool false]/\mK W (w.heap.size+3) ⟨pg,n,f,bk,ev,nd,live,K,false⟩/\af W (w.heap.size+4) 37 #[zI 0]/\af W gm 3 #[zI many]/\af W gu 151 #[v] /\
   W.ownsRow w.heap.size 1 1 v pre.length ((List.range pre.length).map (λi=>Ic w.heap.size (w.heap.size+3) gm (bx i)))/\(∀i,i<pre.length->af W (bx i) 159 (qX (pre.getD i o9)))/\(∃cs,af W B1 28 cs)/\(∃cs,af W (B1+1) 26 cs)/\KeptAt W A4 more)
  (λc pre W=>c= .ret/\∃(U:Vm) (v:Value) (bx:Nat->Nat) (er:Int),er≠0/\Hid (jN XS [] V=(er,U,pre.dropLast))/\aR bs bb U cL w W/\af W w.heap.size 42 #[zP bs]/\af W (w.heap.size+1) 43 #[zP bb]/\af W (w.heap.size+1+1) 28 #[zI pg,zI n,zI f,zI bk,zI ev,zI nd,zI live,.slice A m cap,.bool false]/\mK W (w.heap.size+3) ⟨pg,n,f,bk,ev,nd,live,K,false⟩/\af W (w.heap.size+4) 37 #[zI er]/\af W gm 3 #[zI many]/\af W gu 151 #[v] /\
   W.ownsRow w.heap.size 1 1 v pre.dropLast.length ((List.range pre.dropLast.length).map (λi=>Ic w.heap.size (w.heap.size+3) gm (bx i)))/\(∀i,i<pre.dropLast.length->af W (bx i) 159 (qX (pre.dropLast.getD i o9))))
  ?hI ?hIx ?h0 ?assign ?body ?done ?stop
 case hI =>
  rintro pre WA WB ⟨U,v,bx,h1,h2,h3,h4,h5,h6,h7,h8,h9,h10,h11,⟨c12,h12⟩,⟨c13,h13⟩,h14⟩ hs;exact ⟨U,v,bx,h1,h2.soft Zl hs,hs.blk h3,hs.blk h4,hs.blk h5,h6.soft hs,hs.blk h7,hs.blk h8,hs.blk h9,wm h10 hs,λi hi=>hs.blk (h11 i hi),⟨c12,hs.blk h12⟩,⟨c13,hs.blk h13⟩,h14.soft hs⟩
 case hIx =>
  rintro c pre WA WB ⟨h0,U,v,bx,er,he,h1,h2,h3,h4,h5,h6,h7,h8,h9,h10,h11⟩ hs;exact ⟨h0,U,v,bx,er,he,h1,h2.soft Zl hs,hs.blk h3,hs.blk h4,hs.blk h5,h6.soft hs,hs.blk h7,hs.blk h8,hs.blk h9,wm h10 hs,λi hi=>hs.blk (h11 i hi)⟩
 case h0 =>
  exact ⟨V,_,λ_=>0,ae (λrest h=>by rw [List.nil_append] at h;rw [h]),wo,k10,k20,k30,hcr,k50,aki,arw,World.ownsRow_nil _ _ _ _,λi hi=>absurd hi zs,⟨_,kB1⟩,⟨_,kB2⟩,hk10⟩
 case assign =>
  exact ajN
 case body =>
  rintro mm l X pre x Bx W hs2 hX hD hE ⟨U,v,bx,hS,T1,k1,k2,k3,uH,ke,TQ,Qc,hrow,hbx,⟨c8,Ep⟩,⟨c9,Er⟩,TA⟩ kx hpre;simp only [List.setIfInBounds_toArray,List.set_cons_succ,List.set_cons_zero];obtain ⟨rest,hrest⟩:=hpre;have hst:=hS.out (x::rest) (by rw [<-hrest,List.append_assoc];rfl);rw [jN] at hst;obtain ⟨xa,xb,xn⟩:=x;simp only at hst;have HC:=ae (λW h=>RJ bs xa xb U W h);obtain ⟨J,hJ⟩:=ah (bK U xa xb 2 1 2);rw [hJ] at HC hst;obtain ⟨je,jV⟩:=J;simp only at HC hst;obtain ⟨c1,cx⟩:=bB k1 kx;clear hJ
  gi_wp2_with fail
  refine (callsIn_wide.2 (HC.out _ T1.sys)).zr λw1 h1=>?_
  have S1:=aR.iX T1.sys T1.eO h1;by_cases hj0:je=0
  ·subst hj0
   rw [if_neg zs] at hst;have dx:=ae hst;obtain ⟨i0,hi,hz0,hz1,hz2⟩:=MM;have hlen:pre.length+1<=XS.length:=by rw [<-hrest];simp
   have k12:=S1.blk T1.sys k1 zd zd;have k22:=S1.blk T1.sys k2 zd zd;have jv:=S1.blk T1.sys k3 zd zd;have KR:=S1.blk T1.sys ke zd zd;have Xg:=S1.blk T1.sys TQ zd zd;have Qd:=S1.blk T1.sys Qc zd zd;have gY:=S1.blk T1.sys kx zd zd;have BH:=S1.blk T1.sys Ep zd zd;have zn:=S1.blk T1.sys Er zd zd;have N9:=S1.kept T1.sys TA;have hc2:=uH.both T1.sys S1;have Gj:=λi hi=>S1.blk T1.sys (hbx i hi) zd zd
   have hrow2:=Al hrow S1.far (λg cs hg=>mJ.not T1.sys hg zd zd);have cu2:=Qd.cell;have fu2:=Qd.frozen;have kN:=af.new w1 1 #[Ic w.heap.size (w.heap.size+3) gm Bx];have aop:w.heap.size<=w1.heap.size:=Nat.le_trans T1.size S1.size;have Ej:∀k t cs,af W k t cs->t≠85->t≠26->t≠28->¬((k=B1\/k=B1+1\/(more≠[]/\∃o,A4=some ⟨k,o,none⟩))\/X k\/k=iV.heap.size\/k=iV.heap.size+1):=by
    intro k t cs hb h1 h2 h3 hz;rcases hz with (h|h|⟨hn,o,h⟩)|h|h|h
    ·subst h;exact hb.ne Ep h3
    ·subst h;exact hb.ne Er h2
    ·obtain ⟨cs',hc'⟩:=TA.block hn h;exact hb.ne hc' h1
    ·obtain ⟨cs',hc'⟩:=hX k h;exact hb.ne hc' h1
    ·subst h;exact hD _ _ hb
    ·subst h;exact hE _ _ hb
   have noT:∀k,(mJ W bs bb k\/v.ownBlock=some k\/k=gu)->¬((k=B1\/k=B1+1\/(more≠[]/\∃o,A4=some ⟨k,o,none⟩))\/X k\/k=iV.heap.size\/k=iV.heap.size+1):=by
    rintro k ((rfl|⟨_,cs,hc⟩)|h|rfl)
    ·obtain ⟨cs,hc⟩:=T1.sys.typed
     exact Ej _ _ _ hc zd zd zd
    ·exact Ej _ _ _ hc zd zd zd
    ·obtain ⟨cs,hc⟩:=Dn hrow h
     exact Ej _ _ _ hc zd zd zd
    ·exact Ej _ _ _ Qc zd zd zd
   have N8:=ae noT;have arx:w.heap.size<=gu:=zo;have noU:∀g t cs,af w1 g t cs->t≠1->t≠151->¬(v.ownBlock=some g\/g=gu):=by
    rintro g t cs hg h1 h2 (h|rfl)
    ·obtain ⟨cs',hc'⟩:=Dn hrow2 h
     exact hg.ne hc' h1
    ·exact hg.ne Qd h2
   have nC:=ae noU;clear Ej noT noU hD hE hX;clear hst c1 cx k1 k2 k3 ke TQ Qc kx hbx HC h1 Ep Er TA uH hrow;unfold Ic at kN
   gi_wp2_with (gi_at_builtin;refine wpListIn_append_own _ rfl (.tmp 90) (.tmp 92) 151 rfl w.heap.size 1 i0 .nilFunc 1 8 underlying151 hi hz0 hz1 hz2 rfl zd v pre.length _ rfl (hrow2.alloc _) ⟨w1.heap.size,0,none⟩ 1 1 [_] rfl rfl (λj u hu=>by
     have hj0:j=0:=by have:=(List.getElem?_eq_some_iff.1 hu).1;simp at this;omega
     subst hj0;rw [dM,Nat.zero_add,kN.cell];simpa using hu) (λu hu=>by simp only [List.mem_singleton] at hu;subst hu;rfl) (by unfold maxLen;omega) zo (by simp;omega) ?_;intro v' w2 hown' hgrow _;obtain ⟨Au',cu',rfl,_⟩:=dH hown';have ku3:=(Qd.alloc _).grown hgrow (λe=>Qd.not_row hrow2 zd e.symm);have cu3:=ku3.cell;have fu3:=ku3.frozen)
   have FA:ag (λk=>v.ownBlock=some k\/k=gu) w1 w2:=((ag.refl _ w1).alloc _).grown hgrow (λr e hr=>.inl e);have FF:=FA.setCell (p:=⟨gu,0,none⟩) (λ_=>.inr rfl) (.slice Au' (pre.length+1) cu');have FG:ag (λk=>k=gu) w2 (w2.setCell ⟨gu,0,none⟩ (.slice Au' (pre.length+1) cu')):=ag.setCell (T:=λk=>k=gu) (p:=⟨gu,0,none⟩) (ag.refl _ w2) (λ_=>rfl) _;have kU:=ku3.aM 0 (.slice Au' (pre.length+1) cu');have hown3:=aN hown' FG (λg hg e=>by subst e;exact dJ hown' hg ku3 zd);have T3:=(T1.trans S1).fresh FF (λk hk=>by rcases hk with h|rfl;exact (hrow2.lt k h).1;exact arx) (λk hk=>by
    rcases hk with h|rfl
    ·obtain ⟨cs,hc⟩:=Dn hrow2 h
     exact ⟨_,cs,hc,zd,zd,zd,zd⟩
    ·exact ⟨_,_,Qd,zd,zd,zd,zd⟩)
   generalize w2.setCell ⟨gu,0,none⟩ (.slice Au' (pre.length+1) cu')=w3 at *;simp only [List.setIfInBounds_toArray,List.set_cons_zero] at kU;refine ⟨(S1.far.mono (λk _ h=>N8.out k (.inl h))).trans' FF (λi hi h=>N8.out i (.inr h)),jV,_,λi=>if i=pre.length then Bx else bx i,?_,T3,FF.blk k12 (nC.out _ _ _ k12 zd zd),FF.blk k22 (nC.out _ _ _ k22 zd zd),FF.blk jv (nC.out _ _ _ jv zd zd),?_,FF.blk KR (nC.out _ _ _ KR zd zd),FF.blk Xg (nC.out _ _ _ Xg zd zd),kU,?_,?_,⟨_,FF.blk BH (nC.out _ _ _ BH zd zd)⟩,⟨_,FF.blk zn (nC.out _ _ _ zn zd zd)⟩,N9.far FF (λg cs hg=>nC.out _ _ _ hg zd zd)⟩
   ·refine ae (λrest' h=>?_)
    have e:rest'=rest:=by
     rw [<-hrest] at h;exact List.append_cancel_left h
    rw [e];exact dx.out
   ·obtain ⟨q,cq,ja,hkq,hlq,hcq⟩:=hc2.ex
    exact ⟨q,cq,FF.blk ja (nC.out _ _ _ ja zd zd),hkq.far FF (λg cs hg=>nC.out _ _ _ hg zd zd),hlq,hcq⟩
   ·rw [List.length_append,List.length_singleton,TN (λi=>Ic w.heap.size (w.heap.size+3) gm (bx i)) _ pre.length (λi hi=>by dsimp only;rw [if_neg zo])]
    simpa [Ic] using hown3
   ·intro i hi
    dsimp only;by_cases e:i=pre.length
    ·rw [if_pos e,e]
     have e2:(pre++[(xa,xb,xn)]).getD pre.length o9=(xa,xb,xn):=by simp [List.getD_eq_getElem?_getD]
     rw [e2];exact FF.blk gY (nC.out _ _ _ gY zd zd)
    ·have hi':i<pre.length:=by rw [List.length_append,List.length_singleton] at hi;omega
     rw [if_neg e];have e2:(pre++[(xa,xb,xn)]).getD i o9=pre.getD i o9:=by simp [List.getD_eq_getElem?_getD,List.getElem?_append_left hi']
     rw [e2];exact FF.blk (Gj i hi') (nC.out _ _ _ (Gj i hi') zd zd)
  ·have aqH:=gJ hj0
   rw [if_pos hj0] at hst;have dx:=ae hst;obtain ⟨q,cq,ja,hkq,hlq,hcq⟩:=(uH.both T1.sys S1).ex;simp only at ja hkq hlq;rw [hm.out] at ja hlq;have k12:=S1.blk T1.sys k1 zd zd;have k22:=S1.blk T1.sys k2 zd zd;have jv:=S1.blk T1.sys k3 zd zd;have KR:=S1.blk T1.sys ke zd zd;have Xg:=S1.blk T1.sys TQ zd zd;have Qd:=S1.blk T1.sys Qc zd zd;have Gj:=λi hi=>S1.blk T1.sys (hbx i hi) zd zd
   obtain ⟨c42,ce2⟩:=bB ja KR;obtain ⟨f42,fe2⟩:=tu ja KR;clear hst c1 cx k1 k2 k3 ke TQ Qc hbx HC h1 Ep Er
   gi_wp2_with fail
   have hrow2:=Al hrow S1.far (λg cs hg=>mJ.not T1.sys hg zd zd);have ZU:=aK ja ⟨pg,n,f,bk,ev,nd,live,K,false⟩ (.slice q m cq);have FN:=aL w1 (w.heap.size+3) ⟨pg,n,f,bk,ev,nd,live,K,false⟩ (.slice q m cq);have kE2:=FN.blk KR (by show ¬w.heap.size+4=w.heap.size+3;omega);have OJ:=ZU.far (p:=⟨w.heap.size+4,0,none⟩) (by show w.heap.size+3≠w.heap.size+4;omega) (zI je);have kE3:=kE2.aM 0 (zI je);have FE:=((FN.mono (λ_ _ h=>.inl h):ag (λk=>k=w.heap.size+3\/k=w.heap.size+4) _ _)).setCell (p:=⟨w.heap.size+4,0,none⟩) (λ_=>.inr rfl) (zI je);have T3:=(T1.trans S1).fresh FE (λk hk=>by rcases hk with rfl|rfl <;> omega) (λk hk=>by rcases hk with rfl|rfl;exact ⟨_,_,ja,zd,zd,zd,zd⟩;exact ⟨_,_,KR,zd,zd,zd,zd⟩);have TR:∀g t cs,af w1 g t cs->t≠37->(t=28->g≠w.heap.size+3)->¬(g=w.heap.size+3\/g=w.heap.size+4):=by
    intro g t cs hg h1 h2 hz;rcases hz with rfl|rfl
    ·by_cases e:t=28
     ·exact h2 e rfl
     ·exact hg.ne ja e
    ·exact hg.ne KR h1
   change WX _ _ _ _ _ _ _ _ _ ((aP w1 (w.heap.size+3) ⟨pg,n,f,bk,ev,nd,live,K,false⟩ (.slice q m cq)).setCell ⟨w.heap.size+4,0,none⟩ (zI je));generalize (aP w1 (w.heap.size+3) ⟨pg,n,f,bk,ev,nd,live,K,false⟩ (.slice q m cq)).setCell ⟨w.heap.size+4,0,none⟩ (zI je)=w3 at *;refine ⟨?_,rfl,jV,v,bx,je,hj0,by rw [List.dropLast_concat];exact dx,T3,FE.blk k12 (TR _ _ _ k12 zd (λh=>absurd h zd)),FE.blk k22 (TR _ _ _ k22 zd (λh=>absurd h zd)),FE.blk jv (TR _ _ _ jv zd (λ_=>by omega)),⟨q,cq,by simp only;rw [hm.out];exact OJ,hkq.far FE (λg cs hg=>TR _ _ _ hg zd (λh=>absurd h zd)),by simp only;rw [hm.out];exact hlq,hcq⟩,kE3,FE.blk Xg (TR _ _ _ Xg zd (λh=>absurd h zd)),FE.blk Qd (TR _ _ _ Qd zd (λh=>absurd h zd)),?_,?_⟩
   ·refine (S1.far.mono (λk _ hk=>?_)).trans' FE (λi hi hk hz=>?_)
    ·obtain ⟨t,cs,hb⟩:∃t cs,af W k t cs:=by
      rcases hk with rfl|⟨_,cs,hc⟩
      ·obtain ⟨cs,hc⟩:=T1.sys.typed;exact ⟨_,_,hc⟩
      ·exact ⟨_,_,hc⟩
     rintro (rfl|rfl)
     ·exact hD _ _ hb
     ·exact hE _ _ hb
    ·have:=k50.lt
     rcases hk with rfl|rfl <;> rcases hz with h|h <;> omega
   ·rw [List.dropLast_concat];exact Al hrow2 FE (λg cs hg=>TR _ _ _ hg zd (λh=>absurd h zd))
   ·rw [List.dropLast_concat];exact λi hi=>FE.blk (Gj i hi) (TR _ _ _ (Gj i hi) zd (λh=>absurd h zd))
 case done =>
  rintro W hs2 ⟨U,v,bx,hS,T1,k1,k2,k3,uH,ke,TQ,Qc,hrow,hbx,_,_,_⟩ hd;have hS2:=hS.out [] (List.append_nil _);rw [jN] at hS2;rw [hS2] at hR;simp only [if_true] at hR;obtain ⟨q,cq,k4,hkq,hlq,hcq⟩:=uH.ex;simp only at k4 hkq hlq;rw [hm.out] at k4 hlq;dsimp only [aj] at k4;have c4:=k4.cell;have f4:=k4.frozen;go_upto_region 24 with fail
  clear c4;have MI:w.heap.size<=iV.heap.size:=Zl;have HD0:l8 (some iV.heap.size) W:=λD e=>by cases e;exact hd
  have FS:=ag.setCell (T:=λk=>k=w.heap.size+3) (p:=⟨w.heap.size+3,6,none⟩) (ag.refl _ W) (λ_=>rfl) (zI tt);have T2:=T1.fresh FS (λk hk=>by rw [hk];omega) (λk hk=>by rw [hk];exact ⟨_,_,k4,zd,zd,zd,zd⟩);have jv:=k3.far (p:=⟨w.heap.size+3,6,none⟩) (by show w.heap.size+1+1≠w.heap.size+3;omega) (zI tt);have ja:=k4.aM 6 (zI tt);have KR:=ke.far (p:=⟨w.heap.size+3,6,none⟩) (by show w.heap.size+4≠w.heap.size+3;omega) (zI tt);have HD2:=HD0.far FS (λk hk=>by rw [hk];exact ⟨_,_,k4⟩);have hq2:=hkq.far FS (λg cs hg e=>by subst e;exact k4.ne hg zd);have hK2:=T2.kept hV kZ.out;change Code.wp _ _ _ _ (W.setCell ⟨w.heap.size+3,6,none⟩ (zI tt));generalize W.setCell ⟨w.heap.size+3,6,none⟩ (zI tt)=wt at *;simp only [List.setIfInBounds_toArray,List.set_cons_zero,List.set_cons_succ] at ja;clear k1 k2 k3 k4 TQ Qc hrow hbx ke hkq FS f4 T1 hd HD0;have hS:Fh (w.heap.size+2) live (.slice A m cap) wt:=⟨jv.cell 6,jv.cell 7⟩;have hbd:=(Below.refl wt.heap.size wt).drew;have T3:=T2.aU hbd;obtain ⟨uT,ke3,HD3,hq3,hK3,hS⟩:=zC6 hbd ja KR HD2 hq2 hK2 hS;refine bT ?_;refine bM (Fh (w.heap.size+2) live (.slice A m cap)) [6,7,8,9] zk ?_;generalize wt.drew=wd at *;clear ja KR HD2 hq2 hK2 T2 hbd;refine aW 0 hS ?_;refine aW 1 hS ?_;refine aW 2 hS ?_;refine gD 3 λK hK=>?_
  go_simp;refine (HB2.out wd).mono ?_;rintro (e wa ⟨A2,c2,rfl,tY,hl2,hc2,_,gN⟩);refine hK.out _ _ (λ_=>hS.call gN) (λhS=>?_);clear hK K;replace hS:=hS rfl;try simp only [Act.put,iE,iF,iG]
  have hKa:=hK3.call gN;refine gD 4 λK hK=>?_
  go_simp;refine ((WW.out wa A A2 cap c2 ⟨hcap,hcm⟩ hl2 hc2 tY hKa.ru)).mono ?_;rintro (e wb ⟨A5,c5,rfl,hk5,hl5,Tn,hbb⟩);refine hK.out _ _ (λ_=>hS.call hbb) (λhS=>?_);clear hK K;replace hS:=hS rfl;try simp only [Act.put,iE,iF,iG]
  have hab:=gN.zt hbb;have Tb:=T3.aU hab;obtain ⟨XB,keb,HDb,hqb⟩:=vO hab uT ke3 HD3 hq3;clear jv uT ke3 HD3 hq3 hK3 hKa T3 tY hl2 gN;refine aW 5 hS ?_;refine ig 6 ?_;refine ig 7 ?_;refine ig 8 ?_;have c4b:=XB.cell;have f4b:=XB.frozen;refine gD 9 λKK hK=>?_
  go_simp;refine hK.out _ _ (λh=>absurd h zd) (λ_=>?_);clear hK KK;refine bE zk ?_ _;refine aS ?_;have FS:=ag.setCell (T:=λk=>k=w.heap.size+3) (p:=⟨w.heap.size+3,7,none⟩) (ag.refl _ wb) (λ_=>rfl) (.slice A5 (az K (aZ (bJ 0 tt) (0,1024))).length c5);have Tc:=Tb.fresh FS (λk hk=>by rw [hk];omega) (λk hk=>by rw [hk];exact ⟨_,_,XB,zd,zd,zd,zd⟩);have XC:=XB.aM 7 (.slice A5 (az K (aZ (bJ 0 tt) (0,1024))).length c5);have kec:=keb.far (p:=⟨w.heap.size+3,7,none⟩) (by show w.heap.size+4≠w.heap.size+3;omega) (.slice A5 (az K (aZ (bJ 0 tt) (0,1024))).length c5);have Xn:=HDb.far FS (λk hk=>by rw [hk];exact ⟨_,_,XB⟩);have arB:=hk5.far FS (λg cs hg e=>by subst e;exact XB.ne hg zd);generalize wb.setCell ⟨w.heap.size+3,7,none⟩ (.slice A5 (az K (aZ (bJ 0 tt) (0,1024))).length c5)=wc at *;simp only [List.setIfInBounds_toArray,List.set_cons_zero,List.set_cons_succ] at XC;clear XB keb HDb hqb Tb FS c4b f4b hS hk5 hbb hab;generalize hK9:az K (aZ (bJ 0 tt) (0,1024))=K9 at *;obtain ⟨c4c,cec⟩:=bB XC kec;obtain ⟨f4c,fec⟩:=tu XC kec;go_wp2_with fail;change bodyPostM _ _ _ _ _ _ _ ((aP wc (w.heap.size+3) ⟨pg,n,f,bk,ev,nd,tt,K9,false⟩ (.slice A5 K9.length c5)).setCell ⟨w.heap.size+4,0,none⟩ (zI 0));have aX:=aK XC ⟨pg,n,f,bk,ev,nd,tt,K9,false⟩ (.slice A5 K9.length c5);have F9:=aL wc (w.heap.size+3) ⟨pg,n,f,bk,ev,nd,tt,K9,false⟩ (.slice A5 K9.length c5);have Qb:=F9.blk kec (by show ¬w.heap.size+4=w.heap.size+3;omega);have lJ:=aX.far (p:=⟨w.heap.size+4,0,none⟩) (by show w.heap.size+3≠w.heap.size+4;omega) (zI 0);have xg:=Qb.aM 0 (zI 0);have rO:=((F9.mono (λ_ _ h=>.inl h):ag (λk=>k=w.heap.size+3\/k=w.heap.size+4) _ _)).setCell (p:=⟨w.heap.size+4,0,none⟩) (λ_=>.inr rfl) (zI 0);have T9:=Tc.fresh rO (λk hk=>by rcases hk with rfl|rfl <;> omega) (λk hk=>by rcases hk with rfl|rfl;exact ⟨_,_,XC,zd,zd,zd,zd⟩;exact ⟨_,_,kec,zd,zd,zd,zd⟩);have yK:=Xn.far rO (λk hk=>by rcases hk with rfl|rfl;exact ⟨_,_,XC⟩;exact ⟨_,_,kec⟩);have oV:=arB.far rO (λg cs hg e=>by rcases e with rfl|rfl;exact XC.ne hg zd;exact kec.ne hg zd);generalize (aP wc (w.heap.size+3) ⟨pg,n,f,bk,ev,nd,tt,K9,false⟩ (.slice A5 K9.length c5)).setCell ⟨w.heap.size+4,0,none⟩ (zI 0)=w9 at *;have SF:=yK.soft MI;have htk:=run_takeDeferred (P:=prog) (yK _ rfl);have wo:=T9.soft (Nat.le_refl _) (yK.soft (Nat.le_trans (Nat.le_refl _) MI));have hk10:=oV.soft SF;have kRf:=SF.blk lJ;have kEf:=SF.blk xg;generalize w9.putObj iV.heap.size (.deferred none)=wf at *;simp only [List.setIfInBounds_toArray,List.set_cons_zero] at kEf;refine xe (Q:=λw'=>w'=wf) htk rfl (Cc _ wf) (PR (w.heap.size+4) gu (w.heap.size+1) (w.heap.size+2) gm _ .returning wf kEf) ?_;rintro w' rfl;dsimp only [aj] at kRf;obtain ⟨cRf,cEf⟩:=bB kRf kEf;rw [<-hR];exact ⟨.tuple #[.agg (aj ⟨pg,n,f,bk,ev,nd,tt,K9,false⟩ (.slice A5 K9.length c5)),zI 0],by simp [results,results18,go_sem,cRf,cEf,aj],_,rfl,⟨A5,c5,rfl,hl5,Tn,hk10⟩,wo⟩
 case stop =>
  rintro c pre W hs2 hpre ⟨rfl,U,v,bx,er,her,hS,T1,k1,k2,k3,uH,ke,TQ,Qc,hrow,hbx⟩ hd;rw [hS.out] at hR;simp only at hR;rw [if_neg her] at hR;have MI:w.heap.size<=iV.heap.size:=Zl;have HD0:l8 (some iV.heap.size) W:=λD e=>by cases e;exact hd
  have SF:=HD0.soft MI;go_wp2_with fail;have kw1:=SF.blk k1;have kw2:=SF.blk k2;have kw3:=SF.blk k3;have XD:=SF.blk ke;have kwm:=SF.blk TQ;have kwu:=SF.blk Qc;have hcw:=uH.soft SF;have hbw:=λi hi=>SF.blk (hbx i hi)
  have hrw:=wm hrow SF;have hVw:=T1.sys.soft SF;have hBw:=T1.eO.soft SF;have hFw:=T1.far.soft (Nat.le_refl _) SF;obtain ⟨Au,cu,rfl,hfn,hty⟩:=aho hrw;have hdl:pre.dropLast <+: XS:=(List.dropLast_prefix pre).trans hpre;have hsum:dU pre.dropLast<=many:=by
   obtain ⟨t,ht⟩:=hdl;rw [<-mf1,<-ht,qH];have:=uE t (λy hy=>Af y (by rw [<-ht];simp [hy]));omega
  have hlen:=hdl.length_le;have HG:=Xj bs bb (w.heap.size+4) gu w.heap.size (w.heap.size+1) (w.heap.size+2) (w.heap.size+3) gm 0 nd U cL ⟨pg,n,f,bk,ev,nd,live,K,false⟩ ⟨pg,n,f,bk,ev,nd,live,K,false⟩ (.slice A m cap) many er pre.dropLast bx Au pre.dropLast.length cu .returning _ her hVw hBw XA arn XD kwu rfl zo hfn hty kw1 kw2 kw3 rfl zo hbw hcw kwm (λx hx=>Af x (hdl.subset hx)) jC hsum zo;have htk:=run_takeDeferred (P:=prog) hd;generalize W.putObj iV.heap.size (.deferred none)=wf at *;refine xe htk rfl (Cc _ wf) HG ?_;rintro w' ⟨q1,q2,q3,q4⟩;have kE':=q4.blk XD (by
   rintro ((h|h|h)|⟨_,cs,h⟩)
   ·obtain ⟨cs,hc⟩:=hVw.typed;rw [h] at XD;exact XD.ne hc zd
   ·omega
   ·rw [h] at XD;exact XD.ne kwm zd
   ·exact XD.ne h zd)
  rw [<-hR];generalize pre.dropLast.reverse.foldl dK (U,K,many)=S at *;obtain ⟨sV,sK,sm⟩:=S;simp only at q1 q2 q3;obtain ⟨q,cq,k4,hkq,hlq,hcq⟩:=q3.ex;dsimp only [aj] at k4;obtain ⟨cRf,cEf⟩:=bB k4 kE';exact ⟨.tuple #[.agg (aj ⟨pg,n,f,bk,ev,nd,live,sK,false⟩ (.slice q sK.length cq)),zI er],by simp [results,results18,go_sem,cRf,cEf,aj],_,rfl,⟨q,cq,rfl,hlq,hcq,hkq⟩,⟨q1,q2,hFw.trans' q4 (λi hi ht=>by
   rcases ht with (h|h|h)|h
   ·exact .inl h
   ·omega
   ·have:=aki.lt;omega
   ·exact mJ.back hFw hi (.inr h))⟩⟩
theorem aaS (A:Option Addr) (n cap:Nat) (l:List Ru) (w:World) (hn:l.length=n) (hm:n<=1000) (hz:A=none->cap=0) (hr:Rd w w.heap.size A (fl iU l)) :
  Calls prog 14 #[.agg #[.slice A n cap]] w λe w'=>((iy l).2≠0/\e= .returned (.tuple #[.pointer none,zI (iy l).2])\/(iy l).2=0/\∃b,e= .returned (.tuple #[zP b,zI 0])/\aA w' b (vS iM l)/\w.heap.size<=b)/\Below w.heap.size w w':=by
 have hb0:=aQ w (.cells #[.slice A n cap] 31);have k0:=af.new w 31 #[.slice A n cap];have c0:=k0.cell;have hr0:=hr.fB hb0;have HS:=ae (λW h=>Jl A n cap l W hn hm hz h);have hln:=ae hn;clear hn hr;go_enter func14,ntmps14;go_wp2_with fail;refine (HS.out _ hr0).mono ?_;rintro e w1 hS;rcases hS with ⟨h0,rfl,hb1⟩|⟨h0,v,rfl,hv⟩
 ·have B1:=hb0.zt hb1
  have Qe:=ae h0;have d0:((iy l).2 != 0)=true:=by simpa using h0
  have hB2:=B1.alloc B1.size (.cells (aH zN (λ_=>0) (λ_=>0)).toArray 58);clear h0;unfold aH at hB2;unfold ic aH;go_wp2_with fail;go_ret2;exact ⟨.inl ⟨Qe.out,rfl⟩,hB2⟩
 obtain ⟨A,cap,rfl,v1,v2,v3,v4,v5,hb1⟩:=hv;have Qe:=ae h0;obtain ⟨ln,Zm⟩:=ah (l.length);rw [Zm] at v2;simp only [Zm];have arG:=ae Zm;have v1H:=ae v1;have v5H:=ae v5;have B1:=hb0.zt hb1;have hB2:=B1.alloc B1.size (.cells (aH (.slice A ln cap) (λ_=>0) (λ_=>0)).toArray 58);have hb2:=aQ w1 (.cells (aH (.slice A ln cap) (λ_=>0) (λ_=>0)).toArray 58);have hzs:=zeroCells105_size;have hzz:=Jv;obtain ⟨zc,hzc⟩:=ah (zeroCells105);rw [hzc] at hzs hzz;have hne:¬zc=#[]:=λe=>by rw [e] at hzs;simp at hzs
 have hC:=ae (O9 hzz (.slice A ln cap));have kz:=af.new w1 58 (aH (.slice A ln cap) (λ_=>0) (λ_=>0)).toArray;clear hzz c0 k0 v1 HS v5 h0 Zm;unfold aH at hB2 kz hb2;unfold ic aH;go_upto_region 4 with fail
 generalize w1.alloc _=w2 at *;have cz:=kz.cell;have hB3:=hB2.alloc hB2.size (.cells (eX (eX zc 0 [.bool true]) 67585 (aH (.slice A ln cap) (λ_=>0) (λ_=>0))) 105);have hb3:=aQ w2 (.cells (eX (eX zc 0 [.bool true]) 67585 (aH (.slice A ln cap) (λ_=>0) (λ_=>0))) 105);have kS:=af.new w2 105 (eX (eX zc 0 [.bool true]) 67585 (aH (.slice A ln cap) (λ_=>0) (λ_=>0)));have hbs:=hB2.size;go_wp2_with fail;go_ret2;refine ⟨.inr ⟨Qe.out,w2.heap.size,rfl,?_,hbs⟩,hB3⟩;have e:=Oh l Qe.out;rw [e];have hr2:=((v1H.out.fB hb2).fB hb3);refine ⟨_,A,ln,cap,kS,hC.out.congr rfl rfl rfl,arG.out,hr2,v5H.out.1,λg o e h=>?_,NL Qe.out,λg o e h=>?_⟩
 ·have:=v4 g o e
  obtain ⟨cr,hcr⟩:=v5H.out.2 g o e h;have:=(hcr.call hb2).lt;omega
 ·obtain ⟨cr,hcr⟩:=v5H.out.2 g o e h
  exact ⟨cr,(hcr.call hb2).call hb3⟩
theorem aht:(prog.info? 142).map (λi=>(i.zero,i.size,i.bytes))=some (some (.agg #[zI 0,zI 0,zI 0,zI 0,.bool false,zI 0]),6,48):=zk
theorem MO:∃i0,prog.info? 142=some i0/\i0.zero=some (.agg #[zI 0,zI 0,zI 0,zI 0,.bool false,zI 0])/\i0.size=6/\i0.bytes=48:=by
 obtain ⟨i0,h⟩:=info_parts aht;exact ⟨i0,h⟩
theorem KS:∀args w,(callFunc 97 args).run prog w= .ok (.enter 97 args) w:=enters_of func97 zk rfl
theorem TU (a b c d f:Int) (cl:Bool) (w:World):zK 97 #[.agg #[zI a,zI b,zI c,zI d,.bool cl,zI f]] w (.bool cl):=by
 have hb0:=aQ w (.cells #[zI a,zI b,zI c,zI d,.bool cl,zI f] 142);have k0:=af.new w 142 #[zI a,zI b,zI c,zI d,.bool cl,zI f];have c0:=k0.cell;go_enter func97,ntmps97;go_wp2_with fail;go_ret;exact ⟨rfl,hb0⟩
theorem Qf (g cap:Nat) (a b c d f:Int) (w:World) (c0:∀(q:Nat) (v:Value),[zI a,zI b,zI c,zI d,.bool false,zI f][q]? = some v->w.cell? ⟨g,q,none⟩=some v) :
  zK 96 #[.slice (some ⟨g,0,none⟩) 1 cap,.func (.func 97) #[] #[]] w (zI (-1)):=by
 have q0:=c0 0 _ rfl;have q1:=c0 1 _ rfl;have q2:=c0 2 _ rfl;have q3:=c0 3 _ rfl;have q4:=c0 4 _ rfl;have q5:=c0 5 _ rfl;have HC:=ae (λW=>TU a b c d f false W);clear c0;have eg:=KS;go_enter func96,ntmps96;go_wp2_with fail
 go_loopw [8] (λu wr=>(u = zI 0/\wr=w)\/(u = zI 1/\Below w.heap.size w wr)) (λu _=>2 - (intOf u).toNat)
 case atStart=>exact .inl ⟨rfl,rfl⟩
 case round =>
  rcases hrel with ⟨rfl,rfl⟩|⟨rfl,hB⟩
  ·go_wp2_with fail
   refine (HC.out _).zr λw1 hb1=>?_
   go_wp2_with fail;go_roundw
   case rel=>exact .inr ⟨rfl,hb1⟩
   case measure=>decide
  ·go_wp2_with fail
   go_ret;exact ⟨rfl,hB⟩
theorem ae8 {w:World} {base:Nat} {e:TypeId} {v:Value} {xs:List Value} (h:w.ownsRow base e 6 v (1+1) xs) :
  ∃g cap,v= .slice (some ⟨g,0,none⟩) 2 cap/\base<=g/\2<=cap/\cap<=maxLen/\∃cs,af w g e cs:=by
 rcases h.2 with ⟨_,hn⟩|⟨g,cap,cur,hv,hb,hk,hc,hm,_,_⟩
 ·omega
 ·exact ⟨g,cap,hv,hb,hc,hm,cur,hk⟩
theorem XE (b:Nat) (m lim:Int) (w:World) (hB:bz w b (fK m)) (hm:0<=m/\m<=4096) :
  Calls prog 31 #[zP b,zI 0,zI lim] w λe w'=>(∃k:Int,e= .returned (.tuple #[zI k,zI (gB (fK m) lim).1])/\((gB (fK m) lim).1=0->k=1))/\bz w' b (gB (fK m) lim).2/\ag (λk=>k=b\/lD b w k) w w':=by
 obtain ⟨i0,hi0,hi1,hi2,hi3⟩:=MO;have HK:=ae (zx b 0 (fK m) w hB (yY hm).ch Nat.zero_lt_one);have hb1:=aQ w (.cells #[zI 0] 3);have hB1:=hB.call hb1;have HO:=ae (λW=>lK lim 4096 W);obtain ⟨w1,hw1⟩:=ah (w.alloc (.cells #[zI 0] 3));rw [show ((0:Nat):Int)=0 from rfl,hw1] at HK;rw [hw1] at hb1 hB1;unfold gB;by_cases h1:lim<0\/4096<lim
 ·rw [if_pos h1]
  rw [decide_eq_true h1] at HO;have qV:=ae hB1;clear h1 hB hB1;go_enter func31,ntmps31
  go_wp2_with (first|(go_at_call 80;refine HK.out.mono ?_;rintro e w2 ⟨rfl,hw2⟩;replace hw2:=hw2.symm;subst hw2)|(go_at_call 61;refine (HO.out _).mono ?_;rintro e w2 ⟨rfl,hw2⟩;replace hw2:=hw2.symm;subst hw2))
  go_ret2;exact ⟨⟨0,rfl,λh=>absurd h zd⟩,qV.out,ag.of_below hb1⟩
 rw [if_neg h1];rw [decide_eq_false h1] at HO;obtain ⟨A,cap,k,r⟩:=hB1.ex;obtain ⟨g,cap2,hc1,hc2,kb,hgN,hgl,hcell,hfz⟩:=hB1.node (i:=0) Nat.zero_lt_one;have c0:∀(q:Nat) (v:Value),[zI (-1),zI m,zI 0,zI 0,.bool false,zI 0][q]? = some v->w1.cell? ⟨g,q,none⟩=some v:=λq v hv=>by
  have:=hcell 0 Nat.zero_lt_one q v hv
  rwa [Nat.zero_mul,Nat.zero_add] at this
 have HI:=ae (λW (h:Below w1.heap.size w1 W)=>Qf g cap2 (-1) m 0 0 0 W (λq v hv=>(h.cell (block_lt_of_cell (c0 q v hv))).trans (c0 q v hv)));have rH:=ae r;have hbg:b≠g:=λe=>by subst e;obtain ⟨_,cs,hc⟩:=hgN;exact af.vN kb hc zd rfl
 have eA:A=some ⟨g,0,none⟩/\cap=cap2:=by
  have:=k.cell 1;rw [kb.cell] at this;simpa using this.symm
 obtain ⟨rfl,rfl⟩:=eA;have cb:=kb.cell;have hlen:(fK m).length=1:=rfl;rw [hlen] at cb;clear hcell k r hB hB1 h1 c0 hlen;go_enter func31,ntmps31
 go_wp2_with (first|(go_at_call 80;refine HK.out.mono ?_;rintro e w2 ⟨rfl,hw2⟩;replace hw2:=hw2.symm;subst hw2)|(go_at_call 61;refine (HO.out _).mono ?_;rintro e w2 ⟨rfl,hw2⟩;replace hw2:=hw2.symm;subst hw2))
 refine (HI.out w1 (Below.refl _ _)).zr λw2 hb2=>?_
 have wV:af w1 b 145 #[.bool true,.slice (some ⟨g,0,none⟩) 1 cap]:=kb;have qg:=wV.call hb2;have cb2:=qg.cell;have fb2:=qg.frozen;have NW:w1.ownsRow (b - 1) 142 6 (.slice (some ⟨g,0,none⟩) 1 cap) 1 [zI (-1),zI m,zI 0,zI 0,.bool false,zI 0]:=rH.out;have akj:=ae (aI NW hb2);clear NW;have hsz2:=hb2.size;have hbl:=qg.lt;have kN:=af.new w2 142 #[zI 0,zI 0,zI 0,zI 0,.bool false,zI 0];clear cb kb wV;go_upto_region 8 with fail
 go_upto_region 12 with (at_builtin;refine wpList_append_own _ rfl (.tmp 33) (.tmp 35) 143 rfl (b - 1) 142 i0 (.agg #[zI 0,zI 0,zI 0,zI 0,.bool false,zI 0]) 6 48 underlying143 hi0 hi1 hi2 hi3 rfl zd (.slice (some ⟨g,0,none⟩) 1 cap) 1 [zI (-1),zI m,zI 0,zI 0,.bool false,zI 0] rfl (akj.out.alloc _) ⟨w2.heap.size,0,none⟩ 1 1 [zI 0,zI 0,zI 0,zI 0,.bool false,zI 0] rfl rfl (λj u hu=>by
   rw [dM,Nat.zero_add,kN.cell];simpa using hu) (λu hu=>by simp only [List.mem_cons,List.not_mem_nil,or_false] at hu;rcases hu with rfl|rfl|rfl|rfl|rfl|rfl <;> rfl) (by unfold maxLen;omega) zo (by simp;omega) ?_;intro v' w3 hown' hgrow _;obtain ⟨g',cap',rfl,axu,hc2',hcm',cs',hcs'⟩:=ae8 hown';have rP:=(qg.alloc (.cells #[zI 0,zI 0,zI 0,zI 0,.bool false,zI 0] 142)).grown hgrow (λe=>hbg (by simpa [Value.ownBlock] using e));have cb3:=rP.cell;have fb3:=rP.frozen)
 have F4:ag (λk=>k=b) w3 (w3.setCell ⟨b,1,none⟩ (.slice (some ⟨g',0,none⟩) 2 cap')):=ag.setCell (T:=λk=>k=b) (p:=⟨b,1,none⟩) (ag.refl _ w3) (λ_=>rfl) _;have kb4:=rP.aM 1 (.slice (some ⟨g',0,none⟩) 2 cap');have hne:g'≠b:=λe=>by subst e;exact af.vN hcs' rP zd rfl
 have D7:=aN hown' F4 (λq hq e=>by
  have hq:some g'=some q:=hq;have e:q=b:=e;subst e;exact hne (Option.some.inj hq))
 have kg4:=F4.blk hcs' hne;have FA:ag (λk=>k=b\/lD b w k) w w3:=((ag.of_below (hb1.zt hb2)).alloc _).grown hgrow (λq hq hlt=>by
  have hq:some g=some q:=hq;cases hq;exact .inr (lD.back (ag.of_below hb1) hlt hgN))
 have FB:=FA.trans (F4.mono (λ_ _ h=>.inl h));generalize w3.setCell ⟨b,1,none⟩ (.slice (some ⟨g',0,none⟩) 2 cap')=w4 at *;simp only [List.setIfInBounds_toArray,List.set_cons_zero,List.set_cons_succ] at kb4;clear qg rP cb2 fb2 cb3 fb3 F4 FA hown' hcs' hgrow akj kN HI HK HO;have cb4:=kb4.cell;have fg4:=kg4.frozen;have cg4:=D7.cells (g:=g') rfl;have q6:w4.cell? ⟨g',6,none⟩=some (zI 0):=by have:=cg4 6 _ rfl;rwa [dM,Nat.zero_add] at this
 have q7:w4.cell? ⟨g',7,none⟩=some (zI 0):=by have:=cg4 7 _ rfl;rwa [dM,Nat.zero_add] at this
 have q8:w4.cell? ⟨g',8,none⟩=some (zI 0):=by have:=cg4 8 _ rfl;rwa [dM,Nat.zero_add] at this
 have q9:w4.cell? ⟨g',9,none⟩=some (zI 0):=by have:=cg4 9 _ rfl;rwa [dM,Nat.zero_add] at this
 have q10:w4.cell? ⟨g',10,none⟩=some (.bool false):=by have:=cg4 10 _ rfl;rwa [dM,Nat.zero_add] at this
 have q11:w4.cell? ⟨g',11,none⟩=some (zI 0):=by have:=cg4 11 _ rfl;rwa [dM,Nat.zero_add] at this
 clear cg4;go_wp2_with fail;go_ret2;have F5:ag (λk=>k=g') w4 ((((((w4.setCell ⟨g',6,none⟩ (zI 0)).setCell ⟨g',7,none⟩ (zI lim)).setCell ⟨g',8,none⟩ (zI 0)).setCell ⟨g',9,none⟩ (zI 0)).setCell ⟨g',10,none⟩ (.bool false)).setCell ⟨g',11,none⟩ (zI 0)) :=
  ((((((ag.refl (λk=>k=g') w4).setCell (p:=⟨g',6,none⟩) (λ_=>rfl) _).setCell (p:=⟨g',7,none⟩) (λ_=>rfl) _).setCell (p:=⟨g',8,none⟩) (λ_=>rfl) _).setCell (p:=⟨g',9,none⟩) (λ_=>rfl) _).setCell (p:=⟨g',10,none⟩) (λ_=>rfl) _).setCell (p:=⟨g',11,none⟩) (λ_=>rfl) _
 have r5:=il (i:=11) (v:=zI 0) (il (i:=10) (v:=.bool false) (il (i:=9) (v:=zI 0) (il (i:=8) (v:=zI 0) (il (i:=7) (v:=zI lim) (il (i:=6) (v:=zI 0) D7)))));have kb5:=F5.blk kb4 (λe=>hne e.symm);generalize (((((w4.setCell ⟨g',6,none⟩ (zI 0)).setCell ⟨g',7,none⟩ (zI lim)).setCell ⟨g',8,none⟩ (zI 0)).setCell ⟨g',9,none⟩ (zI 0)).setCell ⟨g',10,none⟩ (.bool false)).setCell ⟨g',11,none⟩ (zI 0)=w5 at *;refine ⟨⟨1,rfl,λ_=>rfl⟩,⟨some ⟨g',0,none⟩,cap',kb5,r5⟩,FB.trans' F5 (λi hi e=>?_)⟩;by_cases h0:i=b\/lD b w i
 ·exact h0
 ·have e:i=g':=e
  exact .inr ⟨zo,_,(FB.block i hi h0).symm.trans (e ▸ kg4)⟩
open Go.ChangeShapes Go.WideShapes Go.Deep
theorem arI:ownKnob prog.godebug=none:=zk
theorem Oi:laidOutB prog=true:=zk
theorem XG:∃f0 f1:Field,prog.underlying 85=some (.struct #[f0,f1])/\oneCellFields prog #[f0,f1]=true/\f0.type=3/\f1.type=3:=⟨_,_,underlying85,by kernel_rfl,rfl,rfl⟩
theorem KU:prog.cellsOf 26=1:=zk
theorem aaT:∃f0 f1 f2 f3:Field,prog.underlying 108=some (.struct #[f0,f1,f2,f3])/\oneCellFields prog #[f0,f1,f2,f3]=true/\f0.type=3/\f1.type=3/\f2.type=3/\f3.type=3:=⟨_,_,_,_,underlying108,by kernel_rfl,rfl,rfl,rfl,rfl⟩
theorem aaU:prog.cellsOf 29=1:=zk
theorem TW:prog.cellsOf 31=1:=zk
section
variable {H:Type} {enc:TypeId×Value->H} {w:World} {base b0:Nat} {held:Bool} {r:Reach} {v:Value} {d:DataW H} {p:List MemPlace}
theorem jQ:prog.cellsOf 25=5:=zk
theorem KV:prog.cellsOf 23=3:=zk
theorem intCells:prog.cellsOf 3=1:=zk
theorem ahu {n:Nat} {cs:List Value} {x:DataW H×List MemPlace} (h:DataW.trod enc prog w base (λ_=>true) held n 23 cs=some x):∃f b ev:Int,cs=[zI f,zI b,zI ev]:=by
 obtain ⟨xs,m,_,hx,hl,hlen,hg⟩:=DataW.trod_struct underlying23 h;rw [KV] at hl
 match cs,hl with
 | [c0,c1,c2],_ =>
  have g0:DataW.trod enc prog w base (λ_=>true) held m 3 [c0]=xs[0]? := by have:=hg 0 _ rfl;simpa [intCells] using this
  have g1:DataW.trod enc prog w base (λ_=>true) held m 3 [c1]=xs[1]? := by have:=hg 1 _ rfl;simpa [intCells] using this
  have g2:DataW.trod enc prog w base (λ_=>true) held m 3 [c2]=xs[2]? := by have:=hg 2 _ rfl;simpa [intCells] using this
  match xs,hlen with
  | [y0,y1,y2],_ =>
   obtain ⟨n0,e0,_⟩:=DataW.trod_int underlying3 (g0.trans rfl);obtain ⟨n1,e1,_⟩:=DataW.trod_int underlying3 (g1.trans rfl);obtain ⟨n2,e2,_⟩:=DataW.trod_int underlying3 (g2.trans rfl);simp only [List.cons.injEq,and_true] at e0 e1 e2;subst e0;subst e1;subst e2;exact ⟨n0,n1,n2,rfl⟩
end
theorem afa:prog.cellsOf 28=9:=zk
theorem aaV:prog.cellsOf 34=8:=zk
theorem aaW:prog.cellsOf 32=1:=zk
theorem aaX:prog.cellsOf 4=1:=zk
theorem aaY:∃f0 f1:Field,prog.underlying 50=some (.struct #[f0,f1])/\oneCellFields prog #[f0,f1]=true/\f0.type=5/\f1.type=3:=⟨_,_,underlying50,by kernel_rfl,rfl,rfl⟩
section
variable {H:Type} {enc:TypeId×Value->H} {w:World} {base b0:Nat} {held:Bool} {r:Reach} {v:Value} {d:DataW H} {p:List MemPlace}
theorem Zn {n:Nat} {cs:List Value} {x:DataW H×List MemPlace} (h:DataW.trod enc prog w base (λ_=>true) held n 25 cs=some x):∃pg n f b ev:Int,cs=[zI pg,zI n,zI f,zI b,zI ev]:=by
 obtain ⟨xs,m,_,hx,hl,hlen,hg⟩:=DataW.trod_struct underlying25 h;rw [jQ] at hl
 match cs,hl with
 | [c0,c1,c2,c3,c4],_ =>
  have g0:DataW.trod enc prog w base (λ_=>true) held m 3 [c0]=xs[0]? := by have:=hg 0 _ rfl;simpa [intCells] using this
  have g1:DataW.trod enc prog w base (λ_=>true) held m 3 [c1]=xs[1]? := by have:=hg 1 _ rfl;simpa [intCells] using this
  have g2:DataW.trod enc prog w base (λ_=>true) held m 23 [c2,c3,c4]=xs[2]? := by have:=hg 2 _ rfl;simpa [intCells,KV] using this
  match xs,hlen with
  | [y0,y1,y2],_ =>
   obtain ⟨n0,e0,_⟩:=DataW.trod_int underlying3 (g0.trans rfl);obtain ⟨n1,e1,_⟩:=DataW.trod_int underlying3 (g1.trans rfl);obtain ⟨f,b,ev,e2⟩:=ahu (g2.trans rfl);simp only [List.cons.injEq,and_true] at e0 e1 e2;obtain ⟨rfl,rfl,rfl⟩:=e2;subst e0;subst e1;exact ⟨n0,n1,f,b,ev,rfl⟩
theorem ahw (hv:Value.okWide prog w r b0 28 v) (h:DataW.Trod enc prog w base (λ_=>true) held 28 v d p) :
  ∃(A:Option Addr) (n cap:Nat) (x:Cr),v= .agg (aj x (.slice A n cap))/\x.kept.length=n/\n<=cap/\cap<=maxLen/\RU w w.heap.size A x.kept:=by
 obtain ⟨f0,f1,hs,hone,t0,t1⟩:=XG;obtain ⟨cs,rfl,hsz⟩:=okWide_struct underlying28 hv;obtain ⟨l⟩:=cs;obtain ⟨fuel,hf⟩:=h;obtain ⟨xs,m,_,hx,hl,hlen,hg⟩:=DataW.trod_struct underlying28 hf;rw [afa] at hsz
 match l,hsz with
 | [c0,c1,c2,c3,c4,c5,c6,c7,c8],_ =>
  have g0:DataW.trod enc prog w base (λ_=>true) held m 25 [c0,c1,c2,c3,c4]=xs[0]? := by have:=hg 0 _ rfl;simpa [Value.cells,jQ] using this
  have g1:DataW.trod enc prog w base (λ_=>true) held m 3 [c5]=xs[1]? := by have:=hg 1 _ rfl;simpa [Value.cells,jQ,intCells] using this
  have g2:DataW.trod enc prog w base (λ_=>true) held m 3 [c6]=xs[2]? := by have:=hg 2 _ rfl;simpa [Value.cells,jQ,intCells] using this
  have g3:DataW.trod enc prog w base (λ_=>true) held m 26 [c7]=xs[3]? := by have:=hg 3 _ rfl;simpa [Value.cells,jQ,intCells,KU] using this
  have g4:DataW.trod enc prog w base (λ_=>true) held m 4 [c8]=xs[4]? := by have:=hg 4 _ rfl;simpa [Value.cells,jQ,intCells,KU,aaX] using this
  match xs,hlen with
  | [y0,y1,y2,y3,y4],_ =>
   obtain ⟨pg,n,f,b,ev,e0⟩:=Zn (g0.trans rfl);obtain ⟨n1,e1,_⟩:=DataW.trod_int underlying3 (g1.trans rfl);obtain ⟨n2,e2,_⟩:=DataW.trod_int underlying3 (g2.trans rfl);have g3':=g3.trans rfl;obtain ⟨b4,e4,_⟩:=DataW.trod_bool underlying4 (g4.trans rfl);obtain ⟨A,k,cap,K,rfl,a1,a2,a3⟩:=anc underlying26 hs hone zk (by rw [t0];exact underlying3) (by rw [t1];exact underlying3) g3';have hcap:k<=cap/\cap<=maxLen:=by
    rcases lh underlying26 hs hone zk g3' with ⟨hcs,_⟩|⟨a,len,cap',m,D,Pl,hcs,_,hl,hm,_⟩
    ·simp only [List.cons.injEq,and_true,Value.slice.injEq] at hcs
     obtain ⟨_,rfl,rfl⟩:=hcs;unfold maxLen;omega
    ·simp only [List.cons.injEq,and_true,Value.slice.injEq] at hcs
     obtain ⟨_,rfl,rfl⟩:=hcs;exact ⟨hl,hm⟩
   simp only [List.cons.injEq,and_true] at e0 e1 e2 e4;obtain ⟨rfl,rfl,rfl,rfl,rfl⟩:=e0;subst e1;subst e2;subst e4;exact ⟨A,k,cap,⟨pg,n,f,b,ev,n1,n2,K,b4⟩,rfl,a1,hcap.1,hcap.2,a3⟩
theorem aaZ (hv:Value.okWide prog w r b0 34 v) (h:DataW.Trod enc prog w base (λ_=>true) held 34 v d p) :
  ∃(A1 A2:Option Addr) (n1 c1 n2 c2:Nat) (pg n f bk ev lim:Int) (l:List Ru) (us:List (Int×Int)),v= .agg #[zI pg,zI n,zI f,zI bk,zI ev,zI lim,.slice A1 n1 c1,.slice A2 n2 c2] /\
   l.length=n1/\Rd w w.heap.size A1 (fl iU l)/\(A1=none->c1=0)/\us.length=n2/\n2<=maxLen/\Rd w w.heap.size A2 (fl acC us)/\(∀x∈us,0<=x.1/\x.1<=255/\-9223372036854775808<=x.2/\x.2<=9223372036854775807)/\-9223372036854775808<=lim/\lim<=9223372036854775807:=by
 obtain ⟨r0,r1,r2,r3,dR,ang,rt0,rt1,rt2,rt3⟩:=aaT;obtain ⟨f0,f1,hs,hone,t0,t1⟩:=aaY;obtain ⟨cs,rfl,hsz⟩:=okWide_struct underlying34 hv;obtain ⟨l⟩:=cs;obtain ⟨fuel,hf⟩:=h;obtain ⟨xs,m,_,hx,hl,hlen,hg⟩:=DataW.trod_struct underlying34 hf;rw [aaV] at hsz
 match l,hsz with
 | [c0,c1,c2,c3,c4,c5,c6,c7],_ =>
  have g0:DataW.trod enc prog w base (λ_=>true) held m 25 [c0,c1,c2,c3,c4]=xs[0]? := by have:=hg 0 _ rfl;simpa [Value.cells,jQ] using this
  have g1:DataW.trod enc prog w base (λ_=>true) held m 3 [c5]=xs[1]? := by have:=hg 1 _ rfl;simpa [Value.cells,jQ,intCells] using this
  have g2:DataW.trod enc prog w base (λ_=>true) held m 31 [c6]=xs[2]? := by have:=hg 2 _ rfl;simpa [Value.cells,jQ,intCells,TW] using this
  have g3:DataW.trod enc prog w base (λ_=>true) held m 32 [c7]=xs[3]? := by have:=hg 3 _ rfl;simpa [Value.cells,jQ,intCells,TW,aaW] using this
  match xs,hlen with
  | [y0,y1,y2,y3],_ =>
   obtain ⟨pg,n,f,b,ev,e0⟩:=Zn (g0.trans rfl);obtain ⟨n1,e1,_,w1⟩:=DataW.trod_int underlying3 (g1.trans rfl);have g2':DataW.trod enc prog w base (λ_=>true) held m 31 [c6]=some y2:=g2.trans rfl;obtain ⟨zs,m2,_,hx2,hl2,anh,hg2⟩:=DataW.trod_struct underlying31 g2';have g4:DataW.trod enc prog w base (λ_=>true) held m2 29 [c6]=zs[0]? := by have:=hg2 0 _ rfl;simpa [Value.cells,aaU] using this
   match zs,anh with
   | [z0],_ =>
    obtain ⟨A4,n4,k4,L,rfl,u1,u2,u3,u4⟩:=ane underlying29 dR ang zk (by rw [rt0];exact underlying3) (by rw [rt1];exact underlying3) (by rw [rt2];exact underlying3) (by rw [rt3];exact underlying3) (g4.trans rfl);obtain ⟨A5,n5,k5,U,rfl,q1,q2,q3,q4⟩:=anf underlying32 hs hone zk (by rw [t0];exact underlying5) (by rw [t1];exact underlying3) (g3.trans rfl);simp only [List.cons.injEq,and_true] at e0 e1;obtain ⟨rfl,rfl,rfl,rfl,rfl⟩:=e0;subst e1;have hw : -9223372036854775808<=n1/\n1<=9223372036854775807:=by
     simp [Lit.wf,IntKind.min,IntKind.max,IntKind.signed,IntKind.bits] at w1;omega
    exact ⟨A4,A5,n4,k4,n5,k5,pg,n,f,b,ev,n1,L,U,rfl,u1,u3,u4,q1,q2,q3,q4,hw.1,hw.2⟩
end
theorem TZ {r:Cr} {i:Int}:(Ce r i).2=0->0<=(Ce r i).1/\(Ce r i).1<1024:=λh=>by
 unfold Ce at h ⊢;by_cases hc:bQ r.pg r.n r.f r.bk r.ev=0
 ·rw [if_pos hc] at h ⊢
  have hp:=bR.1 hc;have hpos:=mi hp;have hi:0<=i/\i<aG (ay r.pg r.n r.f r.bk r.ev):=by
   rw [qO _ _ hpos,wJ] at h;split at h
   ·exact absurd h zd
   ·have:=iB (ay r.pg r.n r.f r.bk r.ev) (λx hx=>by have:=hpos x hx;omega)
    omega
  have:=CF hp i.toNat zo;rw [show ((i.toNat:Nat):Int)=i by omega] at this;rw [this.1];exact ⟨this.2.2.2.1,this.2.2.2.2.1⟩
 ·rw [if_neg hc] at h
  exact absurd h hc
theorem XH {P:Prop} (h:P:=by
 have u3:=underlying3;have a3:=Tryz.isAgg3;have z3:=Tryz.sizeOf3;rw [show (10000:Nat)=9999+1 from rfl];go_simp;try simp):P:=h
theorem ahx (a b c d e:Int) (w:World):(Op.equalIn 10000 25 (.agg #[zI a,zI b,zI c,zI d,zI e]) (.agg #[zI a,zI b,zI c,zI d,zI e])).run prog w= .ok true w:=by
 have u0:=underlying25;have u1:=underlying23;have a1:=Tryz.isAgg23;have z1:=Tryz.sizeOf23;exact XH
theorem GR (r:Cr) (A B:Option Addr) (cap cap':Nat) (w:World) (hm:r.kept.length<=maxLen) (hA:RU w w.heap.size A r.kept) (hB:RU w w.heap.size B r.kept) :
  zK 24 #[.agg (aj r (.slice A r.kept.length cap)),.agg (aj r (.slice B r.kept.length cap'))] w (.bool true):=by
 obtain ⟨pg,n,f,bk,ev,node,live,K,cl⟩:=r;simp only at hm hA hB ⊢;have hb0:=below_alloc2 (aQ w (.cells (aj ⟨pg,n,f,bk,ev,node,live,K,cl⟩ (.slice A K.length cap)) 28)) (.cells (aj ⟨pg,n,f,bk,ev,node,live,K,cl⟩ (.slice B K.length cap')) 28);have k0:=(af.new w 28 (aj ⟨pg,n,f,bk,ev,node,live,K,cl⟩ (.slice A K.length cap))).dV (.cells (aj ⟨pg,n,f,bk,ev,node,live,K,cl⟩ (.slice B K.length cap')) 28);have k1:=af.oG w (.cells (aj ⟨pg,n,f,bk,ev,node,live,K,cl⟩ (.slice A K.length cap)) 28) 28 (aj ⟨pg,n,f,bk,ev,node,live,K,cl⟩ (.slice B K.length cap'));have C8:=hA.on hb0;have hB0:=hB.on hb0;dsimp only [aj] at hb0 k0 k1 C8 hB0 ⊢;have HS:=ae (λW h1 h2=>Vn A B K.length cap cap' K K W rfl hm rfl h1 h2);have heq:=λW=>ahx pg n f bk ev W
 clear hA hB;obtain ⟨m,hm0⟩:=ah (K.length);rw [hm0] at hb0 k0 k1 C8 hB0 HS hm ⊢;clear hm0;go_enter func24,ntmps24;go_upto_region 1 with fail
 generalize (w.alloc _).alloc _=w0 at *;obtain ⟨c0,c1⟩:=bB k0 k1;have d1:(node==node)=true:=by simp
 have d2:(live==live)=true:=by simp
 have d3:(cl==cl)=true:=by simp
 go_wp2_with fail;refine (HS.out w0 C8 hB0).zr λw1 hb1=>?_
 exact Jo
theorem Ua (w:World):zK 17 #[] w (ek 0 8 1 1 0):=by
 have hb0:=aQ w (.cells (bg 0 8 1 1 0) 25);have k0:=af.new w 25 (bg 0 8 1 1 0);unfold bg at hb0 k0;have c0:=k0.cell;go_enter func17,ntmps17;go_wp2_with fail;refine bodyPost_ret (v:=ek 0 8 1 1 0) (by simp [results,results17,go_sem,c0,ek]) rfl ?_;exact ⟨rfl,hb0⟩
def yO:Cr×Int×Vm:=lg iM 0 8 1 1 0 0
def pM:Cr×Int×Vm×List Nd:=dh yO.2.2 (fK 5) yO.1 3
def Dp:Cr×Int×Vm×List Nd:=dh pM.2.2.1 pM.2.2.2 pM.1 6
def FI:Cr×Int:=iN pM.1 1
def wu:Cr×Int×Vm×List Nd:=dh Dp.2.2.1 Dp.2.2.2 FI.1 2
def nU:Cr×Int×Vm×List Nd:=bZ wu.2.2.1 wu.2.2.2 wu.1 2
def xu:Cr×Int×Vm×List Nd:=bZ nU.2.2.1 nU.2.2.2 nU.1 2
def sP:Cr×Int×Vm×List Nd:=dI xu.2.2.1 xu.2.2.2 nU.1
theorem shN:yO.1.node=0:=by decide +kernel
theorem shE:sP.1.pg=0/\sP.1.n=0/\sP.1.f=0/\sP.1.bk=0/\sP.1.ev=0/\sP.1.node=0/\sP.1.live=0/\sP.1.kept.length=0/\sP.1.cl=false:=by decide +kernel
theorem shA:yO.2.1=0/\pM.2.1=0/\pM.1.live=3/\Dp.2.1=5/\FI.2=0:=by decide +kernel
theorem shB:wu.2.1=0/\nU.2.1=0/\xu.2.1=4/\(xu.2.2.2.getD 0 nd0).own=2/\nU.1.live=2/\nU.1.kept.length=0:=by decide +kernel
theorem shC:fq xu.2.2.1 1024 2=2/\fq xu.2.2.1 1024 3=2:=by decide +kernel
theorem shD:sP.2.1=0/\(sP.2.2.2.getD 0 nd0).own=0/\fq sP.2.2.1 1024 0=1024:=by decide +kernel
theorem afc:sP.1=bD:=by
 obtain ⟨h1,h2,h3,h4,h5,h6,h7,h8,h9⟩:=shE;generalize sP.1=r at *;obtain ⟨pg,n,f,bk,ev,node,live,K,cl⟩:=r;simp only at h1 h2 h3 h4 h5 h6 h7 h8 h9;rw [h1,h2,h3,h4,h5,h6,h7,List.eq_nil_of_length_eq_zero h8,h9];rfl
theorem Qg {V:Vm} {L:List Nd} {r:Cr} (k:Int) (hV:aO V) (hL:bf L) (hn:r.node.toNat<L.length):aO (bZ V L r k).2.2.1/\bf (bZ V L r k).2.2.2/\(bZ V L r k).2.2.2.length=L.length/\(bZ V L r k).1.node=r.node:=by
 unfold bZ;split
 ·exact ⟨hV,hL,rfl,rfl⟩
 ·split
  ·exact ⟨hV,hL,rfl,rfl⟩
  ·dsimp only
   split
   ·exact ⟨hV.pW 1,hL,rfl,rfl⟩
   ·exact ⟨hV.pW 1,sU hL hn _,qj _ _ _,rfl⟩
theorem Ub {V:Vm} (hV:aO V) (pg n f bk ev node:Int):aO (lg V pg n f bk ev node).2.2:=by
 unfold lg;dsimp only;split
 ·exact hV
 ·split
  ·exact hV.pW 1
  ·split
   ·exact (hV.pW 1).jL _ _
   ·split
    ·split <;> exact ((hV.pW 1).jL _ _).pW 0
    ·exact (hV.pW 1).jL _ _
structure vL (V:Vm) (L:List Nd) (r:Cr):Prop where
 KX:aO V
 Ih:bf L
 len:L.length=1
 node:r.node=0
theorem vL.hn {V:Vm} {L:List Nd} {r:Cr} (h:vL V L r):r.node.toNat<L.length:=by rw [h.node,h.len];decide
theorem vL.grow {V:Vm} {L:List Nd} {r:Cr} (h:vL V L r) (t:Int):vL (dh V L r t).2.2.1 (dh V L r t).2.2.2 (dh V L r t).1 :=
 ⟨h.KX.grow L r t,(h.Ih.dh V r t h.hn).1,(h.Ih.dh V r t h.hn).2.trans h.len,(TT V L r t).trans h.node⟩
theorem vL.afd {V:Vm} {L:List Nd} {r:Cr} (h:vL V L r) (t:Int):vL (bZ V L r t).2.2.1 (bZ V L r t).2.2.2 (bZ V L r t).1:=by
 obtain ⟨a,b,c,d⟩:=Qg t h.KX h.Ih h.hn;exact ⟨a,b,c.trans h.len,d.trans h.node⟩
theorem akk:vL yO.2.2 (fK 5) yO.1:=by
 refine ⟨?_,yY zd,rfl,shN⟩;unfold yO;exact Ub GQ _ _ _ _ _ _
theorem akl:vL pM.2.2.1 pM.2.2.2 pM.1:=by
 have h:=akk;unfold pM;generalize yO=S at *;exact h.grow 3
theorem akm:vL Dp.2.2.1 Dp.2.2.2 FI.1:=by
 have h:=akl;unfold Dp FI;generalize pM=S at *;have k:=h.grow 6;exact ⟨k.KX,k.Ih,k.len,(MN _ _).trans h.node⟩
theorem akn:vL wu.2.2.1 wu.2.2.2 wu.1:=by
 have h:=akm;unfold wu;generalize Dp=S at *;generalize FI=R at *;exact h.grow 2
theorem ako:vL nU.2.2.1 nU.2.2.2 nU.1:=by
 have h:=akn;unfold nU;generalize wu=S at *;exact h.afd 2
theorem afe:vL xu.2.2.1 xu.2.2.2 nU.1:=by
 have h:=ako;unfold xu;generalize nU=S at *;have k:=h.afd 2;exact ⟨k.KX,k.Ih,k.len,h.node⟩
theorem arK:aO sP.2.2.1/\bf sP.2.2.2/\sP.2.2.2.length=1:=by
 have h:=afe;unfold sP;generalize xu=S at *;generalize nU=R at *;obtain ⟨a,b,c⟩:=h.KX.close h.Ih R.1 h.hn;exact ⟨a,b,c.trans h.len⟩
end Go.Proofs.YtlgcpjhimomiaaaGreat
