/- Texts CLibC, CWalkE, CWalkF, CWalkG, CWalkH, CLibD, CLibB, CWalkJ, ZSpecH, GSpecH, CSpecB, CSpecC, CWalkK, CWalkL, CSpecD. -/
import Derived.Test.YtlgcpjhimomiaaaGreatO9
set_option maxRecDepth 100000
set_option maxHeartbeats 12800000
namespace Go.Pol
open Go Go.RowKit Go.Proofs.Tryz
def lI (N:Nat) (A B:World):Prop:=∃T,ag T A B/\(∀k,T k->N<=k)/\∀k t cs,af A k t cs->¬T k
theorem lI.blk {N:Nat} {A B:World} (h:lI N A B) {g:Nat} {t:TypeId} {cs:Array Value} (hg:af A g t cs):af B g t cs:=by
 obtain ⟨T,hF,_,hT⟩:=h;exact hF.blk hg (hT _ _ _ hg)
theorem lI.of_below {N:Nat} {A B:World} (h:Below A.heap.size A B):lI N A B:=⟨λ_=>False,.of_below h,λ_ h=>h.elim,λ_ _ _ _ h=>h⟩
theorem lI.refl (N:Nat) (A:World):lI N A A:=.of_below (Below.refl _ _)
def Y8 {α:Type} (P:Program) (tE:TypeId) (g:Nat) (lb:Array Value) (encs:α->Array Value) (K:Nat->Prop) (xs:List α) (w:World):Prop :=
 ∀(n l:Nat) (J Jx:List α->World->Prop) (W:World),ag (λk=>¬K k) w W ->
  (∀pre A B,J pre A->Below A.heap.size A B->J pre B)->(∀pre A B,Jx pre A->Below A.heap.size A B->Jx pre B) ->
  (∀m (X:Nat->Prop) pre x W1,J pre W1->(∀k,X k->∃cs,af W1 k tE cs)->pre++[x] <+: xs->YieldAt Fence.wide m P l (encs x) W1 λe W' =>
   (e= .returned (.bool true)/\J (pre++[x]) W'/\ag (λk=>¬(K k\/X k)) W1 W')\/(e= .returned (.bool false)/\Jx (pre++[x]) W')) ->
  J [] W ->
  CallsIn Fence.wide n P g (#[.func (.yield l) #[] #[]]++lb) W λe W'=>(∃v,e= .returned v)/\(J xs W'\/∃pre,pre <+: xs/\Jx pre W')
def WX {α:Type} (D:Nat) (K X:Nat->Prop) (I:List α->World->Prop) (Ix:Code->List α->World->Prop) (xs:List α) (W:World):Exit->Act->World->Prop
 | .normal,_,W'=>ag (λk=>¬(K k\/X k\/k=D\/k=D+1)) W W'/\I xs W'
 | .ret,_,W'=>ag (λk=>¬(k=D\/k=D+1)) W W'/\Ix .ret xs W'
 | .exit id,_,W'=>ag (λk=>¬(k=D\/k=D+1)) W W'/\Ix (.exit id) xs W'
 | .goto t,_,W'=>ag (λk=>¬(k=D\/k=D+1)) W W'/\Ix (.goto t) xs W'
 | .panic _,_,_=>False
 | .outgrown,_,_=>False
theorem l7 {w:World} {k:Nat} {o:Obj} (h:w.heap[k]? = some o) (ho:∀cs t f,o≠.cells cs t f):∀t cs,¬af w k t cs:=λt cs hk=>ho cs t (0,0) (Option.some.inj (h.symm.trans hk))
theorem Y9 {α:Type} {P:Program} {tE:TypeId} {g:Operand} {ps:Array Tmp} {assign body:Code} {Q:Exit->Act->World->Prop} {a:Act} {w:World}
  {gf:Nat} {lb:Array Value} (hg:a.eval g= .func (.func gf) #[] lb) (eg:∀args w,(callFunc gf args).run P w= .ok (.enter gf args) w)
  {encs:α->Array Value} {K:Nat->Prop} {xs:List α} (hseq:Y8 P tE gf lb encs K xs w) (hps:∀x,(encs x).size=ps.size)
  (hK:∀k,K k->k<w.heap.size)
  (I:List α->World->Prop) (Ix:Code->List α->World->Prop)
  (hI:∀pre A B,I pre A->lI w.heap.size A B->I pre B)
  (hIx:∀c pre A B,Ix c pre A->lI w.heap.size A B->Ix c pre B)
  (h0:I [] w) (Ax:α->Act->World->Prop) (hAx:∀x a' A B,Ax x a' A->lI w.heap.size A B->Ax x a' B)
  (hassign:∀(m l:Nat) (x:α) (W:World) (C:Act->World->Prop),(∀a' W',Below W.heap.size W W'->Ax x a' W'->C a' W') ->
   assign.wpIn (Fence.wide.inRound l) m P (Exit.then C (λ_ _ _=>False)) { tmps:=(ps.zip (encs x)).foldl (λt (p,v)=>t.setIfInBounds p v) a.tmps,defers:=[] } W)
  (hbody:∀(m l:Nat) (X:Nat->Prop) (pre:List α) (x:α) (a':Act) (W:World),w.heap.size+2<=W.heap.size->(∀k,X k->∃cs,af W k tE cs)->(∀t cs,¬af W w.heap.size t cs)->(∀t cs,¬af W (w.heap.size+1) t cs)->I pre W->Ax x a' W->pre++[x] <+: xs ->
   body.wpIn (Fence.wide.inRound l) m P (WX w.heap.size K X I Ix (pre++[x]) W) a' W)
  (hdone:∀(W:World),w.heap.size+2<=W.heap.size->I xs W->W.heap[w.heap.size]? = some (.deferred (some []))->Q .normal { a with defers:=dB w.heap.size::a.defers } W)
  (hstop:∀(c:Code) (pre:List α) (W:World),w.heap.size+2<=W.heap.size->pre <+: xs->Ix c pre W->W.heap[w.heap.size]? = some (.deferred (some []))->c.wp P Q { a with defers:=dB w.heap.size::a.defers } W) :
  (Code.rangeFunc g ps assign body).wp P Q a w:=by
 refine (wpIn_wide (n:=0)).1 (wpIn_rangeFunc λfn _=>?_);obtain ⟨D,hD⟩:=ah (w.heap.size)
 -- the loop's record, in its three states
 obtain ⟨rec,hrec⟩:∃rec:LoopState->Option Code->Loop,rec=λs p=>{ state:=s,pending:=p,fn,tmps:=a.tmps,params:=ps,assign,body,defers:=D }:=⟨_,rfl⟩
 obtain ⟨W1,hW1⟩:=ah ((w.alloc (.deferred (some []))).alloc (.loop (rec .ready none)));have hent:(Instr.enterLoop fn a.tmps ps assign body none).run P w= .ok (D+1,[dB D]) W1:=by
  exact Iz
 have mH:ag (λ_=>False) w W1:=by rw [<-hW1];exact ((ag.refl _ w).alloc _).alloc _
 have hl1:W1.heap[D+1]? = some (.loop (rec .ready none)):=by
  exact QH
 have hd1:W1.heap[D]? = some (.deferred (some [])):=by
  exact Iy
 rw [hD] at hK hI hIx hAx hbody hdone hstop;refine ⟨D+1,[dB D],W1,{ target:=.fn (.func gf) lb,args:=#[.func (.yield (D+1)) #[] #[]] },W1,gf,#[.func (.yield (D+1)) #[] #[]]++lb,W1,hent,?_,λ_ _=>trivial,?_,λh=>(by cases h),?_⟩
 ·simp only [resolve,hg]
  simp [go_sem]
 ·simp [invoke,go_sem,eg]
 -- what the iterator carries: the loop's invariant, the record, the block for deferred calls
 let J:List α->World->Prop:=λpre W=>I pre W/\W.heap[D+1]? = some (.loop (rec .ready none))/\W.heap[D]? = some (.deferred (some []))
 let Jx:List α->World->Prop:=λpre W=>∃c,Ix c pre W/\W.heap[D+1]? = some (.loop (rec .done (some c)))/\W.heap[D]? = some (.deferred (some []))
 have Bh:∀k,K k->k≠D/\k≠D+1:=λk hk=>by have:=hK k hk;omega
 have soft:∀(o:Obj) (A:World) (s p),A.heap[D+1]? = some (.loop (rec s p))->lI D A (A.putObj (D+1) o):=λo A s p h=>⟨λk=>k=D+1,ag.putObj (T:=λk=>k=D+1) (ag.refl _ A) (λ_=>rfl) o,λk hk=>by rw [hk];omega,λk t cs hk e=>by subst e;exact l7 h (λ_ _ _ h=>by cases h) t cs hk⟩
 refine (hseq _ (D+1) J Jx W1 (mH.mono (λ_ _ h=>h.elim)) (λpre A B h hb=>⟨hI pre A B h.1 (.of_below hb),(hb.block _ (Array.getElem?_eq_some_iff.1 h.2.1).1).trans h.2.1,(hb.block _ (Array.getElem?_eq_some_iff.1 h.2.2).1).trans h.2.2⟩)
  (λpre A B h hb=>by
   obtain ⟨c,h1,h2,h3⟩:=h;exact ⟨c,hIx c pre A B h1 (.of_below hb),(hb.block _ (Array.getElem?_eq_some_iff.1 h2).1).trans h2,(hb.block _ (Array.getElem?_eq_some_iff.1 h3).1).trans h3⟩)
  ?_ ⟨hI [] w W1 h0 ⟨λ_=>False,mH,λ_ h=>h.elim,λ_ _ _ _ h=>h⟩,hl1,hd1⟩).mono ?_
 ·-- a round
  rintro m X pre x Wa ⟨hi,hl,hd⟩ hXt hpre;have hlt:D+1<Wa.heap.size:=(Array.getElem?_eq_some_iff.1 hl).1;have hy:=run_yield (P:=P) (args:=encs x) hl (by rw [hrec];exact hps x);rw [hrec] at hy;refine ⟨fn,_,assign,body,hy,roundIn_of_wpIn trivial (hassign m (D+1) x Wa _ λa' Wb hbb hax=>?_)⟩;have hab:ag (λ_=>False) Wa Wb:=.of_below hbb;have hlb:=hab.same hl id;have LH:=hab.same hd id;have hib:=hI pre Wa Wb hi (.of_below hbb);have Iw:D+1<Wb.heap.size:=(Array.getElem?_eq_some_iff.1 hlb).1;refine ⟨_,run_beginRound hlb (by rw [hrec]),?_⟩;obtain ⟨Wc,hWc⟩:=ah (Wb.putObj (D+1) (.loop { rec .ready none with state:=.busy }));rw [hWc];have hbc:ag (λk=>k=D+1) Wb Wc:=by rw [<-hWc];exact ag.putObj (T:=λk=>k=D+1) (ag.refl _ Wb) (λ_=>rfl) _
  have hlc:Wc.heap[D+1]? = some (.loop { rec .ready none with state:=.busy }):=by rw [<-hWc];exact World.putObj_heap_same Iw
  have hsc:lI D Wb Wc:=by rw [<-hWc];exact soft _ _ _ _ hlb
  have ZF:Wc.heap[D]? = some (.deferred (some [])):=hbc.same LH zo;have abv:D+1<Wc.heap.size:=(Array.getElem?_eq_some_iff.1 hlc).1;refine wpIn_mono (hbody m (D+1) X pre x a' Wc zo (λk hk=>(hXt k hk).imp λcs hc=>hsc.blk ((lI.of_below (N:=D) hbb).blk hc)) (l7 ZF (λ_ _ _ h=>by cases h)) (l7 hlc (λ_ _ _ h=>by cases h)) (hI pre Wb Wc hib hsc) (hAx x a' Wb Wc hax hsc) hpre) ?_
  -- what 'endRound' makes of it
  have fin:∀(j:Option Code) (Wd:World),ag (λk=>¬(k=D\/k=D+1)) Wc Wd ->
    (Instr.endRound (D+1) j).run P Wd= .ok (.bool j.isNone) (Wd.putObj (D+1) (.loop (rec (if j.isNone then .ready else .done) j))) /\
    (Wd.putObj (D+1) (.loop (rec (if j.isNone then .ready else .done) j))).heap[D+1]? = some (.loop (rec (if j.isNone then .ready else .done) j)) /\
    (Wd.putObj (D+1) (.loop (rec (if j.isNone then .ready else .done) j))).heap[D]? = some (.deferred (some [])):=λj Wd hcd=>by
   exact abw
  have back:∀(o:Obj) (Wd:World),ag (λk=>¬(k=D\/k=D+1)) Wc Wd->lI D Wd (Wd.putObj (D+1) o):=λo Wd hcd=>by
   have hld:=hcd.same hlc (λh=>h (.inr rfl));exact ⟨λk=>k=D+1,ag.putObj (T:=λk=>k=D+1) (ag.refl _ Wd) (λ_=>rfl) o,λk hk=>by rw [hk];omega,λk t cs hk e=>by subst e;exact l7 hld (λ_ _ _ h=>by cases h) t cs hk⟩
  have hnX:∀k,X k->k≠D/\k≠D+1:=λk hk=>by
   obtain ⟨cs,hc⟩:=hXt k hk;exact ⟨λe=>by subst e;exact l7 hd (λ_ _ _ h=>by cases h) _ _ hc,λe=>by subst e;exact l7 hl (λ_ _ _ h=>by cases h) _ _ hc⟩
  intro e a3 Wd hp;cases e with
  | normal =>
   obtain ⟨hcd,hid⟩:=hp;have ajF:ag (λk=>¬(k=D\/k=D+1)) Wc Wd:=hcd.mono λk _ h h'=>h (.inr (.inr h'))
   obtain ⟨h1,h2,h3⟩:=fin none Wd ajF;refine ⟨_,_,h1,.inl ⟨rfl,⟨hI _ _ _ hid (back _ Wd ajF),h2,h3⟩,?_⟩⟩;refine (((hab.mono λ_ _ h=>h.elim:ag (λk=>¬(K k\/X k)) Wa Wb).trans (hbc.mono λk _ h hk=>hk.elim (λhk=>(Bh k hk).2 h) (λhk=>(hnX k hk).2 h))).trans (hcd.mono λk _ h hk=>h (hk.elim .inl (λh=>.inr (.inl h))))).putObj (λ_ hk=>hk.elim (λhk=>(Bh _ hk).2 rfl) (λhk=>(hnX _ hk).2 rfl)) _
  | ret =>
   obtain ⟨hcd,hid⟩:=hp;obtain ⟨h1,h2,h3⟩:=fin (some .ret) Wd hcd;exact ⟨_,_,h1,.inr ⟨rfl,.ret,hIx _ _ _ _ hid (back _ Wd hcd),h2,h3⟩⟩
  | exit id =>
   obtain ⟨hcd,hid⟩:=hp;obtain ⟨h1,h2,h3⟩:=fin (some (.exit id)) Wd hcd;exact ⟨_,_,h1,.inr ⟨rfl,.exit id,hIx _ _ _ _ hid (back _ Wd hcd),h2,h3⟩⟩
  | goto t =>
   obtain ⟨hcd,hid⟩:=hp;obtain ⟨h1,h2,h3⟩:=fin (some (.goto t)) Wd hcd;exact ⟨_,_,h1,.inr ⟨rfl,.goto t,hIx _ _ _ _ hid (back _ Wd hcd),h2,h3⟩⟩
  | panic ch=>exact hp.elim
  | outgrown=>exact hp.elim
 ·-- behind the iterator
  rintro e W2 ⟨⟨v,rfl⟩,h2⟩;rcases h2 with ⟨hi,hl,hd⟩|⟨pre,hpre,c,hi,hl,hd⟩
  ·have he:=run_endLoop (P:=P) hl (by rw [hrec];simp)
   rw [hrec] at he;have hlt:D+1<W2.heap.size:=(Array.getElem?_eq_some_iff.1 hl).1;exact ⟨none,_,he,hdone _ (by rw [World.putObj_size];omega) (hI _ _ _ hi (soft _ _ _ _ hl)) ((World.putObj_heap_other zo).trans hd)⟩
  ·have he:=run_endLoop (P:=P) hl (by rw [hrec];simp)
   rw [hrec] at he;have hlt:D+1<W2.heap.size:=(Array.getElem?_eq_some_iff.1 hl).1;exact ⟨some c,_,he,(wpIn_wide (n:=0)).2 (hstop c pre _ (by rw [World.putObj_size];omega) hpre (hIx _ _ _ _ hi (soft _ _ _ _ hl)) ((World.putObj_heap_other zo).trans hd))⟩
abbrev iO:=Int×Int×Int
def o9:iO:=(0,0,0)
abbrev qX (x:iO):Array Value:=#[zI x.1,zI x.2.1,zI x.2.2]
abbrev SQ (x:iO):Array Value:=#[.agg (qX x)]
def z8 (u0 m:Int) (x:Sp):iO:=(u0+x.1 - m,x.2,x.1)
theorem GD (x:Sp) (l:List Sp):aG (x::l)=x.2+aG l:=by simp [aG]
theorem wh (S:List Sp):∀(a b:List Sp) (m:Int),bW S m (a++b)=bW S m a++bW S (m+aG a) b
 | [],b,m=>by simp [bW,aG]
 | u::a,b,m=>by
  rw [List.cons_append,bW,bW,wh S a b,GD,List.append_assoc,<-Int.add_assoc]
theorem WY (S:List Sp) (m:Int) (u:Sp):bW S m [u]=(az S [(m,u.2)]).map (z8 u.1 m):=by
 simp only [bW,List.append_nil];rfl
theorem SS (S us:List Sp) {k:Nat} (hk:k<us.length):bW S 0 (us.take (k+1))=bW S 0 (us.take k)++(az S [(aG (us.take k),(us.getD k (0,0)).2)]).map (z8 (us.getD k (0,0)).1 (aG (us.take k))):=by
 rw [nK (0,0) us hk,wh,WY,Int.zero_add]
theorem WZ (S us:List Sp) (k:Nat):bW S 0 (us.take k) <+: bW S 0 us:=by
 conv=>rhs;rw [<-List.take_append_drop k us,wh]
 exact List.prefix_append _ _
theorem SX (us:List Sp) {k:Nat} (hk:k<us.length):aG (us.take (k+1))=aG (us.take k)+(us.getD k (0,0)).2:=by
 rw [nK (0,0) us hk,tQ]
theorem BU (us:List Sp) (h:∀x∈us,bF x=true) (k:Nat):0<=aG (us.take k)/\aG (us.take k)<=aG us:=by
 have h1:=(iK (us.take k) (λx hx=>h x (List.mem_of_mem_take hx))).1;have h2:=(iK (us.drop k) (λx hx=>h x (List.mem_of_mem_drop hx))).1;have h3:aG us=aG (us.take k)+aG (us.drop k):=by
  unfold aG;rw [<-List.sum_append,<-List.map_append,List.take_append_drop]
 omega
theorem KeptAt.ajG {w w':World} {A:Option Addr} {us:List Sp} {T:Nat->Prop} (h:KeptAt w A us) (hF:ag T w w') (hT:us≠[]->∀g o,A=some ⟨g,o,Option.none⟩->¬T g):KeptAt w' A us:=by
 by_cases hn:us=[]
 ·subst hn;exact .none _ _
 ·refine ⟨(h.ru.Y7 hF (hT hn)).more hF.size,λ_=>?_⟩
  obtain ⟨g,o,cs,e,kb⟩:=h.ty hn;exact ⟨g,o,cs,e,hF.blk kb (hT hn g o e)⟩
theorem KeptAt.block {w:World} {A:Option Addr} {us:List Sp} (h:KeptAt w A us) (hn:us≠[]) {g o:Nat} (e:A=some ⟨g,o,Option.none⟩):∃cs,af w g 85 cs:=by
 obtain ⟨g',o',cs,e',kb⟩:=h.ty hn;rw [e] at e';cases e';exact ⟨cs,kb⟩
theorem dw.fresh {b:Nat} {V:Vm} {w w1 w2:World} {T:Nat->Prop} (h:dw b V w w1) (hF:ag T w1 w2) (hT:∀k,T k->w.heap.size<=k) (hty:∀k,T k->∃t cs,af w1 k t cs/\t≠105/\t≠108):dw b V w w2:=by
 refine ⟨?_,h.2.trans' hF (λi hi ht=>absurd (hT i ht) zo)⟩;obtain ⟨cs,hc⟩:=h.1.typed;refine h.1.far hF (λht=>?_) (λ_ _ _ _ _ _ _ _ _ _ ⟨_,hr⟩ ht=>?_)
 ·obtain ⟨t,ds,hd,h1,_⟩:=hty _ ht
  exact hd.ne hc h1
 ·obtain ⟨t,ds,hd,_,h4⟩:=hty _ ht
  exact hd.ne hr h4
theorem dw.trans {b:Nat} {V V1:Vm} {w w1 w2:World} (h:dw b V1 w w1) (k:dw b V w1 w2):dw b V w w2:=⟨k.1,h.2.trans k.2⟩
theorem dw.below {b:Nat} {V:Vm} {w w1:World} (h:aA w b V) (k:Below w.heap.size w w1):dw b V w w1:=⟨h.call k,ag.of_below k⟩
theorem dw.aU {b:Nat} {V:Vm} {w w1 w2:World} (h:dw b V w w1) (k:Below w1.heap.size w1 w2):dw b V w w2:=h.trans (.below h.1 k)
theorem dw.blk {b:Nat} {V V0:Vm} {w w1:World} (h:dw b V w w1) (h0:aA w b V0) {g:Nat} {t:TypeId} {cs:Array Value} (hg:af w g t cs) (h1:t≠105:=by decide):af w1 g t cs :=
 h.2.blk hg (λe=>by
  have e:g=b:=e;subst e;obtain ⟨es,he⟩:=h0.typed;exact hg.ne he h1)
def Fq (V:Vm) (q:Int):Int:=if 0<=q/\q<1024 then (V.pg q.toNat).kind else 0
def qZ (V:Vm) (p:Int):Nat->List Sp
 | 0=>[]
 | k+1=>if Fq V (p+k)=3 then qZ V p k++[(p+k,1)] else qZ V p k
def qG (V:Vm) (p n:Int):List Sp:=setOf (qZ V p n.toNat)
theorem Ba (V:Vm) (p:Int):∀k,(qZ V p k).length<=k
 | 0=>Nat.le_refl _
 | k+1=>by
  have:=Ba V p k;rw [qZ];split <;> simp <;> omega
theorem Fs (V:Vm) {p:Int} (hp:0<=p):∀k:Nat,p+k<=1024->∀x∈qZ V p k,bF x=true
 | 0,_,_,h=>by cases h
 | k+1,hk,x,h=>by
  rw [qZ] at h;have ih:=Fs V hp k zo;split at h
  ·rcases List.mem_append.1 h with h|h
   ·exact ih x h
   ·simp only [List.mem_singleton] at h
    subst h;exact av.2 ⟨by show 0<=p+k;omega,by show p+k<1024;omega,by show (1:Int)<=1;omega,by show (1:Int)<=1024 - (p+k);omega⟩
  ·exact ih x h
theorem aeo (V:Vm) {p:Int} {n:Nat} (hp:0<=p) (hn:p+n<=1024):Hg (qZ V p n)=0:=by
 have h1:=Ba V p n;unfold Hg;rw [if_neg zo,if_pos (List.all_eq_true.2 (Fs V hp n hn))]
theorem qj (L:List Nd) (n:Nat) (p:Int):(jb L n p).2.length=L.length:=by
 unfold jb;split
 ·rfl
 ·split
  ·rfl
  ·show (rY _ n (-p)).length=_
   rw [AJ,List.length_modify]
theorem Kc {S:List Sp} (hS:Can S):∀(l:List Sp) (m:Int),0<=m->m+aG l<=1024->(∀u∈l,bF u=true)->∀x∈bW S m l,bF (x.2.2,x.2.1)=true
 | [],_,_,_,_,_,h=>by cases h
 | u::l,m,h0,h1,hv,x,h=>by
  rw [bW] at h;rw [GD] at h1;have hu:=av.1 (hv u zs);have hl:=(iK l (λy hy=>hv y (by simp [hy]))).1;rcases List.mem_append.1 h with h|h
  ·obtain ⟨y,hy,rfl⟩:=List.mem_map.1 h
   have xN:bF (m,u.2)=true:=av.2 ⟨h0,by show m<1024;omega,hu.2.2.1,by show u.2<=1024 - m;omega⟩;exact (Can.common hS (Can.one xN)).1 y hy
  ·exact Kc hS l (m+u.2) zo zo (λy hy=>hv y (by simp [hy])) x h
theorem Bb {S:List Sp} (hS:Can S) {pg n f b ev:Int} (hp:dO pg n f b ev):∀x∈bW S 0 (ay pg n f b ev),bF (x.2.2,x.2.1)=true :=
 Kc hS _ 0 (Int.le_refl _) (by have:=(lL hp).2;omega) (bN hp).1
def dA (n:Nat) (S:Vm×List Nd×List Sp×Int) (x:iO):Vm×List Nd×List Sp×Int :=
 let J:=bK S.1 x.1 x.2.1 3 2 1
 if J.1=0 then (J.2,(jb S.2.1 n x.2.1).2,az S.2.2.1 (aZ [(x.2.2,x.2.1)] (0,1024)),S.2.2.2)
 else (J.2,S.2.1,S.2.2.1,if S.2.2.2=0 then J.1 else S.2.2.2)
theorem Xd {n:Nat} {S:Vm×List Nd×List Sp×Int} {x:iO} (hx:bF (x.2.2,x.2.1)=true) (hO:bf S.2.1) (hn:n<S.2.1.length) (hk:Can S.2.2.1) :
  bf (dA n S x).2.1/\n<(dA n S x).2.1.length/\Can (dA n S x).2.2.1:=by
 unfold dA;dsimp only;split
 ·exact ⟨sU hO hn _,by rw [qj];exact hn,Can.common hk ((Can.one hx).FV (i:=(0,1024)) zd).1⟩
 ·exact ⟨hO,hn,hk⟩
def iP:List Sp->Vm->Int×Vm
 | [],V=>(0,V)
 | x::r,V=>let J:=bK V x.1 x.2 4 3 1;if J.1≠0 then J else iP r J.2
def gP (V:Vm) (r:Cr):Cr×Int×Vm :=
 let P:=iP (qG V r.pg r.n) V
 if P.1≠0 then (r,P.1,P.2)
 else
  let E:=bK P.2 r.pg r.n 1 1 0
  if E.1≠0 then (r,E.1,E.2) else (bD,0,E.2)
def dI (V:Vm) (L:List Nd) (r:Cr):Cr×Int×Vm×List Nd :=
 if bq r≠0 then (r,bq r,V,L)
 else if r.cl=true then
  let Q:=gP V r
  (Q.1,Q.2.1,Q.2.2,L)
 else
  let all:=setOf (r.kept++bJ 0 r.live)
  let S:=(bW all 0 (ay r.pg r.n r.f r.bk r.ev)).foldl (dA r.node.toNat) (V,L,all,0)
  if S.2.2.2≠0 then ({ r with live:=0,kept:=S.2.2.1 },S.2.2.2,S.1,S.2.1)
  else
   let Q:=gP S.1 { r with live:=0,kept:=S.2.2.1,cl:=true }
   (Q.1,Q.2.1,Q.2.2,S.2.1)
theorem aR.soft {N bs bb:Nat} {V:Vm} {L:List Nd} {w A B:World} (h:aR bs bb V L w A) (hN:w.heap.size<=N) (hs:lI N A B):aR bs bb V L w B:=by
 obtain ⟨T,hF,hT,hB⟩:=hs;obtain ⟨cs,hc⟩:=h.sys.typed;refine ⟨h.sys.far hF (hB _ _ _ hc) (λ_ _ _ _ _ _ _ _ _ _ ⟨_,hr⟩=>hB _ _ _ hr),h.eO.far hF ?_ (λk ⟨_,_,hd⟩=>hB _ _ _ hd),h.far.trans' hF (λi hi ht=>absurd (hT i ht) zo)⟩;obtain ⟨A',cap,k,_⟩:=h.eO.ex;exact hB _ _ _ k
theorem KeptAt.soft {N:Nat} {A B:World} {q:Option Addr} {us:List Sp} (h:KeptAt A q us) (hs:lI N A B):KeptAt B q us:=by
 obtain ⟨T,hF,_,hB⟩:=hs;exact h.far hF (λ_ _ hg=>hB _ _ _ hg)
structure mK (W:World) (g:Nat) (r:Cr):Prop where
 ex:∃(A:Option Addr) (cap:Nat),af W g 28 (aj r (.slice A r.kept.length cap))/\KeptAt W A r.kept/\r.kept.length<=cap/\cap<=maxLen
theorem mK.soft {N:Nat} {A B:World} {g:Nat} {r:Cr} (h:mK A g r) (hs:lI N A B):mK B g r:=by
 obtain ⟨q,cap,h1,h2,h3,h4⟩:=h.ex;exact ⟨q,cap,hs.blk h1,h2.soft hs,h3,h4⟩
theorem mK.both {bs bb:Nat} {V V0:Vm} {L:List Nd} {A B:World} {g:Nat} {r:Cr} (h:mK A g r) (h0:aA A bs V0) (hb:aR bs bb V L A B):mK B g r:=by
 obtain ⟨q,cap,h1,h2,h3,h4⟩:=h.ex;exact ⟨q,cap,hb.blk h0 h1 zd zd,hb.kept h0 h2,h3,h4⟩
theorem mK.call {A B:World} {g:Nat} {r:Cr} (h:mK A g r) (hb:Below A.heap.size A B):mK B g r:=h.soft (N:=0) (.of_below hb)
instance {A B:World} {g:Nat} {r:Cr}:ZC A B (mK A g r) (mK B g r):=⟨λh k=>k.call h⟩
def l8 (o:Option Nat) (W:World):Prop:=∀D,o=some D->W.heap[D]? = some (.deferred (some []))
theorem l8.nil (W:World):l8 none W:=λ_ h=>by cases h
theorem l8.far {o:Option Nat} {A B:World} {T:Nat->Prop} (h:l8 o A) (hF:ag T A B) (hT:∀k,T k->∃t cs,af A k t cs):l8 o B:=λD e =>
 hF.same (h D e) (λht=>by
  obtain ⟨t,cs,hk⟩:=hT D ht;have:=(h D e).symm.trans hk;cases this)
theorem l8.call {o:Option Nat} {A B:World} (h:l8 o A) (hb:Below A.heap.size A B):l8 o B:=h.far (T:=λ_=>False) (ag.of_below hb) (λ_ h=>h.elim)
instance {o:Option Nat} {A B:World}:ZC A B (l8 o A) (l8 o B):=⟨λh k=>k.call h⟩
theorem l8.both {o:Option Nat} {bs bb:Nat} {V V0:Vm} {L:List Nd} {A B:World} (h:l8 o A) (h0:aA A bs V0) (hb:aR bs bb V L A B):l8 o B:=h.far hb.far (λk hk=>by
 rcases hk with rfl|⟨_,cs,hc⟩
 ·obtain ⟨cs,hc⟩:=h0.typed
  exact ⟨_,cs,hc⟩
 ·exact ⟨_,cs,hc⟩)
theorem l8.soft {D N:Nat} {W:World} (h:l8 (some D) W) (hN:N<=D):lI N W (W.putObj D (.deferred none)) :=
 ⟨λk=>k=D,ag.putObj (T:=λk=>k=D) (ag.refl _ W) (λ_=>rfl) _,λk hk=>by rw [hk];exact hN,λk t cs hk e=>by subst e;exact l7 (h _ rfl) (λ_ _ _ h=>by cases h) t cs hk⟩
theorem PN (t1 t2 t3 t4:TypeId) (c1 c2 c3 c4:Array Value) (w:World):∃w0:World,w0=(((w.alloc (.cells c1 t1)).alloc (.cells c2 t2)).alloc (.cells c3 t3)).alloc (.cells c4 t4) /\
  w0.heap.size=w.heap.size+4/\Below w.heap.size w w0/\af w0 w.heap.size t1 c1/\af w0 (w.heap.size+1) t2 c2/\af w0 (w.heap.size+2) t3 c3/\af w0 (w.heap.size+3) t4 c4:=by
 have e1:=World.size_alloc w (.cells c1 t1);have e2:=World.size_alloc (w.alloc (.cells c1 t1)) (.cells c2 t2);have e3:=World.size_alloc ((w.alloc (.cells c1 t1)).alloc (.cells c2 t2)) (.cells c3 t3);have e4:=World.size_alloc (((w.alloc (.cells c1 t1)).alloc (.cells c2 t2)).alloc (.cells c3 t3)) (.cells c4 t4);have k1:=(((af.new w t1 c1).dV (.cells c2 t2)).dV (.cells c3 t3)).dV (.cells c4 t4);have k2:=((af.new (w.alloc (.cells c1 t1)) t2 c2).dV (.cells c3 t3)).dV (.cells c4 t4);have k3:=(af.new ((w.alloc (.cells c1 t1)).alloc (.cells c2 t2)) t3 c3).dV (.cells c4 t4);have k4:=af.new (((w.alloc (.cells c1 t1)).alloc (.cells c2 t2)).alloc (.cells c3 t3)) t4 c4;have hb:=(((aQ w (.cells c1 t1)).alloc zo (.cells c2 t2)).alloc zo (.cells c3 t3)).alloc zo (.cells c4 t4);rw [e1] at k2;rw [e2,e1] at k3;rw [e3,e2,e1] at k4;exact ⟨_,rfl,zo,hb,k1,k2,k3,k4⟩
theorem Tk {P:Program} {tE:TypeId} {g:Operand} {ps:Array Tmp} {assign body:Code} {Q:Exit->Act->World->Prop} {a:Act} {w:World} (ib pb:Nat) (tR:TypeId)
  {gf:Nat} {lb:Array Value} (hg:a.eval g= .func (.func gf) #[] lb) (eg:∀args w,(callFunc gf args).run P w= .ok (.enter gf args) w)
  {K:Nat->Prop} {xs:List iO} (hseq:Y8 P tE gf lb SQ K xs w) (hps:ps=#[pb])
  (hK:∀k,K k->k<w.heap.size)
  (I:List iO->World->Prop) (Ix:Code->List iO->World->Prop)
  (hI:∀pre A B,I pre A->lI w.heap.size A B->I pre B)
  (hIx:∀c pre A B,Ix c pre A->lI w.heap.size A B->Ix c pre B)
  (h0:I [] w)
  (hassign:∀(m l:Nat) (x:iO) (W:World) (C:Act->World->Prop),
   C { tmps:=(a.tmps.setIfInBounds pb (.agg (qX x))).setIfInBounds ib (zP W.heap.size),defers:=[] } (W.alloc (.cells (qX x) tR)) ->
   assign.wpIn (Fence.wide.inRound l) m P (Exit.then C (λ_ _ _=>False)) { tmps:=a.tmps.setIfInBounds pb (.agg (qX x)),defers:=[] } W)
  (hbody:∀(m l:Nat) (X:Nat->Prop) (pre:List iO) (x:iO) (Bx:Nat) (W:World),w.heap.size+2<=W.heap.size->(∀k,X k->∃cs,af W k tE cs)->(∀t cs,¬af W w.heap.size t cs)->(∀t cs,¬af W (w.heap.size+1) t cs)->I pre W->af W Bx tR (qX x)->pre++[x] <+: xs ->
   body.wpIn (Fence.wide.inRound l) m P (WX w.heap.size K X I Ix (pre++[x]) W) { tmps:=(a.tmps.setIfInBounds pb (.agg (qX x))).setIfInBounds ib (zP Bx),defers:=[] } W)
  (hdone:∀(W:World),w.heap.size+2<=W.heap.size->I xs W->W.heap[w.heap.size]? = some (.deferred (some []))->Q .normal { a with defers:=dB w.heap.size::a.defers } W)
  (hstop:∀(c:Code) (pre:List iO) (W:World),w.heap.size+2<=W.heap.size->pre <+: xs->Ix c pre W->W.heap[w.heap.size]? = some (.deferred (some []))->c.wp P Q { a with defers:=dB w.heap.size::a.defers } W) :
  (Code.rangeFunc g ps assign body).wp P Q a w:=by
 subst hps;refine Y9 hg eg hseq (λ_=>rfl) hK I Ix hI hIx h0
  (λx a' W=>∃Bx,af W Bx tR (qX x)/\a'={ tmps:=(a.tmps.setIfInBounds pb (.agg (qX x))).setIfInBounds ib (zP Bx),defers:=[] })
  (λx a' A B ⟨Bx,h2,h3⟩ hf=>⟨Bx,hf.blk h2,h3⟩) ?_ ?_ hdone hstop
 ·intro m l x W C hC
  have e:(#[pb].zip (SQ x)).foldl (λt (p,v)=>t.setIfInBounds p v) a.tmps=a.tmps.setIfInBounds pb (.agg (qX x)):=by simp [SQ]
  rw [e];exact hassign m l x W C (hC _ _ ((Below.refl _ W).alloc (Nat.le_refl _) _) ⟨W.heap.size,af.new _ _ _,rfl⟩)
 ·rintro m l X pre x a' W hs hX hD hE hi ⟨Bx,h2,rfl⟩ hpre
  exact hbody m l X pre x Bx W hs hX hD hE hi h2 hpre
def PO (s:Nat) (v:Value) (bx:Nat) (a b c:Value) (W:World):Prop:=W.cell? ⟨s,7,none⟩=some v/\W.cell? ⟨bx,0,none⟩=some a/\W.cell? ⟨bx,1,none⟩=some b/\W.cell? ⟨bx,2,none⟩=some c
theorem PO.call {s bx:Nat} {v a b c:Value} {W W':World} (h:PO s v bx a b c W) (hb:Below W.heap.size W W'):PO s v bx a b c W':=by
 obtain ⟨h1,h2,h3,h4⟩:=h;exact ⟨(hb.cell (block_lt_of_cell h1)).trans h1,(hb.cell (block_lt_of_cell h2)).trans h2,(hb.cell (block_lt_of_cell h3)).trans h3,(hb.cell (block_lt_of_cell h4)).trans h4⟩
instance {s bx:Nat} {v a b c:Value} {W W':World}:ZC W W' (PO s v bx a b c W) (PO s v bx a b c W'):=⟨λh k=>k.call h⟩
def Xe (s:Nat) (r:Cr) (v:Value) (g:Nat) (e:Int) (W:World):Prop:=W.cell? ⟨s,0,none⟩=some (zI r.pg)/\W.cell? ⟨s,1,none⟩=some (zI r.n)/\W.cell? ⟨s,2,none⟩=some (zI r.f)/\W.cell? ⟨s,3,none⟩=some (zI r.bk)/\W.cell? ⟨s,4,none⟩=some (zI r.ev)/\W.cell? ⟨s,5,none⟩=some (zI r.node)/\W.cell? ⟨s,6,none⟩=some (zI r.live)/\W.cell? ⟨s,7,none⟩=some v/\W.cell? ⟨s,8,none⟩=some (.bool r.cl)/\W.cell? ⟨g,0,none⟩=some (zI e)
theorem Xe.of {s g:Nat} {r:Cr} {v:Value} {e:Int} {W:World} {t u:TypeId} (h:af W s t (aj r v)) (k:af W g u #[zI e]):Xe s r v g e W :=
 ⟨h.cell 0,h.cell 1,h.cell 2,h.cell 3,h.cell 4,h.cell 5,h.cell 6,h.cell 7,h.cell 8,k.cell 0⟩
theorem Eg {n:Nat}:∀(l:List iO) (S:Vm×List Nd×List Sp×Int),(∀x∈l,bF (x.2.2,x.2.1)=true)->bf S.2.1->n<S.2.1.length->Can S.2.2.1 ->
  bf (l.foldl (dA n) S).2.1/\n<(l.foldl (dA n) S).2.1.length/\Can (l.foldl (dA n) S).2.2.1
 | [],S,_,h1,h2,h3=>⟨h1,h2,h3⟩
 | x::l,S,hv,h1,h2,h3=>by
  have h:=Xd (S:=S) (x:=x) (hv x zs) h1 h2 h3;exact Eg l (dA n S x) (λy hy=>hv y (by simp [hy])) h.1 h.2.1 h.2.2
def Fu (P:Program):List Deferred->World->World->Prop
 | [],w,w'=>w'=w
 | d::ds,w,w'=>∃r w1,d.target= .collected r/\(Instr.takeDeferred r).run P w= .ok [] w1/\Fu P ds w1 w'
theorem xX {P:Program} {F:Fence} {n:Nat}:∀(ds:List Deferred) (w w':World) (fr:Frame) (cs:List Frame),fr.mode= .returning->fr.defers=ds->F.fn fr.fn->F.room (cs.length+1+n)->Fu P ds w w' ->
  StepsIn (Machine.fenced P F) P (lone fr cs w) (lone { fr with defers:=[] } cs w')
 | [],w,w',fr,cs,_,hd,_,_,h=>by
  have e:({ fr with defers:=[] }:Frame)=fr:=by rw [<-hd]
  have h:w'=w:=h;rw [e,h];exact StepsIn.refl _
 | d::ds,w,w',fr,cs,hm,hd,hb,hr,h=>by
  obtain ⟨r,w1,ht,hk,hrest⟩:=h;have h1:=step_collected (cs:=cs) (by rw [hm];simp) hd ht hk;have i1:(lone fr cs w).fenced P F:=fenced_out hb hr (by rw [hm];simp) hd (λg hg=>by rw [ht] at hg;simp [Target.leads] at hg);have h2:=xX (F:=F) (n:=n) ds w1 w' { fr with defers:=[]++ds } cs hm rfl hb hr hrest;exact .head i1 h1 h2
def ahf (P:Program) (fn:Func) (R:Ending->World->Prop):Exit->Act->World->Prop
 | .normal,a,w | .ret,a,w=>∃w',Fu P a.defers w w'/\∃v,(results fn a.tmps).run P w'= .ok v w'/\R (.returned v) w'
 | _,_,_=>False
theorem uC {P:Program} {F:Fence} {n:Nat} {f:FuncId} {fn:Func} {c:Code} {args:Array Value} {u:FrameMode} {w:World} {R:Ending->World->Prop}
  (hf:P.funcs[f]? = some fn) (hb:fn.body=some c) (hF:F.fn f)
  (h:c.wpIn F n P (ahf P fn R) { tmps:=args++Array.replicate (fn.ntmps - args.size) undef,defers:=[] } w) (hro:F.round=none:=by rfl) :
  CallsDIn F n P f args u w λe u' w'=>u'=u/\R e w':=by
 refine ⟨hF,λc₀ cs hu hr=>?_⟩
 let b:Frame:={ (default:Frame) with fn:=f,kind:=.deferred,roundOf:=none }
 have henter:Frame.enter P f args .deferred =
   b.atR { tmps:=args++Array.replicate (fn.ntmps - args.size) undef,defers:=[] } [.code c]:=by
  simp [Frame.enter,Frame.atR,hf,hb,b]
 have hc:({ c₀ with mode:=u }:Frame)=c₀:=by subst hu;rfl
 obtain ⟨e,a',w',hq,harr⟩:=h b [] (c₀::cs) hro.symm hF hr;rw [<-henter] at harr;cases e with
 | normal =>
  obtain ⟨w2,hM,v,hr',hR⟩:=hq;have hs:=xX (F:=F) (n:=n) a'.defers w' w2 { b.atR a' [] with mode:=.returning } (c₀::cs) rfl rfl hF hr hM;exact ⟨.returned v,u,w2,_,⟨rfl,hR⟩,(by rw [hc];exact StepsIn.trans (StepsIn.trans harr (.one (fenced_calm (fr:=b.atR a' []) hF hr rfl) (stepR_end rfl))) hs),rfl,rfl,rfl,rfl,fn,hf,hr'⟩
 | ret =>
  obtain ⟨w2,hM,v,hr',hR⟩:=hq;obtain ⟨todo,hs0⟩:=harr.1 rfl;have hs:=xX (F:=F) (n:=n) a'.defers w' w2 { b.atR a' todo with mode:=.returning } (c₀::cs) rfl rfl hF hr hM;exact ⟨.returned v,u,w2,_,⟨rfl,hR⟩,(by rw [hc];exact StepsIn.trans hs0 hs),rfl,rfl,rfl,rfl,fn,hf,hr'⟩
 | panic chain=>exact hq.elim
 | exit id=>exact hq.elim
 | goto l=>exact hq.elim
 | outgrown=>exact hq.elim
def dK (S:Vm×List Sp×Int) (x:iO):Vm×List Sp×Int :=
 let J:=bK S.1 x.1 x.2.1 3 2 1
 if J.1≠0 then (J.2,setOf (S.2.1++[(x.2.2,x.2.1)]),S.2.2 - x.2.1) else (J.2,S.2.1,S.2.2)
def jN:List iO->List iO->Vm->Int×Vm×List iO
 | [],d,V=>(0,V,d)
 | x::r,d,V=>let J:=bK V x.1 x.2.1 2 1 2;if J.1≠0 then (J.1,J.2,d) else jN r (d++[x]) J.2
def dh (V:Vm) (L:List Nd) (r:Cr) (tt:Int):Cr×Int×Vm×List Nd :=
 if bq r≠0 then (r,bq r,V,L)
 else if r.cl=true then (r,9,V,L)
 else if tt<r.live\/pJ r<tt then (r,7,V,L)
 else
  let more:=az (bJ r.live tt) (aZ r.kept (0,1024))
  let c:=iZ L r.node.toNat (aG more)
  if c.1≠0 then (r,c.1,V,c.2)
  else
   let C:=jN (bW more 0 (ay r.pg r.n r.f r.bk r.ev)) [] V
   if C.1=0 then ({ r with live:=tt,kept:=az r.kept (aZ (bJ 0 tt) (0,1024)) },0,C.2.1,c.2)
   else
    let U:=C.2.2.reverse.foldl dK (C.2.1,r.kept,aG more)
    ({ r with kept:=U.2.1 },C.1,U.1,(jb c.2 r.node.toNat U.2.2).2)
def Tm (bs g8 gm k:Nat):Prop:=k=bs\/k=g8\/k=gm
structure aqm (bs g8 gm:Nat) (r:Cr) (S:Vm×List Sp×Int) (w w':World):Prop where
 sys:aA w' bs S.1
 cr:mK w' g8 { r with kept:=S.2.1 }
 many:af w' gm 3 #[zI S.2.2]
 far:ag (Tm bs g8 gm) w w'
open Go.Proofs Tryz
theorem sO (V:Vm) (a n:Int) (call:Nat) (pr:Pg->Bool) (fd:Pg->Pg) :
  ((gX V a n call pr fd).1≠0/\(gX V a n call pr fd).2.pg=V.pg) \/
  ((gX V a n call pr fd).1=0/\0<=a/\1<=n/\a+n<=1024/\(∀p:Nat,a<=p->(p:Int)<a+n->pr (V.pg p)=true) /\
   ∀p:Nat,(gX V a n call pr fd).2.pg p=if a<=p/\(p:Int)<a+n then fd (V.pg p) else V.pg p):=by
 unfold gX;by_cases h1:n<1\/a<0\/1024<=a\/1024 - a<n
 ·rw [if_pos h1];exact .inl ⟨(by decide:(7:Int)≠0),rfl⟩
 ·rw [if_neg h1]
  by_cases h2:qR V a.toNat n.toNat pr=false
  ·rw [if_pos h2];exact .inl ⟨(by decide:(9:Int)≠0),rfl⟩
  ·rw [if_neg h2]
   rw [Bool.not_eq_false] at h2;by_cases h3:rZ V.rf call=true
   ·rw [if_pos h3];exact .inl ⟨(by decide:(60:Int)≠0),rfl⟩
   ·rw [if_neg h3]
    refine .inr ⟨rfl,zo,zo,zo,λp p1 p2=>iQ.1 h2 p zo zo,λp=>?_⟩;show (if _ then _ else _)=_;by_cases h4:a<=p/\(p:Int)<a+n
    ·rw [if_pos h4,if_pos zo];rfl
    ·rw [if_neg h4,if_neg zo];rfl
theorem GI (V:Vm) (a v:Int) (p:Nat):((kT V a v).pg p).bP=(V.pg p).bP/\((kT V a v).pg p).kind=(V.pg p).kind:=by
 unfold kT;split
 ·show ((if _ then _ else _:Pg)).bP=_/\((if _ then _ else _:Pg)).kind=_
  split
  ·rename_i e;subst e;exact ⟨rfl,rfl⟩
  ·exact ⟨rfl,rfl⟩
 ·exact ⟨rfl,rfl⟩
def kd (V:Vm) (p:Nat):Int:=(V.pg p).kind
def Apt (s:List Sp):Prop:=(∀x∈s,1<=x.2)/\s.Pairwise (λa b=>a.1+a.2<b.1)
theorem GJ:∀(s:List Sp) (e:Int),(∀x∈s,1<=x.2)->(aV e s=true↔(∀x∈s,e<x.1)/\s.Pairwise (λa b=>a.1+a.2<b.1))
 | [],e,_=>by simp [aV]
 | x::s,e,h=>by
  rw [aJ,GJ s (x.1+x.2) (λy hy=>h y (by simp [hy])),List.pairwise_cons];constructor
  ·rintro ⟨h1,h2,h3⟩
   refine ⟨λy hy=>?_,h2,h3⟩;rcases List.mem_cons.1 hy with rfl|hy
   ·exact h1
   ·have:=h2 y hy;have:=h x zs;omega
  ·rintro ⟨h1,h2,h3⟩
   exact ⟨h1 x zs,h2,h3⟩
theorem Can.apt {s:List Sp} (h:Can s):Apt s :=
 have hw:∀x∈s,1<=x.2:=λx hx=>(av.1 (h.1 x hx)).2.2.1
 ⟨hw,((GJ s (-1) hw).1 h.2).2⟩
structure Fv (m:Int) (L:List Sp) (x:iO):Prop where
 pos:1<=x.2.1
 lo:0<=x.1
 hi:x.1+x.2.1<=1024
 nlo:m<=x.2.2
 nhi:x.2.2+x.2.1<=m+aG L
 page:∀p,x.1<=p->p<x.1+x.2.1->mem p L=true/\(fZ p m L).1=x.2.2+(p - x.1)
 num:∀p,mem p L=true->x.2.2<=(fZ p m L).1->(fZ p m L).1<x.2.2+x.2.1->x.1<=p/\p<x.1+x.2.1
theorem mG:∀(L:List Sp) (m p:Int),(∀u∈L,1<=u.2)->mem p L=true->m<=(fZ p m L).1/\(fZ p m L).1<m+aG L
 | [],_,_,_,h=>by cases h
 | u::r,m,p,hw,h=>by
  have hu:=hw u zs;have hs:aG (u::r)=u.2+aG r:=by simp [aG]
  have hr:0<=aG r:=by
   have:∀l:List Sp,(∀x∈l,1<=x.2)->0<=aG l:=λl=>by
    induction l with
    | nil=>intro _;simp [aG]
    | cons y l ih =>
     intro h;have:=h y zs;have:=ih (λz hz=>h z (by simp [hz]));simp only [aG,List.map_cons,List.sum_cons] at this ⊢;omega
   exact this r (λz hz=>hw z (by simp [hz]))
  rw [fZ];by_cases hp:u.1<=p/\p<u.1+u.2
  ·rw [if_pos hp]
   simp only;omega
  ·rw [if_neg hp]
   have hm:mem p r=true:=by
    rcases bH.1 h with h|h
    ·exact absurd h hp
    ·exact h
   have:=mG r (m+u.2) p (λz hz=>hw z (by simp [hz])) hm;omega
theorem Fw:∀(L:List Sp) (m p q:Int),(∀u∈L,1<=u.2)->mem p L=true->mem q L=true->(fZ p m L).1=(fZ q m L).1->p=q
 | [],_,_,_,_,h,_,_=>by cases h
 | u::r,m,p,q,hw,hp,hq,he=>by
  have hu:=hw u zs;have hwr:∀z∈r,1<=z.2:=λz hz=>hw z (by simp [hz])
  rw [fZ,fZ] at he;by_cases h1:u.1<=p/\p<u.1+u.2
  ·rw [if_pos h1] at he
   by_cases h2:u.1<=q/\q<u.1+u.2
   ·rw [if_pos h2] at he
    simp only at he;omega
   ·rw [if_neg h2] at he
    have hm:mem q r=true:=(bH.1 hq).resolve_left h2;have:=mG r (m+u.2) q hwr hm;simp only at he;omega
  ·have hm1:mem p r=true:=(bH.1 hp).resolve_left h1
   rw [if_neg h1] at he;by_cases h2:u.1<=q/\q<u.1+u.2
   ·rw [if_pos h2] at he
    have:=mG r (m+u.2) p hwr hm1;simp only at he;omega
   ·rw [if_neg h2] at he
    have hm2:mem q r=true:=(bH.1 hq).resolve_left h2;exact Fw r (m+u.2) p q hwr hm1 hm2 he
theorem rq:∀{L:List Sp},(∀u∈L,1<=u.2)->0<=aG L
 | [],_=>by simp [aG]
 | u::r,h=>by
  have:=h u zs;have:=rq (L:=r) (λz hz=>h z (by simp [hz]));simp only [aG,List.map_cons,List.sum_cons] at this ⊢;omega
theorem ql {L:List Sp} (h:∀u∈L,bF u=true):∀u∈L,1<=u.2:=λu hu=>(av.1 (h u hu)).2.2.1
theorem Ke {S:List Sp} (hS:Can S) {i:Sp} (hi:bF i=true) {y:Sp} (hy:y∈az S [i]):1<=y.2/\i.1<=y.1/\y.1+y.2<=i.1+i.2/\∀k,y.1<=k->k<y.1+y.2->mem k S=true:=by
 have hc:=hS.common (Can.one hi);have hv:=av.1 (hc.1 y hy);have hm:∀k,y.1<=k->k<y.1+y.2->mem k (az S [i])=true:=λk h1 h2=>List.any_eq_true.2 ⟨y,hy,by simp;omega⟩
 have hq:∀k,y.1<=k->k<y.1+y.2->mem k S=true/\i.1<=k/\k<i.1+i.2:=λk h1 h2=>by
  have:=hm k h1 h2;rw [hS.iI (Can.one hi),Bool.and_eq_true,iY] at this;exact this
 have h1:=hq y.1 (Int.le_refl _) zo;have h2:=hq (y.1+y.2 - 1) zo zo;exact ⟨hv.2.2.1,zo,zo,λk a b=>(hq k a b).1⟩
theorem qm {S:List Sp} (hS:Can S):∀(L:List Sp) (m e:Int),0<=m->m+aG L<=1024->(∀u∈L,bF u=true)->aV e L=true->∀x∈bW S m L,Fv m L x/\∀k,x.2.2<=k->k<x.2.2+x.2.1->mem k S=true
 | [],_,_,_,_,_,_,_,h=>by cases h
 | u::r,m,e,h0,h1,hv,hf,x,h=>by
  have hs:aG (u::r)=u.2+aG r:=by simp [aG]
  have hu:=av.1 (hv u zs);have Eh:∀y∈r,bF y=true:=λy hy=>hv y (by simp [hy])
  have hr0:=rq (ql Eh);have hf':=aJ.1 hf;have low:∀q,mem q r=true->u.1+u.2<q:=λq hq=>uW hf'.2 (λy hy=>by have:=ql Eh y hy;omega) hq
  have xN:bF (m,u.2)=true:=av.2 ⟨h0,by show m<1024;omega,hu.2.2.1,by show u.2<=1024 - m;omega⟩;rw [bW] at h;rcases List.mem_append.1 h with h|h
  ·obtain ⟨y,hy,rfl⟩:=List.mem_map.1 h
   obtain ⟨c1,c2,c3,c4⟩:=Ke hS xN hy;simp only at c2 c3;refine ⟨⟨c1,by show 0<=u.1+y.1 - m;omega,by show u.1+y.1 - m+y.2<=1024;omega,c2,by show y.1+y.2<=_;omega,λp h2 h3=>?_,λp h2 h3 h4=>?_⟩,c4⟩
   ·simp only at h2 h3
    have hp:u.1<=p/\p<u.1+u.2:=zo;refine ⟨bH.2 (.inl hp),?_⟩;rw [fZ,if_pos hp];simp only;omega
   ·simp only at h3 h4 ⊢
    rw [fZ] at h3 h4;by_cases hp:u.1<=p/\p<u.1+u.2
    ·rw [if_pos hp] at h3 h4
     simp only at h3 h4;omega
    ·rw [if_neg hp] at h3 h4
     have hm:=(bH.1 h2).resolve_left hp;have:=mG r (m+u.2) p (ql Eh) hm;omega
  ·obtain ⟨R,hR⟩:=qm hS r (m+u.2) _ zo zo Eh hf'.2 x h
   have hnot:∀p,mem p r=true->¬(u.1<=p/\p<u.1+u.2):=λp hp=>by have:=low p hp;omega
   refine ⟨⟨R.pos,R.lo,R.hi,by have:=R.nlo;omega,by have:=R.nhi;omega,λp h2 h3=>?_,λp h2 h3 h4=>?_⟩,hR⟩
   ·obtain ⟨a,b⟩:=R.page p h2 h3
    refine ⟨bH.2 (.inr a),?_⟩;rw [fZ,if_neg (hnot p a)];exact b
   ·rw [fZ] at h3 h4
    by_cases hp:u.1<=p/\p<u.1+u.2
    ·rw [if_pos hp] at h3 h4
     have:=R.nlo;simp only at h3 h4;omega
    ·rw [if_neg hp] at h3 h4
     exact R.num p ((bH.1 h2).resolve_left hp) h3 h4
theorem GK {S:List Sp} (hS:Can S):∀(L:List Sp) (m e:Int),0<=m->m+aG L<=1024->(∀u∈L,bF u=true)->aV e L=true->(bW S m L).Pairwise (λx y=>x.2.2+x.2.1<=y.2.2)
 | [],_,_,_,_,_,_=>List.Pairwise.nil
 | u::r,m,e,h0,h1,hv,hf=>by
  have hs:aG (u::r)=u.2+aG r:=by simp [aG]
  have hu:=av.1 (hv u zs);have Eh:∀y∈r,bF y=true:=λy hy=>hv y (by simp [hy])
  have hr0:=rq (ql Eh);have hf':=aJ.1 hf;have xN:bF (m,u.2)=true:=av.2 ⟨h0,by show m<1024;omega,hu.2.2.1,by show u.2<=1024 - m;omega⟩;rw [bW,List.pairwise_append];refine ⟨?_,GK hS r (m+u.2) _ zo zo Eh hf'.2,λa ha b hb=>?_⟩
  ·rw [List.pairwise_map]
   exact (Can.apt (hS.common (Can.one xN))).2.imp (λ{a b} h=>by simp only;omega)
  ·obtain ⟨y,hy,rfl⟩:=List.mem_map.1 ha
   obtain ⟨c1,c2,c3,c4⟩:=Ke hS xN hy;have:=(qm hS r (m+u.2) _ zo zo Eh hf'.2 b hb).1.nlo;simp only at c2 c3 ⊢;omega
theorem xY {S:List Sp} (hS:Can S):∀(L:List Sp) (m:Int),0<=m->m+aG L<=1024->(∀u∈L,bF u=true)->∀k,mem k S=true->m<=k->k<m+aG L->∃x∈bW S m L,x.2.2<=k/\k<x.2.2+x.2.1
 | [],m,_,_,_,k,_,h2,h3=>by simp [aG] at h3;omega
 | u::r,m,h0,h1,hv,k,hk,h2,h3=>by
  have hs:aG (u::r)=u.2+aG r:=by simp [aG]
  have hu:=av.1 (hv u zs);have Eh:∀y∈r,bF y=true:=λy hy=>hv y (by simp [hy])
  have hr0:=rq (ql Eh);have xN:bF (m,u.2)=true:=av.2 ⟨h0,by show m<1024;omega,hu.2.2.1,by show u.2<=1024 - m;omega⟩;rw [bW];by_cases hlt:k<m+u.2
  ·have hm:mem k (az S [(m,u.2)])=true:=by
    rw [hS.iI (Can.one xN),Bool.and_eq_true,iY];exact ⟨hk,h2,hlt⟩
   obtain ⟨y,hy,hyk⟩:=List.any_eq_true.1 hm;have aqt:y.1<=k/\k<y.1+y.2:=by simpa using hyk
   exact ⟨_,List.mem_append_left _ (List.mem_map.2 ⟨y,hy,rfl⟩),aqt⟩
  ·obtain ⟨x,hx,hxk⟩:=xY hS r (m+u.2) zo zo Eh k hk zo zo
   exact ⟨x,List.mem_append_right _ hx,hxk⟩
theorem BZ {f:Int->Bool} (a b:Int) (ha:0<=a) (hb:0<=b) (hab:a+b<=1024) (h:∀q,f q=true->a<=q/\q<a+b):iL f 1024 0=iL f b.toNat a:=by
 have e1:(1024:Nat)=a.toNat+(b.toNat+(1024 - (a+b)).toNat):=zo;rw [e1,j6,j6,show (0:Int)+(a.toNat:Int)=a by omega,show a+(b.toNat:Int)=a+b by omega];rw [nP a.toNat 0 (λq h1 h2=>by rw [Bool.eq_false_iff];intro hq;have:=h q hq;omega)];rw [nP _ (a+b) (λq h1 h2=>by rw [Bool.eq_false_iff];intro hq;have:=h q hq;omega)];omega
theorem Kg {S:List Sp} (hS:Can S):∀(L:List Sp) (m:Int),0<=m->m+aG L<=1024->(∀u∈L,bF u=true)->((bW S m L).map (·.2.1)).sum=iL (λq=>mem q S) (aG L).toNat m
 | [],m,_,_,_=>by simp [bW,aG,iL]
 | u::r,m,h0,h1,hv=>by
  have hs:aG (u::r)=u.2+aG r:=by simp [aG]
  have hu:=av.1 (hv u zs);have Eh:∀y∈r,bF y=true:=λy hy=>hv y (by simp [hy])
  have hr0:=rq (ql Eh);have xN:bF (m,u.2)=true:=av.2 ⟨h0,by show m<1024;omega,hu.2.2.1,by show u.2<=1024 - m;omega⟩;have ih:=Kg hS r (m+u.2) zo zo Eh;rw [bW,List.map_append,List.sum_append,ih,hs,show (u.2+aG r).toNat=u.2.toNat+(aG r).toNat by omega,j6,show m+(u.2.toNat:Int)=m+u.2 by omega];congr 1;rw [List.map_map];have hc:=hS.common (Can.one xN);have hcl:=CG hc;unfold cntF at hcl;simp only at hcl;have e0:(1024:Int).toNat=1024:=rfl;rw [e0,BZ m u.2 h0 zo zo (λq hq=>by
   have hq:mem q (az S [(m,u.2)])=true:=hq;rw [hS.iI (Can.one xN),Bool.and_eq_true,iY] at hq;exact hq.2)] at hcl
  have e2:(List.map ((λx:iO=>x.2.1)∘λx:Sp=>(u.1+x.1 - m,x.2,x.1)) (az S [(m,u.2)])).sum=aG (az S [(m,u.2)]):=by
   unfold aG;congr 1
  rw [e2,<-hcl];exact (vw _ _ (λq h2 h3=>by
   show mem q S=mem q (az S [(m,u.2)]);rw [hS.iI (Can.one xN),show mem q [(m,u.2)]=true from iY.2 ⟨h2,by show q<m+u.2;omega⟩,Bool.and_true])).symm
section
variable {pg n f b ev:Int}
theorem Dh {S:List Sp} (hS:Can S) (hp:dO pg n f b ev):(∀x∈bW S 0 (ay pg n f b ev),Fv 0 (ay pg n f b ev) x/\∀k,x.2.2<=k->k<x.2.2+x.2.1->mem k S=true)/\(bW S 0 (ay pg n f b ev)).Pairwise (λx y=>x.2.2+x.2.1<=y.2.2) /\
  (∀k,mem k S=true->k<aG (ay pg n f b ev)->∃x∈bW S 0 (ay pg n f b ev),x.2.2<=k/\k<x.2.2+x.2.1):=by
 have hs:=(lL hp).2;have hc:=bN hp;exact ⟨qm hS _ 0 _ (Int.le_refl _) zo hc.1 hc.2,GK hS _ 0 _ (Int.le_refl _) zo hc.1 hc.2,λk hk h2=>xY hS _ 0 (Int.le_refl _) zo hc.1 k hk (hS.range hk).1 zo⟩
theorem Kh {S:List Sp} (hS:Can S) (hp:dO pg n f b ev) (hin:∀k,mem k S=true->k<aG (ay pg n f b ev)):((bW S 0 (ay pg n f b ev)).map (·.2.1)).sum=aG S:=by
 have hs:=(lL hp);have hc:=bN hp;rw [Kg hS _ 0 (Int.le_refl _) zo hc.1];have:=CG hS;unfold cntF at this;simp only at this;have e0:(1024:Int).toNat=1024:=rfl;rw [e0,BZ 0 (aG (ay pg n f b ev)) (Int.le_refl _) zo zo (λq hq=>⟨(hS.range hq).1,by have:=hin q hq;omega⟩)] at this;exact this
end
structure amL (V:Vm) (a n fr tk:Int) (W:Vm):Prop where
 lo:0<=a
 pos:1<=n
 hi:a+n<=1024
 was:∀p:Nat,a<=p->(p:Int)<a+n->kd V p=fr
 pg:∀p:Nat,W.pg p=if a<=p/\(p:Int)<a+n then gW tk else V.pg p
theorem Xh (V:Vm) (a n:Int) (call:Nat) (fr tk:Int) :
  ((bK V a n call fr tk).1≠0/\(bK V a n call fr tk).2.pg=V.pg)\/((bK V a n call fr tk).1=0/\amL V a n fr tk (bK V a n call fr tk).2):=by
 rcases sO V a n call (λg=>g.kind==fr&&!g.bP) (λ_=>gW tk) with h|⟨h1,h2,h3,h4,h5,h6⟩
 ·exact .inl h
 ·refine .inr ⟨h1,h2,h3,h4,λp hp hp2=>?_,h6⟩
  have:=h5 p hp hp2;simp only [Bool.and_eq_true,beq_iff_eq] at this;exact this.1
def GL (r:Cr) (k:Int):Bool:=decide (k<r.live)||mem k r.kept
theorem xZ (L:List Nd) (n:Nat) (p:Int):(iZ L n p).2.length=L.length:=by
 unfold iZ;split
 ·rfl
 ·split
  ·rfl
  ·show (rY _ n p).length=_
   rw [AJ,List.length_modify]
abbrev IxV:=Nat×Value
abbrev bkA (x:IxV):Array Value:=#[zI x.1,x.2]
def mV (fv:Nat->Value):Nat->List IxV
 | 0=>[]
 | n+1=>(n,fv n)::mV fv n
def Kj (W:World) (A:Option Addr) (K:Nat->Prop) (fv:Nat->Value) (n:Nat):Prop:=∀i,i<n->∃g,A=some ⟨g,0,none⟩/\K g/\W.cell? ⟨g,i,none⟩=some (fv i)
theorem Kj.far {W W':World} {A:Option Addr} {K T:Nat->Prop} {fv:Nat->Value} {n:Nat} (h:Kj W A K fv n) (hF:ag T W W') (hT:∀k,K k->¬T k):Kj W' A K fv n:=λi hi=>by
 obtain ⟨g,e,hk,hc⟩:=h i hi;exact ⟨g,e,hk,hF.cell hc (hT g hk)⟩
theorem aA.soft {N b:Nat} {V:Vm} {A B:World} (h:aA A b V) (hs:lI N A B):aA B b V:=by
 obtain ⟨T,hF,_,hB⟩:=hs;obtain ⟨cs,hc⟩:=h.typed;exact h.far hF (hB _ _ _ hc) (λ_ _ _ _ _ _ _ _ _ _ ⟨_,hr⟩=>hB _ _ _ hr)
theorem bz.soft {N b:Nat} {L:List Nd} {A B:World} (h:bz A b L) (hs:lI N A B):bz B b L:=by
 obtain ⟨T,hF,_,hB⟩:=hs;obtain ⟨A',cap,k,_⟩:=h.ex;exact h.far hF (hB _ _ _ k) (λk ⟨_,_,hd⟩=>hB _ _ _ hd)
theorem ag.soft {N:Nat} {T:Nat->Prop} {w A B:World} (h:ag T w A) (hN:w.heap.size<=N) (hs:lI N A B):ag T w B:=by
 obtain ⟨T',hF,hT,_⟩:=hs;exact h.trans' hF (λi hi ht=>absurd (hT i ht) zo)
theorem PQ {S:Vm×List Sp×Int} {x:iO} (hx:bF (x.2.2,x.2.1)=true) (hk:Can S.2.1) (_:x.2.1<=S.2.2) (h1:S.2.2<=5000) :
  Can (dK S x).2.1/\S.2.2 - x.2.1<=(dK S x).2.2/\(dK S x).2.2<=5000:=by
 have hv:=av.1 hx;simp only at hv;unfold dK;dsimp only;split
 ·exact ⟨nO _,Int.le_refl _,by show S.2.2 - x.2.1<=5000;omega⟩
 ·exact ⟨hk,by show S.2.2 - x.2.1<=S.2.2;omega,h1⟩
def dU (l:List iO):Int:=(l.map (·.2.1)).sum
theorem Km:∀(l:List iO) (S:Vm×List Sp×Int),(∀x∈l,bF (x.2.2,x.2.1)=true)->Can S.2.1->dU l<=S.2.2->S.2.2<=5000 ->
  Can (l.foldl dK S).2.1/\S.2.2 - dU l<=(l.foldl dK S).2.2/\(l.foldl dK S).2.2<=5000
 | [],S,_,h1,_,h3=>⟨h1,by simp [dU],h3⟩
 | x::l,S,hv,h1,h2,h3=>by
  have hs:dU (x::l)=x.2.1+dU l:=by simp [dU]
  have hx:=hv x zs;have hp:∀l':List iO,(∀y∈l',bF (y.2.2,y.2.1)=true)->0<=dU l':=λl'=>by
   induction l' with
   | nil=>intro _;simp [dU]
   | cons y l' ih =>
    intro h;have:=(av.1 (h y zs)).2.2.1;have h2:=ih (λz hz=>h z (by simp [hz]));simp only [dU,List.map_cons,List.sum_cons] at h2 ⊢;simp only at this;omega
  have hl:=hp l (λy hy=>hv y (by simp [hy]));have h:=PQ (S:=S) (x:=x) hx h1 zo h3;have h':=Km l (dK S x) (λy hy=>hv y (by simp [hy])) h.1 zo h.2.2;refine ⟨h'.1,?_,h'.2.2⟩;have:=h'.2.1;simp only [List.foldl_cons];omega
theorem qH (a b:List iO):dU (a++b)=dU a+dU b:=by simp [dU]
theorem Xi (a:List iO):dU a.reverse=dU a:=by
 unfold dU;rw [List.map_reverse,List.sum_reverse]
theorem uE:∀l:List iO,(∀y∈l,bF (y.2.2,y.2.1)=true)->0<=dU l
 | [],_=>by simp [dU]
 | y::l,h=>by
  have h1:=(av.1 (h y zs)).2.2.1;have h2:=uE l (λz hz=>h z (by simp [hz]));have hs:dU (y::l)=y.2.1+dU l:=by simp [dU]
  simp only at h1;omega
theorem Kn {fv:Nat->Value}:∀{n:Nat} {x:IxV},x∈mV fv n->x.1<n/\x.2=fv x.1
 | 0,_,h=>by cases h
 | n+1,x,h=>by
  rcases List.mem_cons.1 h with rfl|h
  ·exact ⟨Nat.lt_succ_self _,rfl⟩
  ·have:=Kn h
   exact ⟨zo,this.2⟩
theorem Ac (fv:Nat->Value) (d:List iO):∀n,n<=d.length->(mV fv n).map (λx=>d.getD x.1 o9)=(d.take n).reverse
 | 0,_=>by simp [mV]
 | n+1,h=>by
  rw [mV,List.map_cons,Ac fv d n zo,nK o9 d zo,List.reverse_append];rfl
theorem NY {fv:Nat->Value} {d:List iO} {n:Nat} {pre:List IxV} {V:Vm} {K:List Sp} {m:Int} (hn:d.length=n) (hp:pre <+: mV fv n) (hv:∀x∈d,bF (x.2.2,x.2.1)=true) (hC:Can K) (hs:dU d<=m) (hm:m<=5000) :
  Can ((pre.map (λx=>d.getD x.1 o9)).foldl dK (V,K,m)).2.1/\0<=((pre.map (λx=>d.getD x.1 o9)).foldl dK (V,K,m)).2.2/\((pre.map (λx=>d.getD x.1 o9)).foldl dK (V,K,m)).2.2<=5000:=by
 have hr:=Ac fv d n zo;rw [List.take_of_length_le zo] at hr;have hq:=hp.map (λx:IxV=>d.getD x.1 o9);rw [hr] at hq;generalize pre.map (λx=>d.getD x.1 o9)=l at *;have hvl:∀x∈l,bF (x.2.2,x.2.1)=true:=λx hx=>hv x (List.mem_reverse.1 (hq.subset hx))
 obtain ⟨t,ht⟩:=hq;have h1:=Xi d;rw [<-ht,qH] at h1;have h2:=uE t (λx hx=>hv x (List.mem_reverse.1 (by rw [<-ht];exact List.mem_append_right _ hx)));have h:=Km l (V,K,m) hvl hC (by show dU l<=m;omega) hm;refine ⟨h.1,?_,h.2.2⟩;have:=h.2.1;simp only at this;omega
theorem Tv {s:List Sp} (hs:Can s):iL (λq=>mem q s) 1024 0=aG s:=CG hs
theorem uF {A B:List Sp} (hA:Can A) (hB:Can B) (k:Int):mem k (az A (aZ B (0,1024)))=(mem k A&&!mem k B):=by
 have hg:=hB.FV (i:=(0,1024)) zd;rw [hA.iI hg.1];cases h:mem k A with
 | false=>rfl
 | true =>
  have hr:=hA.range h;rw [Bool.true_and,Bool.true_and,Bool.eq_iff_iff,hg.2 k];simp;omega
theorem qo {A B:List Sp} (hA:Can A) (hB:Can B):Can (az A (aZ B (0,1024))):=hA.common (hB.FV (i:=(0,1024)) zd).1
theorem Ko {A B:List Sp} (hA:Can A) (hB:Can B) (k:Int):mem k (setOf (A++B))=(mem k A||mem k B):=by
 rw [Bool.eq_iff_iff,xK (λx hx=>by
  rcases List.mem_append.1 hx with h|h
  ·exact hA.1 x h
  ·exact hB.1 x h),mem_append]
theorem wX (a b k:Int):mem k (bJ a b)=(decide (a<=k)&&decide (k<b)):=by
 unfold bJ;by_cases h:b<=a
 ·rw [if_pos h,fT]
  symm;rw [Bool.eq_false_iff];intro hk;simp at hk;omega
 ·rw [if_neg h,Bool.eq_iff_iff,iY]
  simp;omega
theorem aaB {a b:Int} (ha:0<=a) (hb:b<=1024):Can (bJ a b):=by
 unfold bJ;split
 ·exact ⟨λx hx=>(by cases hx),rfl⟩
 ·exact Can.one (av.2 ⟨ha,by show a<1024;omega,by show 1<=b - a;omega,by show b - a<=1024 - a;omega⟩)
theorem aaC {pg n f bk ev:Int} (hp:dO pg n f bk ev) {k:Int} (h0:0<=k) (h1:k<aG (ay pg n f bk ev)):Fv 0 (ay pg n f bk ev) ((lS (ay pg n f bk ev) k).1,1,k):=by
 obtain ⟨m,rfl⟩:∃m:Nat,k=m:=⟨k.toNat,zo⟩;obtain ⟨h2,h3,h4,h5,h6,_⟩:=CF hp m h1;rw [h2];refine ⟨Int.le_refl _,h5,by show _+1<=1024;omega,h0,by show (m:Int)+1<=_;omega,λp a b=>?_,λp a b c=>?_⟩
 ·simp only at a b
  have e:p=mh (ay pg n f bk ev) m:=zo;subst e;rw [h3];exact ⟨h4,zs⟩
 ·simp only at b c ⊢
  have e:p=mh (ay pg n f bk ev) m:=Fw _ 0 p _ (mi hp) a h4 (by rw [h3];simp only;omega);omega
theorem Kq:∀(l:List iO),(∀x∈l,1<=x.2.1)->(l.length:Int)<=dU l
 | [],_=>by simp [dU]
 | x::l,h=>by
  have h1:=h x zs;have h2:=Kq l (λy hy=>h y (by simp [hy]));have e:dU (x::l)=x.2.1+dU l:=by simp [dU]
  simp only [List.length_cons];omega
theorem Tw {pg n f bk ev live tt:Int} {K:List Sp} (hp:dO pg n f bk ev) (hK:Can K) (h0:0<=live) (h1:tt<=aG (ay pg n f bk ev)) :
  dU (bW (az (bJ live tt) (aZ K (0,1024))) 0 (ay pg n f bk ev))=aG (az (bJ live tt) (aZ K (0,1024)))/\(bW (az (bJ live tt) (aZ K (0,1024))) 0 (ay pg n f bk ev)).length<=1024 /\
   0<=aG (az (bJ live tt) (aZ K (0,1024)))/\aG (az (bJ live tt) (aZ K (0,1024)))<=1024:=by
 have hs:=(lL hp).2;have hcb:Can (bJ live tt):=aaB h0 zo;have hc:=qo hcb hK;have hlen:=Kh hc hp (λk hk=>by
  rw [uF hcb hK,wX,Bool.and_eq_true] at hk;have:=hk.1;simp at this;omega)
 have hcount:=Tv hc;have hnn:=rq (ql hc.1);have h24:=(Gh (λq=>mem q (az (bJ live tt) (aZ K (0,1024)))) 1024 0).2;have hl:=Kq _ (λx hx=>((Dh hc hp).1 x hx).1.pos);have e:dU (bW (az (bJ live tt) (aZ K (0,1024))) 0 (ay pg n f bk ev))=aG (az (bJ live tt) (aZ K (0,1024))):=hlen;exact ⟨e,zo,hnn,zo⟩
end Go.Pol
namespace Go.Proofs.YtlgcpjhimomiaaaGreat
open Go Go.Proofs Go.RowKit Go.Pol Go.Shelf Tryz
attribute [local go_sem] Oper.semAt_some aC au aB ai
theorem GG (v s:Value) (r:Cr) (w:World) (hv:v= .agg (aj r s)) (A:Option Addr) (n cap:Nat) :
  Calls prog 73 #[v,.slice A n cap] w λe w'=>e= .returned (.func (.func 145) #[] #[zP w.heap.size,zP (w.heap.size+1)]) /\
   w'=(w.alloc (.cells (aj r s) 28)).alloc (.cells #[.slice A n cap] 26):=by
 subst hv;dsimp only [aj];go_enter func73,ntmps73
 go_wp2
 go_ret;exact ⟨zs,rfl⟩
theorem yB:∀args w,(callFunc 145 args).run prog w= .ok (.enter 145 args) w:=enters_of func145 zk rfl
theorem Ed (pg n f b ev:Int) (w:World) (hc:bQ pg n f b ev=0) :
  Calls prog 55 #[ek pg n f b ev] w (o7 w (ay pg n f b ev) 0):=by
 have HC:=ae (λW=>vg pg n f b ev W);have hb0:=aQ w (.cells (bg pg n f b ev) 25);have k0:=af.new w 25 (bg pg n f b ev);have c0:=k0.cell;have hp:=bR.1 hc;rw [hc] at HC;have HR:=ae (λW=>AP pg n f b ev W);go_enter func55,ntmps55
 go_wp2_with (first
  | (go_at_call 86;refine (HC.out _).mono ?_;rintro e w1 ⟨rfl,hq⟩;have k1:=k0.call hq;have c1:=k1.cell;have hb1:=hb0.zt hq)
  | (go_at_call 87;refine (HR.out _).mono ?_;rintro e w2 ⟨rfl,rfl⟩;have HS:=ae (Cw pg n f b ev w1.heap.size _ hp (af.new w1 25 (bg pg n f b ev))))
  | (go_at_call 129;refine (sw _ _ _ _ _ _ (Cx hp) HS.out sD (λ_ h=>h.elim) (λk h=>by subst h;simp)).mono ?_;rintro e w3 ⟨v,rfl,hown,_,hf⟩;obtain ⟨A,cap,rfl,dR,h1,h2⟩:=KeptAt.own hown rfl))
 have hb2:=hb1.alloc hb1.size (.cells (bg pg n f b ev) 25);have hb3:=hf.below (n:=w.heap.size) (Nat.le_trans hb1.size zs) (λ_ _ h=>h);go_ret2;exact ⟨A,cap,rfl,dR,h1,h2,hb2.trans hb3⟩
theorem W9 (A1 A2:Option Addr) (n1 c1 n2 c2:Nat) (us vs:List Sp) (w:World) (hn1:us.length=n1) (hm1:n1<=c1) (hc1:c1<=maxLen) (hr1:RU w w.heap.size A1 us) (hn2:vs.length=n2) (hm2:n2<=c2) (hc2:c2<=maxLen) (hr2:RU w w.heap.size A2 vs) (hU:Go.Pol.Can us) (hV:Go.Pol.Can vs) :
  Calls prog 146 #[.slice A1 n1 c1,.slice A2 n2 c2] w (o7 w (az us vs) 0):=by
 have hb0:=aQ w (.cells #[.slice A1 n1 c1,.slice A2 n2 c2] 26);have k0:=af.new w 26 #[.slice A1 n1 c1,.slice A2 n2 c2];have r1:=hr1.on (aQ w (.cells #[.slice A1 n1 c1,.slice A2 n2 c2] 26));have r2:=hr2.on (aQ w (.cells #[.slice A1 n1 c1,.slice A2 n2 c2] 26));have HC:=ae (zf A1 A2 n1 c1 n2 c2 us vs w.heap.size _ hn1 (Nat.le_trans hm1 hc1) r1 hn2 (Nat.le_trans hm2 hc2) r2 k0);clear hr1 hr2;rw [bI.2 hU,bI.2 hV,if_pos rfl] at HC;have hlen:=DI us vs;have hl1:=hU.len;have hl2:=hV.len;go_enter func146,ntmps146;go_wp2_with fail;refine HC.out.zr λw1 hb1=>?_
 have B1:=hb0.zt hb1;have r3:=r1.on hb1;have r4:=r2.on hb1;clear HC k0 r1 r2 hb1 hb0;have kX:af ((w1.alloc (.cells #[.slice A1 n1 c1] 26)).alloc (.cells #[.slice A2 n2 c2] 26)) w1.heap.size 26 #[.slice A1 n1 c1]:=(af.new _ _ _).alloc _;have kY:af ((w1.alloc (.cells #[.slice A1 n1 c1] 26)).alloc (.cells #[.slice A2 n2 c2] 26)) (w1.heap.size+1) 26 #[.slice A2 n2 c2]:=by
  have:=af.new (w1.alloc (.cells #[.slice A1 n1 c1] 26)) 26 #[.slice A2 n2 c2];rw [World.size_alloc] at this;exact this
 have hbX:Below w1.heap.size w1 ((w1.alloc (.cells #[.slice A1 n1 c1] 26)).alloc (.cells #[.slice A2 n2 c2] 26)):=(aQ w1 _).alloc zs _;have LA:Left _ w1.heap.size (λk=>k<w1.heap.size+2) w1.heap.size (w1.heap.size+1) A1 n1 c1 us:=⟨hn1,hm1,by unfold maxLen at hc1;omega,r3.below hbX,λh b o e=>by have:=EN r3 h e;exact ⟨zo,zo,zo⟩,hU.1⟩;have LB:Left _ w1.heap.size (λk=>k<w1.heap.size+2) w1.heap.size (w1.heap.size+1) A2 n2 c2 vs:=⟨hn2,hm2,by unfold maxLen at hc2;omega,r4.below hbX,λh b o e=>by have:=EN r4 h e;exact ⟨zo,zo,zo⟩,hV.1⟩;have HS:=ae (xD A1 A2 n1 c1 n2 c2 us vs w1.heap.size (w1.heap.size+1) w1.heap.size (λk=>k<w1.heap.size+2) _ zs zs zo kX kY LA LB);clear LA LB kX kY r3 r4;generalize az us vs=L at *;have hlL:L.length<=1000000:=zo
 go_wp2_with (first
  | (go_at_call 141;refine (ze A1 A2 n1 c1 n2 c2 w1).mono ?_;rintro e w2 ⟨rfl,rfl⟩)
  | (go_at_call 129;refine (sw _ _ _ _ _ _ hlL HS.out tO (λk h=>by rcases h with rfl|rfl <;> (rw [World.size_alloc,World.size_alloc];omega)) (λk h=>by simp;omega)).mono ?_;rintro e w3 ⟨v,rfl,hown,_,hf⟩;obtain ⟨A,cap,rfl,dR,h1,h2⟩:=KeptAt.own hown rfl))
 have B2:=B1.zt hbX;have B3:=hf.below (n:=w.heap.size) (by have:=B2.size;exact this) (λk hk h=>by have:=B1.size;rcases h with rfl|rfl <;> omega);go_ret2;exact ⟨A,cap,rfl,dR,h1,h2,B2.trans B3⟩
theorem Ee (r:Cr) (sv:Value) (B1 B2:Nat) (As:Option Addr) (ns cs:Nat) (S:List Sp) (K:Nat->Prop) (w:World) (hp:dO r.pg r.n r.f r.bk r.ev) (hS:Go.Pol.Can S) (hns:S.length=ns) (hms:ns<=cs) (hcs:cs<=maxLen)
  (hK1:K B1) (hK2:K B2) (hKs:S≠[]->∀g o,As=some ⟨g,o,none⟩->K g) (k1:af w B1 28 (aj r sv)) (k2:af w B2 26 #[.slice As ns cs]) (hr:RU w w.heap.size As S) :
  Y8 prog 85 145 #[zP B1,zP B2] SQ K (bW S 0 (ay r.pg r.n r.f r.bk r.ev)) w:=by
 intro m l J Jx W hW hJ hJx hY h0;have hkg:∀{A B:World} {X:Nat->Prop},ag (λk=>¬(K k\/X k)) A B->RU A A.heap.size As S->RU B B.heap.size As S:=λ{A B X} hF h=>by
  by_cases hn:S=[]
  ·subst hn;exact RU.nil
  ·exact (h.Y7 hF (λg o e hg=>hg (.inl (hKs hn g o e)))).more hF.size
 have Xa:=hW.blk k1 (by simpa using hK1);have k2W:=hW.blk k2 (by simpa using hK2);have L8:=hkg (X:=λ_=>False) (hW.mono (λk _ h hk=>hk.elim h id)) hr;have HU:=ae (λW=>Ed r.pg r.n r.f r.bk r.ev W (bR.2 hp));have HZ:=bN hp;have amF:=(lL hp).2;have aqg:=Ri hp;have aek:=Cx hp;clear hp;obtain ⟨pg,n,f,bk,ev,node,live,Kp,cl⟩:=r;simp only at Xa k1 HU HZ amF aqg aek hY ⊢;generalize ay pg n f bk ev=us at *;obtain ⟨nu,ael⟩:=ah (us.length);rw [ael] at aek;have hnu:=ae ael;clear k1 k2 hW hr ael;refine callsIn_of_wp func145 rfl trivial ?_ rfl;simp only [ntmps145,List.size_toArray,List.length_cons,List.length_nil,Nat.reduceAdd,Nat.reduceSub,Array.replicate_succ,Array.replicate_zero,List.push_toArray,List.append_toArray,List.nil_append,List.cons_append];have c1:=Xa.cell;dsimp only [aj] at c1
 gi_wp2_with fail
 refine (callsIn_wide.2 (HU.out _)).mono ?_;unfold o7;rw [hnu.out];rintro e w1 ⟨Au,cu,rfl,dR,hmu,Cz,hb1⟩;have EJ:=ae (hJ _ _ _ h0 hb1);have SY:=k2W.call hb1;have hr1:=L8.on hb1;clear c1 Xa L8 h0 HU
 gi_wp2_with fail
 gi_loopw [6,21] (λv i wr=>∃k:Nat,k<=nu/\v = zI (aG (us.take k))/\i = zI k/\W.heap.size<=wr.heap.size/\Hid (J (bW S 0 (us.take k)) wr)/\af wr B2 26 #[.slice As ns cs]/\RU wr wr.heap.size As S/\KeptAt wr Au us) (λ_ i _=>nu - (intOf i).toNat)
 case atStart=>exact ⟨0,zo,by simp [aG],rfl,hb1.size,by simpa [bW] using EJ,SY,hr1,dR⟩
 case round =>
  clear EJ SY hr1 dR hb1;obtain ⟨k,hk,rfl,rfl,hwz,hJs,k2,hrs,dR⟩:=hrel;by_cases hlt:k<nu
  ·have hlt':decide ((k:Int)<(nu:Int))=true:=by simpa using hlt
   have Bt:k<us.length:=by rw [hnu.out];exact hlt
   obtain ⟨b,o,rfl,hbl,hc,hd⟩:=RU.at_' dR.ru (k:=k) Bt;have kK:=av.1 (HZ.1 (us.getD k (0,0)) (by rw [List.getD_eq_getElem?_getD,List.getElem?_eq_getElem Bt];simp));have hst:=ae (SS S us Bt);have hsm:=ae (SX us Bt);have hs1:=BU us HZ.1 k;have hs2:=BU us HZ.1 (k+1);have Ta:=hsm.out;have hpf:=ae (WZ S us (k+1));generalize us.getD k (0,0)=x at *;obtain ⟨xa,xb⟩:=x;dsimp only at hc hd kK hst hsm Ta;obtain ⟨M,hM⟩:=ah (aG (us.take k));rw [hM] at hst hsm hs1 Ta ⊢;have hM1:0<=M/\M+xb<=1024:=zo;have xN:bF (M,xb)=true:=av.2 ⟨by show 0<=M;omega,by show M<1024;omega,by show 1<=xb;omega,by show xb<=1024 - M;omega⟩;have HM:=ae (λW A2 h h2=>W9 As A2 ns cs 1 1 S [(M,xb)] W hns hms hcs h rfl (Nat.le_refl _) (by unfold maxLen;omega) h2 hS (Can.one xN));have hIc:=Can.common hS (Can.one xN);have hIl:=hIc.len;have hIv:=ae hIc.1;obtain ⟨L0,hL0⟩:=ah (bW S 0 (us.take k));rw [hL0] at hst hJs;clear hIc xN hs1 hs2 Ta hL0 hM;generalize az S [(M,xb)]=I at *;obtain ⟨ni,aem⟩:=ah (I.length);rw [aem] at hIl;have hni:=ae aem;have kX:=af.new wr 85 #[zI xa,zI xb];have gN:=aQ wr (.cells #[zI xa,zI xb] 85);have SY:=k2.call gN;have Td:=hrs.on gN;have Te:=dR.call gN;obtain ⟨bx,hbx⟩:=ah (wr.heap.size);rw [hbx] at kX;clear aem hbl
   gi_upto_region 5 with fail
   clear hc hd;generalize wr.alloc _=wa at *;obtain ⟨ca,c2a⟩:=bB kX SY;have hbS:=aQ wa (.cells #[zI M,zI xb] 85);have kS:=af.new wa 85 #[zI M,zI xb];have WW:=ae (HM.out _ _ (Td.on hbS) (Iq kS))
   gi_wp2_with fail
   refine (callsIn_wide.2 WW.out).mono ?_;unfold o7;rw [hni.out];rintro e w3 ⟨Ai,ci,rfl,vQ,hmi,hci,hb3⟩;have Tf:=hbS.zt hb3;have ajH:=gN.zt Tf;have hJ3:=ae (hJ _ _ _ hJs.out ajH);obtain ⟨k23,ER⟩:=bY Tf SY kX;have ajI:=Td.on Tf;have vz:=Te.call Tf;have zu:=Nat.le_trans hwz ajH.size;clear HM WW hbS kS hb3 Tf gN SY Td Te kX hJs k2 hrs dR hwz ca c2a
   gi_wp2_with fail
   gi_loopw [37] (λi wr=>∃j:Nat,j<=ni/\i = zI j/\W.heap.size<=wr.heap.size/\Hid (J (L0++(I.take j).map (z8 xa M)) wr)/\af wr B2 26 #[.slice As ns cs]/\RU wr wr.heap.size As S/\KeptAt wr (some ⟨b,o,none⟩) us/\KeptAt wr Ai I/\af wr bx 85 #[zI xa,zI xb]) (λi _=>ni - (intOf i).toNat)
   case atStart=>exact ⟨0,zo,rfl,zu,by simpa using hJ3,k23,ajI,vz,vQ,ER⟩
   case round =>
    clear hJ3 k23 ajI vz vQ ER zu;obtain ⟨j,hj,rfl,hwz,hJs,k2,hrs,dR,vQ,kX⟩:=hrel;by_cases hlt2:j<ni
    ·have Jd:decide ((j:Int)<(ni:Int))=true:=by simpa using hlt2
     have hju:j<I.length:=by rw [hni.out];exact hlt2
     have hIn:I≠[]:=λh=>by subst h;simp at hju
     obtain ⟨bi,oi,rfl,_,hc,hd⟩:=RU.at_' vQ.ru (k:=j) hju;have hvy:=av.1 (hIv.out (I.getD j (0,0)) (by rw [List.getD_eq_getElem?_getD,List.getElem?_eq_getElem hju];simp));have htk:Hid ((I.take (j+1)).map (z8 xa M)=(I.take j).map (z8 xa M)++[z8 xa M (I.getD j (0,0))]):=ae (by rw [nK (0,0) I hju,List.map_append];rfl);generalize I.getD j (0,0)=y at *;obtain ⟨ya,yb⟩:=y;dsimp only at hc hd hvy;have hw1:IntKind.i64.wrap (xa+ya)=xa+ya:=by rw [IntKind.wrap_i64];omega
     have hw2:IntKind.i64.wrap (xa+ya - M)=xa+ya - M:=by rw [IntKind.wrap_i64];omega
     have hpre:Hid ((L0++(I.take j).map (z8 xa M))++[z8 xa M (ya,yb)] <+: bW S 0 us):=ae (by
      refine List.IsPrefix.trans ?_ hpf.out;rw [hst.out,List.append_assoc,<-htk.out];exact (List.prefix_append_right_inj _).2 ((List.take_prefix _ _).map _))
     have gN:=aQ wr (.cells #[zI ya,zI yb] 85);have kY:=af.new wr 85 #[zI ya,zI yb];have hJ2:=hJ _ _ _ hJs.out gN;obtain ⟨SY,kXa⟩:=bY gN k2 kX;have Td:=hrs.on gN;obtain ⟨Te,ajJ⟩:=bY gN dR vQ;have axj:=Nat.le_trans hwz gN.size;obtain ⟨gy,hgy⟩:=ah (wr.heap.size);rw [hgy] at kY;obtain ⟨cXa,cYa⟩:=bB kXa kY
     gi_upto_region 9 with fail
     clear hc hd;generalize wr.alloc _=wa at *;have hun:us≠[]:=λh=>by subst h;simp at Bt
     obtain ⟨fn,tmps,assign,body,hy,qc⟩:=hY (m - 1) (λq=>q=b\/q=bx\/q=bi) _ (z8 xa M (ya,yb)) wa hJ2 (λq hq=>by
      rcases hq with rfl|rfl|rfl
      ·exact Te.block hun rfl
      ·exact ⟨_,kXa⟩
      ·exact ajJ.block hIn rfl) hpre.out
     simp only [SQ,qX,z8] at hy;clear hY hJ2 k2 kX hrs dR vQ hwz gN hJs hJx
     gi_wp2_with fail
     refine qc.mono ?_;rintro e W4 (⟨rfl,DF,fQ⟩|⟨rfl,BI⟩)
     ·have hs4:=fQ.size
      have k24:=fQ.blk SY (λh=>h (.inl hK2));have kX4:=fQ.blk kXa (λh=>h (.inr (.inr (.inl rfl))));have aqh:=hkg fQ Td;have Tg:=Te.ajG fQ (λ_ g o e h=>by cases e;exact h (.inr (.inl rfl)));have aqi:=ajJ.ajG fQ (λ_ g o e h=>by cases e;exact h (.inr (.inr (.inr rfl))))
      gi_wp2_with fail
      go_roundw
      case rel=>exact ⟨j+1,zo,by go_num,zo,ae (by rw [htk.out,<-List.append_assoc];exact DF),k24,aqh,Tg,aqi,kX4⟩
      case measure=>exact zm
     ·gi_wp2_with fail
      refine bodyPost_ret (results_none rfl _ _ _) rfl ?_;exact ⟨⟨_,rfl⟩,.inr ⟨_,hpre.out,BI⟩⟩
    ·obtain rfl:j=ni:=zo
     have Jd:decide ((j:Int)<(j:Int))=false:=by simp
     have hE:Hid (L0++(I.take j).map (z8 xa M)=bW S 0 (us.take (k+1))):=ae (by rw [hst.out,List.take_of_length_le (by rw [hni.out];omega)]);have cX:=kX.cell;have hw1:IntKind.i64.wrap (M+xb)=M+xb:=by rw [IntKind.wrap_i64];omega
     gi_wp2_with fail
     go_roundw
     case rel=>exact ⟨k+1,zo,by rw [hsm.out],by go_num,hwz,ae (by rw [<-hE.out];exact hJs.out),k2,hrs,dR⟩
     case measure=>exact zm
  ·obtain rfl:k=nu:=zo
   have hlt':decide ((k:Int)<(k:Int))=false:=by simp
   have hE:Hid (us.take k=us):=ae (List.take_of_length_le (by rw [hnu.out];omega))
   gi_wp2_with fail
   go_end0
   exact ⟨⟨_,rfl⟩,.inl (by have:=hJs.out;rw [hE.out] at this;exact this)⟩
def lg (V:Vm) (pg n f bk ev node:Int):Cr×Int×Vm :=
 let r:Cr:=⟨pg,n,f,bk,ev,node,0,[],false⟩
 if bq r≠0 then (bD,bq r,V)
 else
  let J:=bK V pg n 0 0 1
  if J.1≠0 then (bD,J.1,J.2)
  else
   let P:=jL J.2 (bQ pg n f bk ev) (eY pg n f bk ev)
   if P.2.1=0 then (r,0,P.2.2)
   else if P.1.length=0 then
    let E:=bK P.2.2 pg n 1 1 0
    if E.1=0 then (bD,P.2.1,E.2) else ({ r with cl:=true },P.2.1,E.2)
   else ({ r with cl:=true },P.2.1,P.2.2)
theorem GH (bs:Nat) (V:Vm) (pg n f bk ev node:Int) (w:World) (hV:aA w bs V) (uS:aO V) :
  Calls prog 16 #[zP bs,ek pg n f bk ev,zI node] w λe w'=>∃v,e= .returned (.tuple #[v,zI (lg V pg n f bk ev node).2.1])/\Dc (lg V pg n f bk ev node).1 w' v/\dw bs (lg V pg n f bk ev node).2.2 w w':=by
 have HC:=ae (λW (h:aA W bs V)=>Eb bs V W h uS);have HK:=ae (λW=>o6 ⟨pg,n,f,bk,ev,node,0,[],false⟩ none 0 W (Nat.le_refl _) (by unfold maxLen;omega) RU.nil);obtain ⟨R,hR⟩:=ah (lg V pg n f bk ev node);rw [hR];unfold lg at hR;simp only at hR;generalize bq ⟨pg,n,f,bk,ev,node,0,[],false⟩=ck at *;have hb0:=below_alloc2 (aQ w (.cells (bg pg n f bk ev) 25)) (.cells (aj bD zN) 28);have k0:=(af.new w 25 (bg pg n f bk ev)).dV (.cells (aj bD zN) 28);have kR:=af.oG w (.cells (bg pg n f bk ev) 25) 28 (aj bD zN);dsimp only [aj,bD,bg,List.length_nil] at k0 hb0 kR HK ⊢;unfold ek;by_cases h0:ck=0
 case neg =>
  have h0':=gJ h0;rw [if_pos h0] at hR;subst hR;clear h0;go_enter func16,ntmps16;go_wp2_with fail;refine (HC.out _ (hV.call hb0)).mono ?_;rintro e w1 ⟨n1,n2,n3,n4,n5,rfl,hb1⟩;obtain ⟨k1,aT⟩:=bY hb1 k0 kR;have B1:=hb0.zt hb1;have hbX:=below_alloc2 (aQ w1 (.cells #[zI n1,zI n2,zI n3,zI n4,zI n5] 77)) (.cells (aj ⟨pg,n,f,bk,ev,node,0,[],false⟩ zN) 28);have kr:=af.oG w1 (.cells #[zI n1,zI n2,zI n3,zI n4,zI n5] 77) 28 (aj ⟨pg,n,f,bk,ev,node,0,[],false⟩ zN);dsimp only [aj] at hbX kr;obtain ⟨gx,hgx⟩:=ah (w1.heap.size);rw [hgx] at kr;obtain ⟨kX,qW⟩:=bY hbX k1 aT;have BX:=B1.zt hbX;have c1:=(k1.dV (.cells #[zI n1,zI n2,zI n3,zI n4,zI n5] 77)).cell;have Xb:w.heap.size+2<=w1.heap.size:=aT.lt;clear HC k0 kR hb0 hb1;go_upto_region 5 with fail
  generalize (w1.alloc _).alloc _=wx at *;have J9:=kr.cell;go_wp2_with fail;refine (HK.out _).zr λw2 hb2=>?_
  obtain ⟨k2,cK,De⟩:=mY hb2 kX qW kr;have B2:=BX.zt hb2;obtain ⟨c2,sM⟩:=bB k2 cK;have sN:=cK.frozen;clear HK k1 aT B1 hbX kr kX qW BX c1 J9 hb2;go_wp2_with fail;change bodyPost _ _ _ _ _ (aP w2 (w.heap.size+1) bD zN);have aX:=aK cK bD zN;have F9:=aL w2 (w.heap.size+1) bD zN;have B9:=dG B2 (g:=(w.heap.size+1)) zo bD zN;generalize aP w2 (w.heap.size+1) bD zN=w9 at *;dsimp only [aj] at aX;have di:=aX.cell;refine bodyPost_ret (v:=.tuple #[.agg (aj bD zN),zI ck]) (by simp [results,results16,go_sem,di,aj]) rfl ?_;exact ⟨_,rfl,⟨none,0,rfl,Nat.le_refl _,by unfold maxLen;omega,KeptAt.none _ _⟩,.below hV B9⟩
 subst h0;rw [if_neg zs] at hR;have HV:=ae (λW h=>O8 bs pg n V W h);have hKJ:=ae (uS.bK pg n 0 0 (tk:=1) zo);obtain ⟨J,hJ⟩:=ah (bK V pg n 0 0 1);rw [hJ] at hR HV hKJ;obtain ⟨je,jV⟩:=J;simp only at hR HV hKJ;clear hJ;by_cases h1:je=0
 case neg =>
  have h1':=gJ h1;rw [if_pos h1] at hR;subst hR;clear h1;go_enter func16,ntmps16;go_wp2_with fail;refine (HC.out _ (hV.call hb0)).mono ?_;rintro e w1 ⟨n1,n2,n3,n4,n5,rfl,hb1⟩;obtain ⟨k1,aT⟩:=bY hb1 k0 kR;have B1:=hb0.zt hb1;have hbX:=below_alloc2 (aQ w1 (.cells #[zI n1,zI n2,zI n3,zI n4,zI n5] 77)) (.cells (aj ⟨pg,n,f,bk,ev,node,0,[],false⟩ zN) 28);have kr:=af.oG w1 (.cells #[zI n1,zI n2,zI n3,zI n4,zI n5] 77) 28 (aj ⟨pg,n,f,bk,ev,node,0,[],false⟩ zN);dsimp only [aj] at hbX kr;obtain ⟨gx,hgx⟩:=ah (w1.heap.size);rw [hgx] at kr;obtain ⟨kX,qW⟩:=bY hbX k1 aT;have BX:=B1.zt hbX;have c1:=(k1.dV (.cells #[zI n1,zI n2,zI n3,zI n4,zI n5] 77)).cell;have Xb:w.heap.size+2<=w1.heap.size:=aT.lt;clear HC k0 kR hb0 hb1;go_upto_region 5 with fail
  generalize (w1.alloc _).alloc _=wx at *;have J9:=kr.cell;go_wp2_with fail;refine (HK.out _).zr λw2 hb2=>?_
  obtain ⟨k2,cK,De⟩:=mY hb2 kX qW kr;have B2:=BX.zt hb2;obtain ⟨c2,sM⟩:=bB k2 cK;have sN:=cK.frozen;clear HK k1 aT B1 hbX kr kX qW BX c1 J9 hb2;go_wp2_with fail;refine (HV.out _ (hV.call B2)).zr λw3 pz=>?_
  have T3:=(dw.below hV B2).trans pz;have k3:=pz.blk (hV.call B2) k2 zd;have fC:=pz.blk (hV.call B2) cK zd;have H8:=pz.blk (hV.call B2) De zd;obtain ⟨c3,H9⟩:=bB k3 fC;have Ia:=fC.frozen;clear HV k2 cK De B2 c2 sM sN pz;go_wp2_with fail;change bodyPost _ _ _ _ _ (aP w3 (w.heap.size+1) bD zN);have aX:=aK fC bD zN;have F9:=aL w3 (w.heap.size+1) bD zN;generalize aP w3 (w.heap.size+1) bD zN=w9 at *;dsimp only [aj] at aX;have di:=aX.cell;refine bodyPost_ret (v:=.tuple #[.agg (aj bD zN),zI je]) (by simp [results,results16,go_sem,di,aj]) rfl ?_;exact ⟨_,rfl,⟨none,0,rfl,Nat.le_refl _,by unfold maxLen;omega,KeptAt.none _ _⟩,T3.fresh F9 (λk hk=>by subst hk;omega) (λk hk=>by subst hk;exact ⟨_,_,fC,zd,zd⟩)⟩
 subst h1;rw [if_neg zs] at hR;have HP:=ae (λW h=>SC bs pg n f bk ev jV W h hKJ.out (D8 _ _ _ _ _));obtain ⟨Q,hQ⟩:=ah (jL jV (bQ pg n f bk ev) (eY pg n f bk ev));rw [hQ] at hR HP;obtain ⟨sl,pe,pV⟩:=Q;unfold Su at HP;simp only at hR HP;clear hQ;by_cases h2:pe=0
 case pos =>
  subst h2;rw [if_pos rfl] at hR;subst hR;go_enter func16,ntmps16;go_wp2_with fail;refine (HC.out _ (hV.call hb0)).mono ?_;rintro e w1 ⟨n1,n2,n3,n4,n5,rfl,hb1⟩;obtain ⟨k1,aT⟩:=bY hb1 k0 kR;have B1:=hb0.zt hb1;have hbX:=below_alloc2 (aQ w1 (.cells #[zI n1,zI n2,zI n3,zI n4,zI n5] 77)) (.cells (aj ⟨pg,n,f,bk,ev,node,0,[],false⟩ zN) 28);have kr:=af.oG w1 (.cells #[zI n1,zI n2,zI n3,zI n4,zI n5] 77) 28 (aj ⟨pg,n,f,bk,ev,node,0,[],false⟩ zN);dsimp only [aj] at hbX kr;obtain ⟨gx,hgx⟩:=ah (w1.heap.size);rw [hgx] at kr;obtain ⟨kX,qW⟩:=bY hbX k1 aT;have BX:=B1.zt hbX;have c1:=(k1.dV (.cells #[zI n1,zI n2,zI n3,zI n4,zI n5] 77)).cell;have Xb:w.heap.size+2<=w1.heap.size:=aT.lt;clear HC k0 kR hb0 hb1;go_upto_region 5 with fail
  generalize (w1.alloc _).alloc _=wx at *;have J9:=kr.cell;go_wp2_with fail;refine (HK.out _).zr λw2 hb2=>?_
  obtain ⟨k2,cK,De⟩:=mY hb2 kX qW kr;have B2:=BX.zt hb2;obtain ⟨c2,sM⟩:=bB k2 cK;have sN:=cK.frozen;clear HK k1 aT B1 hbX kr kX qW BX c1 J9 hb2;go_wp2_with fail;refine (HV.out _ (hV.call B2)).zr λw3 pz=>?_
  have T3:=(dw.below hV B2).trans pz;have k3:=pz.blk (hV.call B2) k2 zd;have fC:=pz.blk (hV.call B2) cK zd;have H8:=pz.blk (hV.call B2) De zd;obtain ⟨c3,H9⟩:=bB k3 fC;have Ia:=fC.frozen;clear HV k2 cK De B2 c2 sM sN pz;go_wp2_with fail;refine (HP.out _ T3.1).mono ?_;rintro e w4 ⟨Ap,cp,rfl,_,_,hpl,Ka,Kb⟩;have qY:dw bs pV w3 w4:=⟨Ka,Kb⟩;have T4:=T3.trans qY;have k4:=qY.blk T3.1 k3 zd;have dX:=qY.blk T3.1 fC zd;have Ef:=qY.blk T3.1 H8 zd;obtain ⟨c4,ME,c4r⟩:=mM k4 dX Ef;have MF:=dX.frozen;clear HP k3 fC H8 c3 H9 Ia Ka Kb;go_wp2_with fail;change bodyPost _ _ _ _ _ (aP w4 (w.heap.size+1) ⟨pg,n,f,bk,ev,node,0,[],false⟩ (.slice none 0 0));have aX:=aK dX ⟨pg,n,f,bk,ev,node,0,[],false⟩ (.slice none 0 0);have F9:=aL w4 (w.heap.size+1) ⟨pg,n,f,bk,ev,node,0,[],false⟩ (.slice none 0 0);generalize aP w4 (w.heap.size+1) ⟨pg,n,f,bk,ev,node,0,[],false⟩ (.slice none 0 0)=w9 at *;dsimp only [aj] at aX;have di:=aX.cell;refine bodyPost_ret (v:=.tuple #[.agg (aj ⟨pg,n,f,bk,ev,node,0,[],false⟩ (.slice none 0 0)),zI 0]) (by simp [results,results16,go_sem,di,aj]) rfl ?_;exact ⟨_,rfl,⟨none,0,rfl,Nat.le_refl _,by unfold maxLen;omega,KeptAt.none _ _⟩,T4.fresh F9 (λk hk=>by subst hk;omega) (λk hk=>by subst hk;exact ⟨_,_,dX,zd,zd⟩)⟩
 have h2':=lV h2;rw [if_neg h2] at hR;obtain ⟨sn,hsn⟩:=ah (sl.length);rw [hsn] at hR HP;by_cases h3:sn=0
 case neg =>
  have h3':((sn:Int)==0)=false:=by simpa using h3
  rw [if_neg h3] at hR;subst hR;clear h2 h3;go_enter func16,ntmps16;go_wp2_with fail;refine (HC.out _ (hV.call hb0)).mono ?_;rintro e w1 ⟨n1,n2,n3,n4,n5,rfl,hb1⟩;obtain ⟨k1,aT⟩:=bY hb1 k0 kR;have B1:=hb0.zt hb1;have hbX:=below_alloc2 (aQ w1 (.cells #[zI n1,zI n2,zI n3,zI n4,zI n5] 77)) (.cells (aj ⟨pg,n,f,bk,ev,node,0,[],false⟩ zN) 28);have kr:=af.oG w1 (.cells #[zI n1,zI n2,zI n3,zI n4,zI n5] 77) 28 (aj ⟨pg,n,f,bk,ev,node,0,[],false⟩ zN);dsimp only [aj] at hbX kr;obtain ⟨gx,hgx⟩:=ah (w1.heap.size);rw [hgx] at kr;obtain ⟨kX,qW⟩:=bY hbX k1 aT;have BX:=B1.zt hbX;have c1:=(k1.dV (.cells #[zI n1,zI n2,zI n3,zI n4,zI n5] 77)).cell;have Xb:w.heap.size+2<=w1.heap.size:=aT.lt;clear HC k0 kR hb0 hb1;go_upto_region 5 with fail
  generalize (w1.alloc _).alloc _=wx at *;have J9:=kr.cell;go_wp2_with fail;refine (HK.out _).zr λw2 hb2=>?_
  obtain ⟨k2,cK,De⟩:=mY hb2 kX qW kr;have B2:=BX.zt hb2;obtain ⟨c2,sM⟩:=bB k2 cK;have sN:=cK.frozen;clear HK k1 aT B1 hbX kr kX qW BX c1 J9 hb2;go_wp2_with fail;refine (HV.out _ (hV.call B2)).zr λw3 pz=>?_
  have T3:=(dw.below hV B2).trans pz;have k3:=pz.blk (hV.call B2) k2 zd;have fC:=pz.blk (hV.call B2) cK zd;have H8:=pz.blk (hV.call B2) De zd;obtain ⟨c3,H9⟩:=bB k3 fC;have Ia:=fC.frozen;clear HV k2 cK De B2 c2 sM sN pz;go_wp2_with fail;refine (HP.out _ T3.1).mono ?_;rintro e w4 ⟨Ap,cp,rfl,_,_,hpl,Ka,Kb⟩;have qY:dw bs pV w3 w4:=⟨Ka,Kb⟩;have T4:=T3.trans qY;have k4:=qY.blk T3.1 k3 zd;have dX:=qY.blk T3.1 fC zd;have Ef:=qY.blk T3.1 H8 zd;obtain ⟨c4,ME,c4r⟩:=mM k4 dX Ef;have MF:=dX.frozen;clear HP k3 fC H8 c3 H9 Ia Ka Kb;have f4r:=Ef.frozen;go_upto_region 17 with fail
  have hgw:w.heap.size+1≠gx+1:=by rw [<-hgx];have:=Xb;omega
  have kr5:=(Ef).aM 8 (.bool true);have nA:=(dX).far (p:=⟨gx+1,8,none⟩) (by show w.heap.size+1≠gx+1;exact hgw) (.bool true);have F5:=(ag.refl (λk=>k=gx+1\/k=w.heap.size+1) w4).setCell (p:=⟨gx+1,8,none⟩) (λ_=>.inl rfl) (.bool true);generalize (w4).setCell ⟨gx+1,8,none⟩ (.bool true)=w5 at *;simp only [List.setIfInBounds_toArray,List.set_cons_zero,List.set_cons_succ] at kr5;obtain ⟨c5,aqj⟩:=bB kr5 nA;have aqk:=nA.frozen;go_wp2_with fail;change bodyPost _ _ _ _ _ (aP w5 (w.heap.size+1) ⟨pg,n,f,bk,ev,node,0,[],true⟩ (.slice none 0 0));have aX:=aK nA ⟨pg,n,f,bk,ev,node,0,[],true⟩ (.slice none 0 0);have F9:=aL w5 (w.heap.size+1) ⟨pg,n,f,bk,ev,node,0,[],true⟩ (.slice none 0 0);generalize aP w5 (w.heap.size+1) ⟨pg,n,f,bk,ev,node,0,[],true⟩ (.slice none 0 0)=w9 at *;dsimp only [aj] at aX;have di:=aX.cell;refine bodyPost_ret (v:=.tuple #[.agg (aj ⟨pg,n,f,bk,ev,node,0,[],true⟩ (.slice none 0 0)),zI pe]) (by simp [results,results16,go_sem,di,aj]) rfl ?_;exact ⟨_,rfl,⟨none,0,rfl,Nat.le_refl _,by unfold maxLen;omega,KeptAt.none _ _⟩,T4.fresh (F5.trans (F9.mono (λk _ hk=>.inr hk))) (λk hk=>by rcases hk with rfl|rfl <;> omega) (λk hk=>by rcases hk with rfl|rfl;exact ⟨_,_,Ef,zd,zd⟩;exact ⟨_,_,dX,zd,zd⟩)⟩
 subst h3;rw [if_pos rfl] at hR;have HE:=ae (λW h=>xO bs pg n pV W h);obtain ⟨E,hE⟩:=ah (bK pV pg n 1 1 0);rw [hE] at hR HE;obtain ⟨ee,eV⟩:=E;simp only at hR HE;clear hE;by_cases h4:ee=0
 case pos =>
  subst h4;rw [if_pos rfl] at hR;subst hR;clear h2;go_enter func16,ntmps16;go_wp2_with fail;refine (HC.out _ (hV.call hb0)).mono ?_;rintro e w1 ⟨n1,n2,n3,n4,n5,rfl,hb1⟩;obtain ⟨k1,aT⟩:=bY hb1 k0 kR;have B1:=hb0.zt hb1;have hbX:=below_alloc2 (aQ w1 (.cells #[zI n1,zI n2,zI n3,zI n4,zI n5] 77)) (.cells (aj ⟨pg,n,f,bk,ev,node,0,[],false⟩ zN) 28);have kr:=af.oG w1 (.cells #[zI n1,zI n2,zI n3,zI n4,zI n5] 77) 28 (aj ⟨pg,n,f,bk,ev,node,0,[],false⟩ zN);dsimp only [aj] at hbX kr;obtain ⟨gx,hgx⟩:=ah (w1.heap.size);rw [hgx] at kr;obtain ⟨kX,qW⟩:=bY hbX k1 aT;have BX:=B1.zt hbX;have c1:=(k1.dV (.cells #[zI n1,zI n2,zI n3,zI n4,zI n5] 77)).cell;have Xb:w.heap.size+2<=w1.heap.size:=aT.lt;clear HC k0 kR hb0 hb1;go_upto_region 5 with fail
  generalize (w1.alloc _).alloc _=wx at *;have J9:=kr.cell;go_wp2_with fail;refine (HK.out _).zr λw2 hb2=>?_
  obtain ⟨k2,cK,De⟩:=mY hb2 kX qW kr;have B2:=BX.zt hb2;obtain ⟨c2,sM⟩:=bB k2 cK;have sN:=cK.frozen;clear HK k1 aT B1 hbX kr kX qW BX c1 J9 hb2;go_wp2_with fail;refine (HV.out _ (hV.call B2)).zr λw3 pz=>?_
  have T3:=(dw.below hV B2).trans pz;have k3:=pz.blk (hV.call B2) k2 zd;have fC:=pz.blk (hV.call B2) cK zd;have H8:=pz.blk (hV.call B2) De zd;obtain ⟨c3,H9⟩:=bB k3 fC;have Ia:=fC.frozen;clear HV k2 cK De B2 c2 sM sN pz;go_wp2_with fail;refine (HP.out _ T3.1).mono ?_;rintro e w4 ⟨Ap,cp,rfl,_,_,hpl,Ka,Kb⟩;have qY:dw bs pV w3 w4:=⟨Ka,Kb⟩;have T4:=T3.trans qY;have k4:=qY.blk T3.1 k3 zd;have dX:=qY.blk T3.1 fC zd;have Ef:=qY.blk T3.1 H8 zd;obtain ⟨c4,ME,c4r⟩:=mM k4 dX Ef;have MF:=dX.frozen;clear HP k3 fC H8 c3 H9 Ia Ka Kb;go_wp2_with fail;refine (HE.out _ T4.1).zr λw5 Xc=>?_
  have T5:=T4.trans Xc;have nA:=Xc.blk T4.1 dX zd;have c5R:=nA.cell;have f5R:=nA.frozen;go_wp2_with fail;change bodyPost _ _ _ _ _ (aP w5 (w.heap.size+1) bD zN);have aX:=aK nA bD zN;have F9:=aL w5 (w.heap.size+1) bD zN;generalize aP w5 (w.heap.size+1) bD zN=w9 at *;dsimp only [aj] at aX;have di:=aX.cell;refine bodyPost_ret (v:=.tuple #[.agg (aj bD zN),zI pe]) (by simp [results,results16,go_sem,di,aj]) rfl ?_;exact ⟨_,rfl,⟨none,0,rfl,Nat.le_refl _,by unfold maxLen;omega,KeptAt.none _ _⟩,T5.fresh F9 (λk hk=>by subst hk;omega) (λk hk=>by subst hk;exact ⟨_,_,nA,zd,zd⟩)⟩
 have h4':=lV h4;rw [if_neg h4] at hR;subst hR;clear h2 h4;go_enter func16,ntmps16;go_wp2_with fail;refine (HC.out _ (hV.call hb0)).mono ?_;rintro e w1 ⟨n1,n2,n3,n4,n5,rfl,hb1⟩;obtain ⟨k1,aT⟩:=bY hb1 k0 kR;have B1:=hb0.zt hb1;have hbX:=below_alloc2 (aQ w1 (.cells #[zI n1,zI n2,zI n3,zI n4,zI n5] 77)) (.cells (aj ⟨pg,n,f,bk,ev,node,0,[],false⟩ zN) 28);have kr:=af.oG w1 (.cells #[zI n1,zI n2,zI n3,zI n4,zI n5] 77) 28 (aj ⟨pg,n,f,bk,ev,node,0,[],false⟩ zN);dsimp only [aj] at hbX kr;obtain ⟨gx,hgx⟩:=ah (w1.heap.size);rw [hgx] at kr;obtain ⟨kX,qW⟩:=bY hbX k1 aT;have BX:=B1.zt hbX;have c1:=(k1.dV (.cells #[zI n1,zI n2,zI n3,zI n4,zI n5] 77)).cell;have Xb:w.heap.size+2<=w1.heap.size:=aT.lt;clear HC k0 kR hb0 hb1;go_upto_region 5 with fail
 generalize (w1.alloc _).alloc _=wx at *;have J9:=kr.cell;go_wp2_with fail;refine (HK.out _).zr λw2 hb2=>?_
 obtain ⟨k2,cK,De⟩:=mY hb2 kX qW kr;have B2:=BX.zt hb2;obtain ⟨c2,sM⟩:=bB k2 cK;have sN:=cK.frozen;clear HK k1 aT B1 hbX kr kX qW BX c1 J9 hb2;go_wp2_with fail;refine (HV.out _ (hV.call B2)).zr λw3 pz=>?_
 have T3:=(dw.below hV B2).trans pz;have k3:=pz.blk (hV.call B2) k2 zd;have fC:=pz.blk (hV.call B2) cK zd;have H8:=pz.blk (hV.call B2) De zd;obtain ⟨c3,H9⟩:=bB k3 fC;have Ia:=fC.frozen;clear HV k2 cK De B2 c2 sM sN pz;go_wp2_with fail;refine (HP.out _ T3.1).mono ?_;rintro e w4 ⟨Ap,cp,rfl,_,_,hpl,Ka,Kb⟩;have qY:dw bs pV w3 w4:=⟨Ka,Kb⟩;have T4:=T3.trans qY;have k4:=qY.blk T3.1 k3 zd;have dX:=qY.blk T3.1 fC zd;have Ef:=qY.blk T3.1 H8 zd;obtain ⟨c4,ME,c4r⟩:=mM k4 dX Ef;have MF:=dX.frozen;clear HP k3 fC H8 c3 H9 Ia Ka Kb;go_wp2_with fail;refine (HE.out _ T4.1).zr λw5a Xc=>?_
 have T5:=T4.trans Xc;have Za:=Xc.blk T4.1 dX zd;have Zb:=Xc.blk T4.1 Ef zd;obtain ⟨c5R,c5r⟩:=bB Za Zb;obtain ⟨f5R,f5r⟩:=tu Za Zb;clear dX Ef k4 c4 ME MF c4r Xc HE;go_upto_region 17 with fail
 have hgw:w.heap.size+1≠gx+1:=by rw [<-hgx];have:=Xb;omega
 have kr5:=(Zb).aM 8 (.bool true);have nA:=(Za).far (p:=⟨gx+1,8,none⟩) (by show w.heap.size+1≠gx+1;exact hgw) (.bool true);have F5:=(ag.refl (λk=>k=gx+1\/k=w.heap.size+1) w5a).setCell (p:=⟨gx+1,8,none⟩) (λ_=>.inl rfl) (.bool true);generalize (w5a).setCell ⟨gx+1,8,none⟩ (.bool true)=w5 at *;simp only [List.setIfInBounds_toArray,List.set_cons_zero,List.set_cons_succ] at kr5;obtain ⟨c5,aqj⟩:=bB kr5 nA;have aqk:=nA.frozen;go_wp2_with fail;change bodyPost _ _ _ _ _ (aP w5 (w.heap.size+1) ⟨pg,n,f,bk,ev,node,0,[],true⟩ (.slice none 0 0));have aX:=aK nA ⟨pg,n,f,bk,ev,node,0,[],true⟩ (.slice none 0 0);have F9:=aL w5 (w.heap.size+1) ⟨pg,n,f,bk,ev,node,0,[],true⟩ (.slice none 0 0);generalize aP w5 (w.heap.size+1) ⟨pg,n,f,bk,ev,node,0,[],true⟩ (.slice none 0 0)=w9 at *;dsimp only [aj] at aX;have di:=aX.cell;refine bodyPost_ret (v:=.tuple #[.agg (aj ⟨pg,n,f,bk,ev,node,0,[],true⟩ (.slice none 0 0)),zI pe]) (by simp [results,results16,go_sem,di,aj]) rfl ?_;exact ⟨_,rfl,⟨none,0,rfl,Nat.le_refl _,by unfold maxLen;omega,KeptAt.none _ _⟩,T5.fresh (F5.trans (F9.mono (λk _ hk=>.inr hk))) (λk hk=>by rcases hk with rfl|rfl <;> omega) (λk hk=>by rcases hk with rfl|rfl;exact ⟨_,_,Zb,zd,zd⟩;exact ⟨_,_,Za,zd,zd⟩)⟩
theorem BV (bs:Nat) (V:Vm) (pg f bk ev:Int) (n:Nat) (w:World) (hV:aA w bs V) (hp:0<=pg) (hn:pg+n<=1024) :
  Calls prog 83 #[zP bs,ek pg n f bk ev] w λe w'=>∃(A:Option Addr) (cap:Nat),e= .returned (.slice A (qG V pg n).length cap)/\RU w' w'.heap.size A (qG V pg n)/\(∀g o,A=some ⟨g,o,none⟩->w.heap.size<=g)/\(qG V pg n).length<=cap/\cap<=maxLen/\Below w.heap.size w w':=by
 have hb0:=aQ w (.cells (bg pg n f bk ev) 25);have k0:=af.new w 25 (bg pg n f bk ev);have V0:=ae hV;have HK:=ae (λ(q:Int) W h=>Ju bs q V W h);have hof:=aeo V hp hn;unfold qG;rw [Int.toNat_natCast];obtain ⟨SL,aep⟩:=ah (setOf (qZ V pg n));rw [aep];have Ib:=ae aep;clear aep;unfold ek;dsimp only [bg] at k0 hb0 ⊢;obtain ⟨i0,hi,hz0,hz1,hz2⟩:=dW;have hws:IntKind.i64.wrap (pg+(n:Int))=pg+n:=by rw [IntKind.wrap_i64];omega
 clear hV;go_enter func83,ntmps83;go_wp2_with fail
 go_loopw [5,6] (λv i wr=>∃(k:Nat) (l:List Sp),k<=n/\i = zI (pg+k)/\Hid (qZ V pg k=l)/\wr.ownsRow w.heap.size 85 2 v l.length (ax l)/\Below w.heap.size w wr/\af wr w.heap.size 25 #[zI pg,zI n,zI f,zI bk,zI ev]) (λ_ i _=>(pg+n - intOf i).toNat)
 case atStart=>exact ⟨0,[],zo,zs,ae rfl,World.ownsRow_nil _ _ _ _,hb0,k0⟩
 case round =>
  clear hb0 k0;obtain ⟨k,l,hk,rfl,hl,hrow,hB,k1⟩:=hrel;have V1:=V0.out.call hB;have c1:=k1.cell;by_cases hlt:k<n
  ·have hlt':decide (pg+(k:Int)<pg+(n:Int))=true:=by simp;omega
   have hw1:IntKind.i64.wrap (pg+(k:Int)+1)=pg+((k+1:Nat):Int):=by rw [IntKind.wrap_i64];omega
   obtain ⟨kd,hkd⟩:=ah (Fq V (pg+(k:Int)));have hst:Hid (qZ V pg (k+1)=if kd=3 then l++[(pg+k,1)] else l):=ae (by rw [qZ,hkd,hl.out]);have HK1:=HK.out (pg+(k:Int)) wr V1;unfold Fq at hkd;rw [hkd] at HK1;have Ti:=ae HK1;obtain ⟨ll,hll⟩:=ah (l.length);have hlb:=Ba V pg k;rw [hl.out,hll] at hlb;rw [hll] at hrow;clear hkd HK1 hl;go_wp2_with fail;refine Ti.out.zr λw1 hb1=>?_
   have B1:=hB.zt hb1;have kQ:=aI hrow hb1;have hs1:=B1.size;have k2:=k1.call hb1;clear Ti hrow V1 hB k1 c1;by_cases hk3:kd=3
   ·subst hk3
    have dx:Hid (qZ V pg (k+1)=l++[(pg+(k:Int),1)]):=ae (by rw [hst.out,if_pos rfl]);have kN:=af.new w1 85 #[zI (pg+(k:Int)),zI 1];clear hst
    go_wp2_with (refine wpList_append_own _ rfl (.tmp 32) (.tmp 35) 26 rfl w.heap.size 85 i0 (.agg #[zI 0,zI 0]) 2 16 underlying26 hi hz0 hz1 hz2 rfl zd _ ll (ax l) rfl (kQ.alloc _) ⟨w1.heap.size,0,none⟩ 1 1 [zI (pg+(k:Int)),zI 1] rfl rfl (jW kN) jm (by unfold maxLen;omega) zo (by simp;omega) ?_;intro v' w3 hown' hgrow _)
    go_roundw
    case rel =>
     refine ⟨k+1,_,zo,zs,dx,?_,(B1.alloc hs1 _).grown hgrow (by simp;omega) (λj hj=>(kQ.lt j hj).1),(k2.alloc _).grown hgrow (λe=>k2.not_row kQ zd e.symm)⟩;rw [eZ,List.length_append,List.length_singleton,hll];exact hown'
    case measure=>exact zm
   ·have axk:=lV hk3
    have dx:Hid (qZ V pg (k+1)=l):=ae (by rw [hst.out,if_neg hk3]);clear hst hk3;go_wp2_with fail;go_roundw
    case rel=>exact ⟨k+1,l,zo,zs,dx,by rw [hll];exact kQ,B1,k2⟩
    case measure=>exact zm
  ·obtain rfl:k=n:=zo
   have hlt':decide (pg+(k:Int)<pg+(k:Int))=false:=by simp
   have aeq:=hof;rw [hl.out] at aeq;have hlb:=Ba V pg k;rw [hl.out] at hlb;obtain ⟨A',cap',rfl,dR,hnc,hcm,hfr,hnz⟩:=lQ hrow rfl;have HO:=ae (Vz A' l.length cap' l wr rfl (by unfold maxLen;omega) dR);have Tj:=Ib.out;rw [hl.out] at Tj;rw [aeq,if_pos rfl,Tj] at HO;generalize l.length=ll at *;clear hl hof aeq hrow Ib Tj;go_wp2_with fail;refine HO.out.mono ?_;rintro e w1 ⟨A1,c1',rfl,hr1,hm1,hc1,hf1,hb1,_⟩;go_wp2_with fail;go_ret;exact ⟨A1,c1',rfl,hr1,λg o e=>Nat.le_trans hB.size (hf1 g o e),hm1,hc1,hB.zt hb1⟩
theorem Xf (bs g4 gx g8 gm:Nat) (V:Vm) (r:Cr) (m:Int) (x:iO) (w:World) (hV:aA w bs V) (k4:af w g4 42 #[zP bs]) (kx:af w gx 159 (qX x)) (hc:mK w g8 r) (km:af w gm 3 #[zI m]) (hC:Go.Pol.Can r.kept) (hx:bF (x.2.2,x.2.1)=true) (hm : -5000<=m/\m<=5000) :
  Calls prog 75 #[zP g4,zP gx,zP g8,zP gm] w λe w'=>e= .returned (.tuple #[])/\aqm bs g8 gm r (dK (V,r.kept,m) x) w w':=by
 obtain ⟨xa,xb,xn⟩:=x;obtain ⟨R,hR⟩:=ah (dK (V,r.kept,m) (xa,xb,xn));rw [hR];unfold dK at hR;simp only at hR hx;have kK:=av.1 hx;simp only at kK;have HD:=ae (λW h=>vT bs xa xb V W h);obtain ⟨J,hJ⟩:=ah (bK V xa xb 3 2 1);rw [hJ] at hR HD;obtain ⟨je,jV⟩:=J;simp only at hR HD;obtain ⟨pg,n,f,bk,ev,node,live,K,cl⟩:=r;obtain ⟨A,cap,k8,hk,hl,hcm⟩:=hc.ex;simp only at hR k8 hk hl hC;obtain ⟨kl,aer⟩:=ah (K.length);have hkl:=ae aer;rw [aer] at k8 hl;have hwm:IntKind.i64.wrap (m - xb)=m - xb:=by rw [IntKind.wrap_i64];omega
 dsimp only [qX] at kx;obtain ⟨c4,cx⟩:=bB k4 kx;clear hJ hc aer;by_cases h0:je=0
 ·subst h0
  rw [if_neg zs] at hR;subst hR;go_enter func75,ntmps75;go_wp2_with fail;refine (HD.out _ hV).zr λw1 h1=>?_
  go_wp2_with fail
  go_end0
  exact ⟨rfl,h1.1,⟨A,cap,by simp only;rw [hkl.out];exact h1.blk hV k8 zd,hk.far h1.2 (λg cs hg e=>by have e:g=bs:=e;subst e;obtain ⟨es,he⟩:=hV.typed;exact hg.ne he zd),by simp only;rw [hkl.out];exact hl,hcm⟩,h1.blk hV km zd,h1.2.mono (λ_ _ h=>.inl h)⟩
 have h0':=gJ h0;rw [if_pos h0] at hR;subst hR;clear h0;have HU:=ae (λW A2 h h2=>zZ A A2 kl cap 1 1 K [(xn,xb)] W hkl.out hl hcm h rfl (Nat.le_refl _) (by unfold maxLen;omega) h2 hC (Can.one hx));unfold o7 at HU;generalize setOf (K++[(xn,xb)])=K2 at *;go_enter func75,ntmps75;go_wp2_with fail;refine (HD.out _ hV).zr λw1 h1=>?_
 have k81:=h1.blk hV k8 zd;have mE:=h1.blk hV kx zd;have MG:=h1.blk hV km zd;have hk1:=hk.far h1.2 (λg cs hg e=>by have e:g=bs:=e;subst e;obtain ⟨es,he⟩:=hV.typed;exact hg.ne he zd);go_upto_region 1 with fail
 have hbd:=(Below.refl w1.heap.size w1).drew;have T2:=h1.aU hbd;obtain ⟨k82,gY,Xg,hk2⟩:=vO hbd k81 mE MG hk1;refine bT ?_;refine bM (PO g8 (.slice A kl cap) gx (zI xa) (zI xb) (zI xn)) [6,7,8,9] zk ?_;generalize w1.drew=wd at *;have hS:PO g8 (.slice A kl cap) gx (zI xa) (zI xb) (zI xn) wd:=⟨k82.cell 7,gY.cell 0,gY.cell 1,gY.cell 2⟩;clear k81 mE MG hk1 k8 kx km hk h1 c4 cx HD hbd;refine aW 0 hS ?_;refine aW 1 hS ?_;refine aW 2 hS ?_;refine gD 3 λK hK=>?_
 go_simp;refine ((Ec xa xb xn wd)).mono ?_;rintro (e w4 ⟨g4',rfl,Tg,hg4,hb4⟩);refine hK.out _ _ (λ_=>hS.call hb4) (λhS=>?_);clear hK K;replace hS:=hS rfl;try simp only [Act.put,iE,iF,iG]
 have HU4:=ae (HU.out w4 _ (hk2.call hb4).ru Tg);refine gD 4 λK hK=>?_
 go_simp;refine (HU4.out).mono ?_;rintro (e w5 ⟨A5,c5,rfl,hk5,hl5,Tn,hb5⟩);refine hK.out _ _ (λ_=>hS.call hb5) (λhS=>?_);clear hK K;replace hS:=hS rfl;try simp only [Act.put,iE,iF,iG]
 have Tp:=hb4.zt hb5;have T5:=T2.aU Tp;obtain ⟨Tu,pK,km5⟩:=mY Tp k82 gY Xg;refine aW 5 hS ?_;refine ig 6 ?_;refine ig 7 ?_;refine ig 8 ?_;have c85:=Tu.cell;have f85:=Tu.frozen;refine gD 9 λK hK=>?_
 go_simp;refine hK.out _ _ (λh=>absurd h zd) (λ_=>?_);clear hK;refine bE zk ?_ _;refine aS ?_;have hne:gm≠g8:=λe=>by subst e;exact km5.ne Tu zd
 have hnx:gx≠g8:=λe=>by subst e;exact pK.ne Tu zd
 have hnm:g8≠gm:=λe=>hne e.symm
 have F6:ag (λk=>k=g8\/k=gm) w5 ((w5.setCell ⟨g8,7,none⟩ (.slice A5 K2.length c5))):=ag.setCell (T:=λk=>k=g8\/k=gm) (p:=⟨g8,7,none⟩) (ag.refl _ w5) (λ_=>.inl rfl) _;have k86:=Tu.aM 7 (.slice A5 K2.length c5);have uD:=pK.far (p:=⟨g8,7,none⟩) hnx (.slice A5 K2.length c5);have km6:=km5.far (p:=⟨g8,7,none⟩) hne (.slice A5 K2.length c5);generalize w5.setCell ⟨g8,7,none⟩ (.slice A5 K2.length c5)=w6 at *;simp only [List.setIfInBounds_toArray,List.set_cons_zero,List.set_cons_succ] at k86;obtain ⟨cx6,cm6⟩:=bB uD km6;have fm6:=km6.frozen;clear hS c85 f85;go_wp2_with fail
 go_end0
 have F7:ag (λk=>k=g8\/k=gm) w5 (w6.setCell ⟨gm,0,none⟩ (zI (m - xb))):=ag.setCell (T:=λk=>k=g8\/k=gm) (p:=⟨gm,0,none⟩) F6 (λ_=>.inr rfl) _;refine ⟨rfl,?_,⟨A5,c5,k86.far (p:=⟨gm,0,none⟩) hnm _,hk5.far F7 (λg cs hg e=>by rcases e with rfl|rfl;exact Tu.ne hg zd;exact km5.ne hg zd),hl5,Tn⟩,km6.aM 0 (zI (m - xb)),(T5.2.mono (λ_ _ h=>.inl h)).trans (F7.mono (λ_ _ h=>.inr h))⟩;obtain ⟨es,he⟩:=T5.1.typed;exact T5.1.far F7 (λe=>by rcases e with rfl|rfl;exact Tu.ne he zd;exact km5.ne he zd) (λ_ _ _ _ _ _ _ _ _ _ ⟨_,hr⟩ e=>by rcases e with rfl|rfl;exact Tu.ne hr zd;exact km5.ne hr zd)
theorem MH (A:Option Addr) (n cap:Nat) (w:World) :
  Calls prog 71 #[.slice A n cap] w λe w'=>e= .returned (.func (.func 144) #[] #[zP w.heap.size])/\w'=w.alloc (.cells #[.slice A n cap] 151):=by
 go_enter func71,ntmps71
 go_wp2
 go_ret;exact ⟨zs,rfl⟩
theorem Ei:∀args w,(callFunc 144 args).run prog w= .ok (.enter 144 args) w:=enters_of func144 zk rfl
theorem Kl (tE:TypeId) (B1:Nat) (A:Option Addr) (n cap:Nat) (fv:Nat->Value) (K:Nat->Prop) (w:World) (hK1:K B1) (hn:n<=1000000) (k1:af w B1 151 #[.slice A n cap]) (hA:Kj w A K fv n) :
  Y8 prog tE 144 #[zP B1] bkA K (mV fv n) w:=by
 intro m l J Jx W hW hJ hJx hY h0;have Xa:=hW.blk k1 (by simpa using hK1);have hAW:=hA.far hW (λk hk h=>h hk);clear k1 hW hA;refine callsIn_of_wp func144 rfl trivial ?_ rfl;simp only [ntmps144,List.size_toArray,List.length_cons,List.length_nil,Nat.reduceAdd,Nat.reduceSub,Array.replicate_succ,Array.replicate_zero,List.push_toArray,List.append_toArray,List.nil_append,List.cons_append];have c1:=Xa.cell;have hw0:IntKind.i64.wrap ((n:Int) - 1)=(n:Int) - 1:=by rw [IntKind.wrap_i64];omega
 gi_wp2_with fail
 gi_loopw [3] (λv wr=>∃(j:Nat) (pre:List IxV),j<=n/\v = zI ((j:Int) - 1)/\J pre wr/\Hid (pre++mV fv j=mV fv n)/\af wr B1 151 #[.slice A n cap]/\Kj wr A K fv n) (λv _=>(intOf v+1).toNat)
 case atStart=>exact ⟨n,[],Nat.le_refl _,rfl,h0,ae rfl,Xa,hAW⟩
 case round =>
  clear h0 Xa hAW c1;obtain ⟨j,pre,hj,rfl,hJs,hpre,k1,hA⟩:=hrel;have c1:=k1.cell;by_cases hlt:0<j
  ·obtain ⟨i,rfl⟩:∃i,j=i+1:=⟨j - 1,zo⟩
   have hi:((i+1:Nat):Int) - 1=(i:Int):=zo;simp only [hi];have hlt':decide (0<=(i:Int))=true:=by simp
   obtain ⟨g,rfl,hKg,hc⟩:=hA i zo;have hin:i<n:=zo;have OZ:Hid ((pre++[(i,fv i)])++mV fv i=mV fv n):=ae (by rw [<-hpre.out];simp [mV]);have hpx:Hid (pre++[(i,fv i)] <+: mV fv n):=ae ⟨_,OZ.out⟩;have hw1:IntKind.i64.wrap ((i:Int) - 1)=(i:Int) - 1:=by rw [IntKind.wrap_i64];omega
   obtain ⟨fn,tmps,assign,body,hy,qc⟩:=hY (m - 1) (λ_=>False) pre (i,fv i) wr hJs (λ_ h=>h.elim) hpx.out;simp only [bkA] at hy;generalize fv i=fi at *;clear hY hJx
   gi_wp2_with fail
   refine qc.mono ?_;rintro e W4 (⟨rfl,DF,fQ⟩|⟨rfl,BI⟩)
   ·have k14:=fQ.blk k1 (λh=>h (.inl hK1))
    have hA4:=hA.far fQ (λk hk h=>h (.inl hk))
    gi_wp2_with fail
    go_roundw
    case rel=>exact ⟨i,_,zo,rfl,DF,OZ,k14,hA4⟩
    case measure=>simp [intOf]
   ·gi_wp2_with fail
    refine bodyPost_ret (results_none rfl _ _ _) rfl ?_;exact ⟨⟨_,rfl⟩,.inr ⟨_,hpx.out,BI⟩⟩
  ·obtain rfl:j=0:=zo
   have hlt':decide (0<=((0:Nat):Int) - 1)=false:=by decide
   have hE:Hid (pre=mV fv n):=ae (by have:=hpre.out;simpa [mV] using this);exact UU
def Ic (g4 g8 gm b:Nat):Value:=.func (.func 75) #[] #[zP g4,zP b,zP g8,zP gm]
theorem PR (ge gu g5 g6 gm nn:Nat) (u:FrameMode) (w:World) (ke:af w ge 37 #[zI 0]) :
  CallsDIn Fence.wide nn prog 70 #[zP ge,zP gu,zP g5,zP g6,zP gm] u w λe u' w'=>u'=u/\e= .returned (.tuple #[])/\w'=w:=by
 have ce:=ke.cell;refine uC (R:=λe w'=>e= .returned (.tuple #[])/\w'=w) func70 rfl trivial (wpIn_wide.2 ?_);simp only [ntmps70,List.size_toArray,List.length_cons,List.length_nil,Nat.reduceAdd,Nat.reduceSub,Array.replicate_succ,Array.replicate_zero,List.push_toArray,List.append_toArray,List.nil_append,List.cons_append];go_wp2_with fail;exact ⟨w,rfl,_,results_none rfl _ _ _,rfl,rfl⟩
theorem Xj (bs bb ge gu g4 g5 g6 g8 gm nn nd:Nat) (V:Vm) (L:List Nd) (rr rN:Cr) (sv:Value) (many er:Int) (done:List iO) (bx:Nat->Nat) (Au:Option Addr) (n cap:Nat) (u:FrameMode) (w:World)
  (her:er≠0) (hV:aA w bs V) (hB:bz w bb L) (hO:bf L) (hnl:nd<L.length) (ke:af w ge 37 #[zI er]) (ku:af w gu 151 #[.slice Au n cap]) (hn:done.length=n) (hn1:n<=1000000)
  (hfn:Kj w Au (λk=>∃o,Au=some ⟨k,o,none⟩) (λi=>Ic g4 g8 gm (bx i)) n) (hty:∀g o,Au=some ⟨g,o,none⟩->∃cs,af w g 1 cs)
  (k4:af w g4 42 #[zP bs]) (k5:af w g5 43 #[zP bb]) (k6:af w g6 28 (aj rr sv)) (hnd:rr.node=nd) (h68:g6≠g8)
  (hx:∀i,i<n->af w (bx i) 159 (qX (done.getD i o9))) (hc:mK w g8 rN) (km:af w gm 3 #[zI many]) (hvd:∀x∈done,bF (x.2.2,x.2.1)=true) (hC:Go.Pol.Can rN.kept) (hs:dU done<=many) (hm:many<=5000) :
  CallsDIn Fence.wide nn prog 70 #[zP ge,zP gu,zP g5,zP g6,zP gm] u w λe u' w'=>u'=u/\e= .returned (.tuple #[]) /\
   aA w' bs (done.reverse.foldl dK (V,rN.kept,many)).1/\bz w' bb (jb L nd (done.reverse.foldl dK (V,rN.kept,many)).2.2).2/\mK w' g8 { rN with kept:=(done.reverse.foldl dK (V,rN.kept,many)).2.1 }/\ag (λk=>Tm bs g8 gm k\/lD bb w k) w w':=by
 obtain ⟨ce,cu⟩:=bB ke ku;have axl:(er==0)=false:=by simpa using her
 have kB:=af.new w 151 #[.slice Au n cap];have hb1:=aQ w (.cells #[.slice Au n cap] 151);have HBk:=ae (MH Au n cap w);refine uC (R:=λe w'=>e= .returned (.tuple #[])/\aA w' bs (done.reverse.foldl dK (V,rN.kept,many)).1/\bz w' bb (jb L nd (done.reverse.foldl dK (V,rN.kept,many)).2.2).2/\mK w' g8 { rN with kept:=(done.reverse.foldl dK (V,rN.kept,many)).2.1 }/\ag (λk=>Tm bs g8 gm k\/lD bb w k) w w') func70 rfl trivial (wpIn_wide.2 ?_);simp only [ntmps70,List.size_toArray,List.length_cons,List.length_nil,Nat.reduceAdd,Nat.reduceSub,Array.replicate_succ,Array.replicate_zero,List.push_toArray,List.append_toArray,List.nil_append,List.cons_append]
 go_wp2_with (go_at_call 71;refine HBk.out.mono ?_;rintro e w1 ⟨rfl,hw1⟩)
 rw [<-hw1] at kB hb1 ⊢;obtain ⟨B1,hB1⟩:=ah (w.heap.size);rw [hB1] at kB;simp only [hB1];have hseq:=Kl 85 B1 Au n cap (λi=>Ic g4 g8 gm (bx i)) (λk=>k=B1\/∃o,Au=some ⟨k,o,none⟩) w1 (.inl rfl) hn1 kB (λi hi=>by
  obtain ⟨g,e,hg,hcell⟩:=hfn i hi;exact ⟨g,e,.inr ⟨0,e⟩,((ag.of_below (T:=λ_=>False) hb1).cell hcell id)⟩)
 have aqv:B1<w1.heap.size:=kB.lt;refine Y9 (by rfl) Ei hseq (λ_=>rfl) (λk hk=>by
   rcases hk with rfl|⟨o,e⟩
   ·exact aqv
   ·obtain ⟨cs,hcs⟩:=hty k o e
    exact (hcs.call hb1).lt)
  (λpre W=>∃S,Hid ((pre.map (λx=>done.getD x.1 o9)).foldl dK (V,rN.kept,many)=S)/\aA W bs S.1/\bz W bb L/\mK W g8 { rN with kept:=S.2.1 }/\af W gm 3 #[zI S.2.2]/\ag (Tm bs g8 gm) w W /\
   af W g4 42 #[zP bs]/\af W g5 43 #[zP bb]/\af W g6 28 (aj rr sv)/\(∀i,i<n->af W (bx i) 159 (qX (done.getD i o9)))/\(∃cs,af W B1 151 cs)/\(∀g o,Au=some ⟨g,o,none⟩->∃cs,af W g 1 cs))
  (λ_ _ _=>False) ?hI (λ_ _ _ _ h _=>h.elim) ?h0
  (λx a' _=>a'={ tmps:=#[zP ge,zP gu,zP g5,zP g6,zP gm,undef,x.2,zI er,.bool false,.slice Au n cap,.func (.func 144) #[] #[zP B1],zI x.1,x.2,undef,undef,undef,undef,undef,undef,undef],defers:=[] })
  (λ_ _ _ _ h _=>h) ?assign ?body ?done (λ_ _ _ _ _ h _=>h.elim)
 case h0 =>
  obtain ⟨q,cq,h1,h2,h3,h4⟩:=hc.ex;exact ⟨_,ae rfl,hV.call hb1,hB.call hb1,hc.call hb1,km.call hb1,.of_below hb1,k4.call hb1,k5.call hb1,k6.call hb1,λi hi=>(hx i hi).call hb1,⟨_,kB⟩,λg o e=>(hty g o e).imp λcs h=>h.call hb1⟩
 case hI =>
  rintro pre WA WB ⟨S,h1,h2,h3,h4,h5,h6,h7,h8,h9,h10,⟨c11,h11⟩,h12⟩ qN;exact ⟨S,h1,h2.soft qN,h3.soft qN,h4.soft qN,qN.blk h5,ag.soft h6 hb1.size qN,qN.blk h7,qN.blk h8,qN.blk h9,λi hi=>qN.blk (h10 i hi),⟨c11,qN.blk h11⟩,λg o e=>(h12 g o e).imp λcs h=>qN.blk h⟩
 case assign =>
  intro mm l x W C hC;obtain ⟨xi,xv⟩:=x;have hC2:=hC _ W (Below.refl _ _) rfl;simp [bkA] at hC2 ⊢
  gi_wp2
  exact hC2
 case body =>
  rintro mm l X pre x a' W hs2 hX hD hE ⟨S,hS,V1,B1',hc1,MG,hF1,jM,lX,k61,hx1,⟨c11,kB1⟩,aeu⟩ rfl hpre;obtain ⟨hxi,hxv⟩:=Kn (hpre.subset (by simp:x∈pre++[x]));obtain ⟨xi,xv⟩:=x;simp only at hxi hxv;subst hxv;have hup:=NY (V:=V) hn ((List.prefix_append pre _).trans hpre) hvd hC hs hm;rw [hS.out] at hup;have hst:Hid (((pre++[(xi,Ic g4 g8 gm (bx xi))]).map (λx=>done.getD x.1 o9)).foldl dK (V,rN.kept,many)=dK S (done.getD xi o9)):=ae (by rw [List.map_append,List.foldl_append,hS.out];rfl);have kK:=hvd (done.getD xi o9) (by rw [List.getD_eq_getElem?_getD,List.getElem?_eq_getElem zo];exact List.getElem_mem _);have mE:=hx1 xi hxi;generalize done.getD xi o9=xd at *;obtain ⟨SV,Sk,Sm⟩:=S;simp only at V1 hc1 MG hup;have HU:=ae (Xf bs g4 (bx xi) g8 gm SV { rN with kept:=Sk } Sm xd W V1 jM mE hc1 MG hup.1 kK zo);simp only [Ic];have noU:∀k t cs,af W k t cs->t≠105->(t=28->k≠g8)->t≠3->¬Tm bs g8 gm k:=by
   intro k t cs hb h1 h2 h3 hz;rcases hz with h|h|h
   ·subst h;obtain ⟨es,he⟩:=V1.typed;exact hb.ne he h1
   ·obtain ⟨q,cq,hq,_⟩:=hc1.ex
    by_cases e:t=28
    ·exact h2 e h
    ·subst h;exact hb.ne hq e
   ·subst h;exact hb.ne MG h3
  have Ej:∀k,Tm bs g8 gm k->¬((k=B1\/∃o,Au=some ⟨k,o,none⟩)\/X k\/k=w1.heap.size\/k=w1.heap.size+1):=by
   intro k hk hz;have ⟨t,cs,hb,ht⟩:∃t cs,af W k t cs/\(t=105\/t=28\/t=3):=by
    rcases hk with rfl|rfl|rfl
    ·obtain ⟨es,he⟩:=V1.typed;exact ⟨_,es,he,.inl rfl⟩
    ·obtain ⟨q,cq,hq,_⟩:=hc1.ex;exact ⟨_,_,hq,.inr (.inl rfl)⟩
    ·exact ⟨_,_,MG,.inr (.inr rfl)⟩
   rcases hz with (h|⟨o,h⟩)|h|h|h
   ·subst h;exact hb.ne kB1 (by rcases ht with rfl|rfl|rfl <;> decide)
   ·obtain ⟨cs',hc'⟩:=aeu k o h;exact hb.ne hc' (by rcases ht with rfl|rfl|rfl <;> decide)
   ·obtain ⟨cs',hc'⟩:=hX k h;exact hb.ne hc' (by rcases ht with rfl|rfl|rfl <;> decide)
   ·subst h;exact hD _ _ hb
   ·subst h;exact hE _ _ hb
  have nC:=ae noU;have aqw:=ae Ej;clear noU Ej hD hE hX
  gi_wp2_with fail
  refine (callsIn_wide.2 HU.out).zr λW2 hU=>?_
  gi_wp2_with fail
  refine ⟨hU.far.mono (λk _ h=>aqw.out k h),_,hst,hU.sys,?_,hU.cr,hU.many,hF1.trans hU.far,hU.far.blk jM (nC.out _ _ _ jM zd (λh=>absurd h zd) zd),hU.far.blk lX (nC.out _ _ _ lX zd (λh=>absurd h zd) zd),hU.far.blk k61 (nC.out _ _ _ k61 zd (λ_=>h68) zd),λi hi=>hU.far.blk (hx1 i hi) (nC.out _ _ _ (hx1 i hi) zd (λh=>absurd h zd) zd),⟨c11,hU.far.blk kB1 (nC.out _ _ _ kB1 zd (λh=>absurd h zd) zd)⟩,λg o e=>(aeu g o e).imp λcs h=>hU.far.blk h (nC.out _ _ _ h zd (λh=>absurd h zd) zd)⟩;obtain ⟨qb,cb,kb,_⟩:=B1'.ex;exact B1'.far hU.far (nC.out _ _ _ kb zd (λh=>absurd h zd) zd) (λk ⟨_,_,hd⟩=>nC.out _ _ _ hd zd (λh=>absurd h zd) zd)
 case done =>
  rintro W hs2 ⟨S,hS,V1,B1',hc1,MG,hF1,jM,lX,k61,hx1,_,aeu⟩ hd;have hup:=NY (V:=V) hn (List.prefix_refl (mV (λi=>Ic g4 g8 gm (bx i)) n)) hvd hC hs hm;have hr:=Ac (λi=>Ic g4 g8 gm (bx i)) done n zo;rw [List.take_of_length_le zo] at hr;rw [hr] at hS hup;rw [hS.out] at hup;have hSH:=ae hS.out;obtain ⟨SV,Sk,Sm⟩:=S;simp only at V1 hc1 MG hup;have HG:=ae (CP bb nd Sm L W B1' hO hnl);have MI:=hb1.size;generalize w1.heap.size=D at *;obtain ⟨c5,cm⟩:=bB lX MG;obtain ⟨pg,nw,f,bk,ev,node,live,K,cl⟩:=rr;simp only at hnd;subst hnd;dsimp only [aj] at k61;have c6:=k61.cell;go_wp2_with fail;refine HG.out.zr λW2 h2=>?_
  have S2:=aR.mU V1 h2;have hd1:l8 (some D) W:=λD' e=>by cases e;exact hd
  have hd2:=hd1.both V1 S2;have SF:=hd2.soft (N:=w.heap.size) MI;have FF:ag (λk=>Tm bs g8 gm k\/lD bb w k) w W2:=(hF1.mono (λ_ _ h=>.inl h)).trans' S2.far (λi hi ht=>by
   rcases ht with h|⟨hbk,cs,hcs⟩
   ·exact .inl (.inl h)
   ·by_cases hU:Tm bs g8 gm i
    ·exact .inl hU
    ·exact .inr ⟨hbk,cs,(hF1.block i hi hU).symm.trans hcs⟩)
  have hc2:=hc1.both V1 S2;go_wp2_with fail;refine ⟨W2.putObj D (.deferred none),⟨D,_,rfl,run_takeDeferred (hd2 _ rfl),rfl⟩,_,results_none rfl _ _ _,rfl,?_⟩;rw [hSH.out];exact ⟨S2.sys.soft SF,S2.eO.soft SF,hc2.soft SF,ag.soft FF (Nat.le_refl _) SF⟩
end Go.Proofs.YtlgcpjhimomiaaaGreat
