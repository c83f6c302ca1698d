/- Texts GWalkX, GWalkY, GWalkZ, SWalkA, SSpecB, SWalkB, SWalkC, SSpecH, GLibZ, SWalkQ, SWalkR, HSpecB, SWalkN, HWalkC, AWalkC, AWalkD, AWalkE. -/
import Derived.Sort.OwnSortedInts
import Derived.Laws.AppendOwnNone
import Derived.Test.YtlgcpjhimomiaaaGreatO3
set_option maxRecDepth 100000
set_option maxHeartbeats 12800000
namespace Go.Pol
open Go Go.RowKit Go.Proofs.Tryz
theorem mZ {P:Program} {w:World} {ops:Array Oper} {rest:List Oper} {o:Oper} {a:Act} {Q:Exit->Act->World->Prop} (hgd:o.guard=none) (s x:Operand) (t:TypeId)
  (ho:o.op= .call { callee:=.builtin .append,args:=#[s,x],argTypes:=#[t,t] })
  (base:Nat) (e:TypeId) (i:TypeInfo) (size c:Nat) (ht:P.underlying t=some (.slice e)) (hi:P.info? e=some i)
  (v:Value) (n:Nat) (xs:List Value) (hs:a.eval s=v) (hown:w.ownsRow base e size v n xs) (hx:a.eval x= .slice none 0 c)
  (h:wpList P ops Q rest (a.put o.dst v) w):wpList P ops Q (o::rest) a w:=by
 refine wpList_plain hgd λK hK=>?_
 have hrun:(Builtin.append_ #[t,t] o.type #[v,.slice none 0 c]).run P w= .ok v w:=by
  rcases hown.2 with ⟨rfl,rfl⟩|⟨g,cap,cur,rfl,_,_,hnc,_⟩
  ·simp [Builtin.append_,run_underlying ht,sizeOf,typeInfo,hi,Builtin.lenOf,Builtin.firstCells]
  ·simp [Builtin.append_,run_underlying ht,sizeOf,typeInfo,hi,Builtin.lenOf,Builtin.firstCells,hnc,storeCells]
 unfold Oper.wp;simp [execOp,ho,resolve,invoke,builtin,hs,hx,hrun,Result.andThen];exact hK _ _ h
theorem bC.congr {cs:Array Value} {f g:Nat->Bool} (h:bC cs f) (hg:∀k,k<1024->f k=g k):bC cs g :=
 ⟨h.size,λk hk=>by rw [<-hg k hk];exact h.at_ k hk⟩
theorem bC.one {cs:Array Value} {f:Nat->Bool} (h:bC cs f):cs.all (·.oneCell')=true:=by
 rw [Array.all_eq_true];intro i hi;have:=h.at_ i (by rw [<-h.size];exact hi);rw [Array.getElem?_eq_getElem hi] at this;cases auz:cs[i] <;> simp_all [Value.oneCell']
theorem below_setCells {s:Nat} {w:World} (b:Nat) (hb:s<=b):∀(vs:List Value) (o:Nat) (W:World),Below s w W->Below s w (W.setCells b o vs)
 | [],_,_,h=>h
 | v::vs,o,_,h=>below_setCells b hb vs (o+1) _ (h.setCell (p:=⟨b,o,none⟩) hb v)
theorem OV {P:Prop} (h:P:=by
 have ha':tmps[a]?.getD undef= .pointer (some p):=by rw [<-ha,Array.getD_eq_getD_getElem?]
 simp [results,h,ha',asAddr,hl]):P:=h
theorem BG {P:Program} {fn:Func} {a:Tmp} {t:TypeId} {tmps:Array Value} {w:World} {v:Value} {p:Addr} (h:fn.results=#[.cell a t]) (ha:tmps.getD a undef= .pointer (some p)) (hl:(loadVar t p).run P w= .ok v w) :
  (results fn tmps).run P w= .ok v w:=by
 exact OV
theorem CJ {w:World} {g:Nat} {t:TypeId} {cs:Array Value} (h:af w g t cs):w.there g 0 cs.size:=λj hj=>by
 rw [Nat.zero_add];exact ⟨by rw [h.cell];simp [hj],h.frozen j⟩
def tX (size a:Int):Int:=(a / size+1)*size
def yt (size en:Int):Nat->Int->List Sp
 | 0,_=>[]
 | k+1,a=>if a<en then (a,min (tX size a) en - a)::yt size en k (min (tX size a) en) else []
def qP (size:Int) (x:Sp):List Sp:=yt size (x.1+x.2) 1024 x.1
def gZ (us:List Sp) (size:Int):List Sp:=if eG us=0/\1<=size/\size<=1024 then us.flatMap (qP size) else []
theorem Z8 {size a:Int} (hs:1<=size):a<tX size a/\tX size a<=a+size:=by
 unfold tX;have h:=Int.emod_add_mul_ediv a size;have h1:=Int.emod_nonneg a (show size≠0 by omega);have h2:=Int.emod_lt_of_pos a (show 0<size by omega);rw [Int.add_mul,Int.one_mul,Int.mul_comm (a / size) size];omega
theorem Ja {size en a:Int} {k:Nat} (h:a<en):yt size en (k+1) a=(a,min (tX size a) en - a)::yt size en k (min (tX size a) en):=by rw [yt,if_pos h]
theorem Ns {size en a:Int} {k:Nat} (h:¬a<en):yt size en k a=[]:=by
 cases k with
 | zero=>rfl
 | succ k=>rw [yt,if_neg h]
theorem VB (us:List Sp) (size:Int) (k:Nat) (hk:k<us.length):(us.take (k+1)).flatMap (qP size)=(us.take k).flatMap (qP size)++qP size (us.getD k (0,0)):=by
 have e:us.take (k+1)=us.take k++[us.getD k (0,0)]:=by
  rw [List.take_add_one,List.getElem?_eq_getElem hk,List.getD_eq_getElem?_getD,List.getElem?_eq_getElem hk];rfl
 rw [e,List.flatMap_append];simp
theorem Z9 (us:List Sp) (size:Int) (k:Nat):(us.take k).flatMap (qP size) <+: us.flatMap (qP size):=by
 refine ⟨(us.drop k).flatMap (qP size),?_⟩;rw [<-List.flatMap_append,List.take_append_drop]
theorem VD (a:Int):tX 1 a=a+1:=by unfold tX;rw [Int.ediv_one];omega
theorem Nt (en:Int):∀(k:Nat) (a:Int),en - a<=k->(yt 1 en k a).map (·.1)=fJ (a,0) (en - a).toNat
 | 0,a,h=>by rw [show (en - a).toNat=0 by omega];simp [yt,fJ]
 | k+1,a,h=>by
  by_cases hlt:a<en
  ·rw [Ja hlt,VD,List.map_cons,show min (a+1) en=a+1 by omega,Nt en k (a+1) zo,show (en - a).toNat=(en - (a+1)).toNat+1 by omega,DK]
  ·rw [Ns hlt,show (en - a).toNat=0 by omega];simp [fJ]
theorem Rt {us:List Sp} (h:Can us):(gZ us 1).map (·.1)=bA us:=by
 unfold gZ;rw [if_pos ⟨bI.2 h,zo,zo⟩];have hv:=h.1;clear h;induction us with
 | nil=>rfl
 | cons x r ih =>
  have hx:=av.1 (hv x zs);rw [List.flatMap_cons,List.map_append,ih (λy hy=>hv y (by simp [hy])),jl,qP,Nt _ _ _ zo];congr 1;rw [show (x.1+x.2 - x.1).toNat=x.2.toNat by omega];rfl
def YQ {α:Type} (P:Program) (g:Nat) (lb:Array Value) (encs:α->Array Value) (T K:Nat->Prop) (xs:List α) (w:World):Prop :=
 ∀(n l:Nat) (J Jx:(Nat->Prop)->List α->World->Prop) (W:World),ag (λk=>¬K k) w W ->
  (∀X pre A B,J X pre A->ag (λk=>T k\/X k) A B->J X pre B)->(∀X pre A B,Jx X pre A->ag (λk=>T k\/X k) A B->Jx X pre B) ->
  (∀X X' pre A,J X pre A->(∀k,X' k->X k\/A.heap.size<=k)->J X' pre A) ->
  (∀m X pre x W1,J X pre W1->(∀k,X k->k<W1.heap.size)->pre++[x] <+: xs->YieldAt Fence.wide m P l (encs x) W1 λe W' =>
   (e= .returned (.bool true)/\J X (pre++[x]) W'/\ag (λk=>¬(K k\/X k)) W1 W')\/(e= .returned (.bool false)/\Jx X (pre++[x]) W'/\ag (λk=>¬(K k\/X k)) W1 W')) ->
  J (λ_=>False) [] W ->
  CallsIn Fence.wide n P g (#[.func (.yield l) #[] #[]]++lb) W λe W'=>(∃v,e= .returned v)/\((∃X,J X xs W')\/∃X pre,pre <+: xs/\Jx X pre W')
def acz {α:Type} (D:Nat) (K X:Nat->Prop) (I:(Nat->Prop)->List α->World->Prop) (Ix:Code->(Nat->Prop)->List α->World->Prop) (xs:List α) (W:World):Exit->Act->World->Prop
 | .normal,_,W'=>ag (λk=>¬(K k\/X k\/k=D\/k=D+1)) W W'/\I X xs W'
 | .ret,_,W'=>ag (λk=>¬(K k\/X k\/k=D\/k=D+1)) W W'/\Ix .ret X xs W'
 | .exit id,_,W'=>ag (λk=>¬(K k\/X k\/k=D\/k=D+1)) W W'/\Ix (.exit id) X xs W'
 | .goto t,_,W'=>ag (λk=>¬(K k\/X k\/k=D\/k=D+1)) W W'/\Ix (.goto t) X xs W'
 | .panic _,_,_=>False
 | .outgrown,_,_=>False
theorem agC {α:Type} {P:Program} {g:Operand} {ps:Array Tmp} {assign body:Code} {Q:Exit->Act->World->Prop} {a:Act} {w:World}
  {gf:Nat} {lb:Array Value} (hg:a.eval g= .func (.func gf) #[] lb) (eg:∀args w,(callFunc gf args).run P w= .ok (.enter gf args) w)
  {encs:α->Array Value} {T K:Nat->Prop} {xs:List α} (hseq:YQ P gf lb encs T K xs w) (hps:∀x,(encs x).size=ps.size)
  (hT:∀k,T k->k<w.heap.size) (hK:∀k,K k->k<w.heap.size)
  (I:(Nat->Prop)->List α->World->Prop) (Ix:Code->(Nat->Prop)->List α->World->Prop)
  (hI:∀X pre A B,I X pre A->ag (λk=>T k\/X k\/k=w.heap.size\/k=w.heap.size+1) A B->I X pre B)
  (hIx:∀c X pre A B,Ix c X pre A->ag (λk=>T k\/X k\/k=w.heap.size\/k=w.heap.size+1) A B->Ix c X pre B)
  (hnew:∀X X' pre A,I X pre A->(∀k,X' k->X k\/A.heap.size<=k)->I X' pre A)
  (h0:I (λ_=>False) [] w) (Ax:Nat->α->Act->World->Prop) (hAx:∀N x a' A B,Ax N x a' A->ag (λk=>k=w.heap.size+1) A B->Ax N x a' B)
  (hassign:∀(m l:Nat) (x:α) (W:World) (C:Act->World->Prop),w.heap.size+2<=W.heap.size->(∀a' W',ag (λ_=>False) W W'->Ax W.heap.size x a' W'->C a' W') ->
   assign.wpIn (Fence.wide.inRound l) m P (Exit.then C (λ_ _ _=>False)) { tmps:=(ps.zip (encs x)).foldl (λt (p,v)=>t.setIfInBounds p v) a.tmps,defers:=[] } W)
  (hbody:∀(m l:Nat) (X:Nat->Prop) (pre:List α) (x:α) (a':Act) (Wa W:World),w.heap.size+2<=W.heap.size->(∀k,X k->k<Wa.heap.size/\k≠w.heap.size/\k≠w.heap.size+1)->I X pre W->Ax Wa.heap.size x a' W->pre++[x] <+: xs->I X pre Wa->ag (λk=>k=w.heap.size+1) Wa W ->
   body.wpIn (Fence.wide.inRound l) m P (acz w.heap.size K X I Ix (pre++[x]) W) a' W)
  (hdone:∀(X:Nat->Prop) (W:World),w.heap.size+2<=W.heap.size->I X xs W->W.heap[w.heap.size]? = some (.deferred (some []))->Q .normal { a with defers:=dB w.heap.size::a.defers } W)
  (hstop:∀(c:Code) (X:Nat->Prop) (pre:List α) (W:World),w.heap.size+2<=W.heap.size->pre <+: xs->Ix c X pre W->W.heap[w.heap.size]? = some (.deferred (some []))->c.wp P Q { a with defers:=dB w.heap.size::a.defers } W) :
  (Code.rangeFunc g ps assign body).wp P Q a w:=by
 refine (wpIn_wide (n:=0)).1 (wpIn_rangeFunc λfn _=>?_);obtain ⟨D,hD⟩:=ah (w.heap.size)
 -- the loop's record, in its three states
 obtain ⟨rec,hrec⟩:∃rec:LoopState->Option Code->Loop,rec=λs p=>{ state:=s,pending:=p,fn,tmps:=a.tmps,params:=ps,assign,body,defers:=D }:=⟨_,rfl⟩
 obtain ⟨W1,hW1⟩:=ah ((w.alloc (.deferred (some []))).alloc (.loop (rec .ready none)));have hent:(Instr.enterLoop fn a.tmps ps assign body none).run P w= .ok (D+1,[dB D]) W1:=by
  exact Iz
 have mH:ag (λ_=>False) w W1:=by rw [<-hW1];exact ((ag.refl _ w).alloc _).alloc _
 have hl1:W1.heap[D+1]? = some (.loop (rec .ready none)):=by
  exact QH
 have hd1:W1.heap[D]? = some (.deferred (some [])):=by
  exact Iy
 rw [hD] at hT hK hI hIx hAx hassign hbody hdone hstop;refine ⟨D+1,[dB D],W1,{ target:=.fn (.func gf) lb,args:=#[.func (.yield (D+1)) #[] #[]] },W1,gf,#[.func (.yield (D+1)) #[] #[]]++lb,W1,hent,?_,λ_ _=>trivial,?_,λh=>(by cases h),?_⟩
 ·simp only [resolve,hg]
  simp [go_sem]
 ·simp [invoke,go_sem,eg]
 -- what the iterator carries: the loop's invariant, the record, the block for deferred calls
 let J:(Nat->Prop)->List α->World->Prop:=λX pre W=>I X pre W/\W.heap[D+1]? = some (.loop (rec .ready none))/\W.heap[D]? = some (.deferred (some []))/\¬X D/\¬X (D+1)
 let Jx:(Nat->Prop)->List α->World->Prop:=λX pre W=>∃c,Ix c X pre W/\W.heap[D+1]? = some (.loop (rec .done (some c)))/\W.heap[D]? = some (.deferred (some []))/\¬X D/\¬X (D+1)
 have xz:∀k,T k->k≠D/\k≠D+1:=λk hk=>by have:=hT k hk;omega
 have Bh:∀k,K k->k≠D/\k≠D+1:=λk hk=>by have:=hK k hk;omega
 have up:∀{X:Nat->Prop} {k:Nat},T k\/X k->T k\/X k\/k=D\/k=D+1:=λh=>h.elim .inl (λh=>.inr (.inl h))
 refine (hseq _ (D+1) J Jx W1 (mH.mono (λ_ _ h=>h.elim))
  (λX pre A B h hf=>⟨hI X pre A B h.1 (hf.mono λ_ _ ht=>up ht),hf.same h.2.1 (λh'=>h'.elim (λh=>(xz _ h).2 rfl) h.2.2.2.2),hf.same h.2.2.1 (λh'=>h'.elim (λh=>(xz _ h).1 rfl) h.2.2.2.1),h.2.2.2⟩)
  (λX pre A B h hf=>by
   obtain ⟨c,h1,h2,h3,h4,h5⟩:=h;exact ⟨c,hIx c X pre A B h1 (hf.mono λ_ _ ht=>up ht),hf.same h2 (λh'=>h'.elim (λh=>(xz _ h).2 rfl) h5),hf.same h3 (λh'=>h'.elim (λh=>(xz _ h).1 rfl) h4),h4,h5⟩)
  (λX X' pre A h hX=>by
   have l1:D<A.heap.size:=(Array.getElem?_eq_some_iff.1 h.2.2.1).1;have l2:D+1<A.heap.size:=(Array.getElem?_eq_some_iff.1 h.2.1).1;exact ⟨hnew X X' pre A h.1 hX,h.2.1,h.2.2.1,λhd=>(hX _ hd).elim h.2.2.2.1 (λh=>by omega),λhd=>(hX _ hd).elim h.2.2.2.2 (λh=>by omega)⟩)
  ?_ ⟨hI _ [] w W1 h0 (mH.mono λ_ _ h=>h.elim),hl1,hd1,id,id⟩).mono ?_
 ·-- a round
  rintro m X pre x Wa ⟨hi,hl,hd,LJ,yF⟩ hXlt hpre;have hlt:D+1<Wa.heap.size:=(Array.getElem?_eq_some_iff.1 hl).1;have hy:=run_yield (P:=P) (args:=encs x) hl (by rw [hrec];exact hps x);rw [hrec] at hy;refine ⟨fn,_,assign,body,hy,roundIn_of_wpIn trivial (hassign m (D+1) x Wa _ zo λa' Wb hab hax=>?_)⟩;have hlb:=hab.same hl id;have LH:=hab.same hd id;have hib:=hI X pre Wa Wb hi (hab.mono λ_ _ h=>h.elim);have Iw:D+1<Wb.heap.size:=(Array.getElem?_eq_some_iff.1 hlb).1;refine ⟨_,run_beginRound hlb (by rw [hrec]),?_⟩;obtain ⟨Wc,hWc⟩:=ah (Wb.putObj (D+1) (.loop { rec .ready none with state:=.busy }));rw [hWc];have hbc:ag (λk=>k=D+1) Wb Wc:=by rw [<-hWc];exact ag.putObj (T:=λk=>k=D+1) (ag.refl _ Wb) (λ_=>rfl) _
  have hlc:Wc.heap[D+1]? = some (.loop { rec .ready none with state:=.busy }):=by rw [<-hWc];exact World.putObj_heap_same Iw
  have ZF:Wc.heap[D]? = some (.deferred (some [])):=hbc.same LH zo;have abv:D+1<Wc.heap.size:=(Array.getElem?_eq_some_iff.1 hlc).1;refine wpIn_mono (hbody m (D+1) X pre x a' Wa Wc zo (λk hk=>⟨hXlt k hk,λh=>LJ (h ▸ hk),λh=>yF (h ▸ hk)⟩) (hI X pre Wb Wc hib (hbc.mono λ_ _ h=>.inr (.inr (.inr h)))) (hAx _ x a' Wb Wc hax hbc) hpre hi ((hab.mono λ_ _ h=>h.elim:ag (λk=>k=D+1) Wa Wb).trans hbc)) ?_
  -- what 'endRound' makes of it
  have fin:∀(j:Option Code) (Wd:World),ag (λk=>¬(k=D\/k=D+1)) Wc Wd ->
    (Instr.endRound (D+1) j).run P Wd= .ok (.bool j.isNone) (Wd.putObj (D+1) (.loop (rec (if j.isNone then .ready else .done) j))) /\
    (Wd.putObj (D+1) (.loop (rec (if j.isNone then .ready else .done) j))).heap[D+1]? = some (.loop (rec (if j.isNone then .ready else .done) j)) /\
    (Wd.putObj (D+1) (.loop (rec (if j.isNone then .ready else .done) j))).heap[D]? = some (.deferred (some [])):=λj Wd hcd=>by
   exact abw
  have back:∀(Y:Nat->Prop) (o:Obj) (Wd:World),ag (λk=>T k\/Y k\/k=D\/k=D+1) Wd (Wd.putObj (D+1) o):=λY o Wd=>(ag.refl _ Wd).putObj (λ_=>.inr (.inr (.inr rfl))) o
  intro e a3 Wd hp;cases e with
  | normal =>
   exact ah6
  | ret =>
   obtain ⟨hcd,hid⟩:=hp;obtain ⟨h1,h2,h3⟩:=fin (some .ret) Wd (hcd.mono λk _ h h'=>h (.inr (.inr h')));exact ⟨_,_,h1,.inr ⟨rfl,⟨.ret,hIx _ _ _ _ _ hid (back _ _ Wd),h2,h3,LJ,yF⟩,(((hab.mono λ_ _ h=>h.elim:ag (λk=>¬(K k\/X k)) Wa Wb).trans (hbc.mono λk _ h hk=>hk.elim (λhk=>(Bh k hk).2 h) (λhk=>yF (h ▸ hk)))).trans (hcd.mono λk _ h hk=>h (hk.elim .inl (λh=>.inr (.inl h))))).putObj (λ_ hk=>hk.elim (λhk=>(Bh _ hk).2 rfl) yF) _⟩⟩
  | exit id =>
   obtain ⟨hcd,hid⟩:=hp;obtain ⟨h1,h2,h3⟩:=fin (some (.exit id)) Wd (hcd.mono λk _ h h'=>h (.inr (.inr h')));exact ⟨_,_,h1,.inr ⟨rfl,⟨.exit id,hIx _ _ _ _ _ hid (back _ _ Wd),h2,h3,LJ,yF⟩,(((hab.mono λ_ _ h=>h.elim:ag (λk=>¬(K k\/X k)) Wa Wb).trans (hbc.mono λk _ h hk=>hk.elim (λhk=>(Bh k hk).2 h) (λhk=>yF (h ▸ hk)))).trans (hcd.mono λk _ h hk=>h (hk.elim .inl (λh=>.inr (.inl h))))).putObj (λ_ hk=>hk.elim (λhk=>(Bh _ hk).2 rfl) yF) _⟩⟩
  | goto t =>
   obtain ⟨hcd,hid⟩:=hp;obtain ⟨h1,h2,h3⟩:=fin (some (.goto t)) Wd (hcd.mono λk _ h h'=>h (.inr (.inr h')));exact ⟨_,_,h1,.inr ⟨rfl,⟨.goto t,hIx _ _ _ _ _ hid (back _ _ Wd),h2,h3,LJ,yF⟩,(((hab.mono λ_ _ h=>h.elim:ag (λk=>¬(K k\/X k)) Wa Wb).trans (hbc.mono λk _ h hk=>hk.elim (λhk=>(Bh k hk).2 h) (λhk=>yF (h ▸ hk)))).trans (hcd.mono λk _ h hk=>h (hk.elim .inl (λh=>.inr (.inl h))))).putObj (λ_ hk=>hk.elim (λhk=>(Bh _ hk).2 rfl) yF) _⟩⟩
  | panic ch=>exact hp.elim
  | outgrown=>exact hp.elim
 ·-- behind the iterator
  exact ah5
theorem Rv {F:Fence} {n:Nat} {P:Program} {l l':Nat} {f:FuncId} {tmps:Array Value} {assign body:Code} {w:World} {R:Ending->World->Prop} (h:RoundIn F n P l f tmps assign body w R):RoundIn (F.inRound l') n P l f tmps assign body w R:=h
def qQ (l:List Sp):List Int:=l.map (·.1)
theorem VE (l:List Sp) (x:Sp):qQ (l++[x])=qQ l++[x.1]:=by simp [qQ]
theorem Nu {a b:List Sp} (h:a <+: b):qQ a <+: qQ b:=by
 obtain ⟨r,rfl⟩:=h;exact ⟨qQ r,by simp [qQ]⟩
abbrev inA (p:Int):Array Value:=#[zI p]
theorem acB {P:Program} {g:Operand} {ps:Array Tmp} {assign body:Code} {Q:Exit->Act->World->Prop} {a:Act} {w:World} (ia pb:Nat)
  {gf:Nat} {lb:Array Value} (hg:a.eval g= .func (.func gf) #[] lb) (eg:∀args w,(callFunc gf args).run P w= .ok (.enter gf args) w)
  {T K:Nat->Prop} {xs:List Int} (hseq:YQ P gf lb inA T K xs w) (hps:ps=#[pb])
  (hT:∀k,T k->k<w.heap.size) (hK:∀k,K k->k<w.heap.size)
  (I:(Nat->Prop)->List Int->World->Prop) (Ix:Code->(Nat->Prop)->List Int->World->Prop)
  (hI:∀X pre A B,I X pre A->ag (λk=>T k\/X k\/k=w.heap.size\/k=w.heap.size+1) A B->I X pre B)
  (hIx:∀c X pre A B,Ix c X pre A->ag (λk=>T k\/X k\/k=w.heap.size\/k=w.heap.size+1) A B->Ix c X pre B)
  (hnew:∀X X' pre A,I X pre A->(∀k,X' k->X k\/A.heap.size<=k)->I X' pre A)
  (h0:I (λ_=>False) [] w)
  (hassign:∀(m l:Nat) (x:Int) (W:World) (C:Act->World->Prop),
   C { tmps:=(a.tmps.setIfInBounds pb (zI x)).setIfInBounds ia (zI x),defers:=[] } W ->
   assign.wpIn (Fence.wide.inRound l) m P (Exit.then C (λ_ _ _=>False)) { tmps:=a.tmps.setIfInBounds pb (zI x),defers:=[] } W)
  (hbody:∀(m l:Nat) (X:Nat->Prop) (pre:List Int) (x:Int) (Wa W:World),w.heap.size+2<=W.heap.size->(∀k,X k->k<Wa.heap.size/\k≠w.heap.size/\k≠w.heap.size+1)->I X pre W->pre++[x] <+: xs->Wa.heap.size<=W.heap.size ->
   body.wpIn (Fence.wide.inRound l) m P (acz w.heap.size K X I Ix (pre++[x]) W) { tmps:=(a.tmps.setIfInBounds pb (zI x)).setIfInBounds ia (zI x),defers:=[] } W)
  (hdone:∀(X:Nat->Prop) (W:World),w.heap.size+2<=W.heap.size->I X xs W->W.heap[w.heap.size]? = some (.deferred (some []))->Q .normal { a with defers:=dB w.heap.size::a.defers } W)
  (hstop:∀(c:Code) (X:Nat->Prop) (pre:List Int) (W:World),w.heap.size+2<=W.heap.size->pre <+: xs->Ix c X pre W->W.heap[w.heap.size]? = some (.deferred (some []))->c.wp P Q { a with defers:=dB w.heap.size::a.defers } W) :
  (Code.rangeFunc g ps assign body).wp P Q a w:=by
 subst hps;refine agC hg eg hseq (λ_=>rfl) hT hK I Ix hI hIx hnew h0
  (λ_ x a' _=>a'={ tmps:=(a.tmps.setIfInBounds pb (zI x)).setIfInBounds ia (zI x),defers:=[] })
  (λ_ _ _ _ _ h _=>h) ?_ ?_ hdone hstop
 ·intro m l x W C hs hC
  have e:(#[pb].zip (inA x)).foldl (λt (p,v)=>t.setIfInBounds p v) a.tmps=a.tmps.setIfInBounds pb (zI x):=by simp [inA]
  rw [e];exact hassign m l x W C (hC _ _ (ag.refl _ W) rfl)
 ·rintro m l X pre x a' Wa W hs hX hi rfl hpre _ hfa
  exact hbody m l X pre x Wa W hs hX hi hpre hfa.size
theorem xM {p:Int} {us:List Sp}:p∈bA us↔mem p us=true:=by
 unfold bA mem;simp only [List.mem_flatMap,List.mem_map,List.mem_range,List.any_eq_true,Bool.and_eq_true,decide_eq_true_eq];constructor
 ·rintro ⟨x,hx,k,hk,rfl⟩
  exact ⟨x,hx,zo,zo⟩
 ·rintro ⟨x,hx,h1,h2⟩
  exact ⟨x,hx,(p - x.1).toNat,zo,zo⟩
theorem Mc {P:Program} {ops:Array Oper} {Q:Exit->Act->World->Prop} {l m i:Nat} {K:Act->World->Prop} {a:Act} {w:World} (hd:∀o:Oper,ops[i]? = some o->∀c,o.op≠.defer c) (hno:¬LetsOut Q)
  (h:wpOp P ops Q i K a w):wpOpIn (Fence.wide.inRound l) m P ops Q i K a w:=by
 unfold wpOp at h;unfold wpOpIn;split
 ·rename_i ho;simpa only [ho] using h
 ·rename_i o ho
  simp only [ho] at h;split
  ·rename_i hw
   simp only [hw,if_true] at h;rcases h with h|⟨_,h⟩
   ·unfold Oper.wpIn
    refine ⟨λ_ _=>trivial,?_⟩;rw [Fence.inRound_round,Oper.semAt_some l _ _ (hd o ho)];unfold Oper.wp at h;generalize (execOp a.eval o).run P w=r at *;cases r with
    | ok x w' =>
     cases x <;> simp only [Oper.upon,Oper.uponIn] at h ⊢ <;> first
      | exact h
      | exact ⟨λh0=>(by cases h0),(CallsIn.inRound l (callsIn_wide.2 h)).mono λe w'' he=>by cases e <;> exact he⟩
      | exact ⟨λh0=>(by cases h0),λc cs _=>let ⟨v,w'',r,s⟩:=h c cs;⟨v,w'',r,stepsIn_wide.2 s⟩⟩
    | halt x w'=>cases x <;> simp only [Oper.upon,Oper.uponIn] at h ⊢ <;> exact h
   ·exact absurd h hno
  ·rename_i hw
   simp only [hw] at h;exact ⟨λ_ _=>trivial,h⟩
theorem tZ {P:Program} {ops:Array Oper} {Q:Exit->Act->World->Prop} {md:Region.Mode} {l m:Nat} (hd:∀(i:Nat) (o:Oper),ops[i]? = some o->∀c,o.op≠.defer c) (hno:¬LetsOut Q) :
  ∀(fuel:Nat) (listed:Array Bool) (a:Act) (w:World),wpAny P md ops Q fuel listed a w->wpAnyIn (Fence.wide.inRound l) m P md ops Q fuel listed a w
 | 0,_,_,_,h=>h
 | fuel+1,_,_,_,h=>⟨h.1,λi hi=>wpOpIn_mono (λa w h=>tZ hd hno fuel _ a w h) (Mc (hd i) hno (h.2 i hi))⟩
def Jh (ops:Array Oper):Bool:=ops.all λo=>match o.op with
 | .defer _=>false
 | _=>true
theorem BJ {ops:Array Oper} (h:Jh ops=true) (i:Nat) (o:Oper) (ho:ops[i]? = some o) (c:Call):o.op≠.defer c:=λe=>by
 have:=(Array.all_eq_true_iff_forall_mem.1 h) o (Array.mem_of_getElem? ho);rw [e] at this;cases this
theorem Ji {P:Program} {ops:Array Oper} {Q:Exit->Act->World->Prop} {id l m:Nat} {a:Act} {w:World} (S:World->Prop) (tl:List Nat) (hm:P.follows .mixedOrders=true) (hd:Jh ops=true) (hno:¬LetsOut Q)
  (h:eQ P .any ops Q S tl ops.size (Array.replicate ops.size false) a w.drew):(Code.region id ops true).wpIn (Fence.wide.inRound l) m P Q a w :=
 wpIn_region_any hm (tZ (BJ hd) hno _ _ _ _ (yZ _ _ _ _ h))
theorem Md {F:Fence} {m:Nat} {P:Program} {c:Code} {Q:Exit->Act->World->Prop} {a:Act} {w:World} (h:c.wpIn F m P (I1 Q) a w):c.wpIn F m P Q a w :=
 wpIn_mono h (λe a w h=>by cases e <;> first|exact h.elim|exact h)
section
variable {P:Program}
theorem nQ {id lr m:Nat} {Q:Exit->Act->World->Prop} {a:Act} {w:World} {l:List Oper} (n:Nat) (hm:P.follows .mixedOrders=true) (hd:Jh l.toArray=true) (hno:¬LetsOut Q) (hB:Region.lexTailB .any l.toArray n=true)
  (h:wpQuiet P l.toArray (λw'=>∃x:Ext w,w'=x.w) (λa'=>∀x:Ext w,wpList P l.toArray Q (l.drop n) a' x.w) (l.take n) a):(Code.region id l.toArray true).wpIn (Fence.wide.inRound lr) m P Q a w:=by
 simp only [Region.lexTailB,Bool.and_eq_true,decide_eq_true_eq] at hB;obtain ⟨⟨⟨⟨hsel,hn⟩,hs⟩,hc⟩,hlex⟩:=hB;have hn':n<l.length:=by simpa using hn
 have htl:(l.take n).length=n:=by simp;omega
 have hdl:(l.drop n).length=l.toArray.size - n:=by simp
 have inv0:HeadInv .any l.toArray n (Array.replicate l.toArray.size false) :=
  ⟨zs,λj oj _ hl=>(by rw [getD_replicate_false] at hl;cases hl),λt _ ht=>getD_in (by simpa using ht) (getD_replicate_false _ _)⟩
 have H:=Ck (md:=.any) (g:=l.toArray.size - n) hsel hs hc hn (l.take n) 0 _ a (λj hj=>by
  have hj':j<n:=by rw [htl] at hj;exact hj
  simp [hj']) (by simpa using htl) inv0 (by rw [htl];exact hlex) h
 refine wpIn_region_any hm (tZ (BJ hd) hno _ _ _ _ ?_);exact ah3
end
theorem CK {α:Type} {enc:α->List Value} {sz:Nat} (hl:∀x,(enc x).length=sz) (d:α) (f:α->α) (q:Nat) (v:Value):∀(L:List α) (i:Nat),i<L.length->q<sz->enc (f (L.getD i d))=(enc (L.getD i d)).set q v->fl enc (L.modify i f)=(fl enc L).set (i*sz+q) v
 | [],i,h,_,_=>by simp at h
 | x::r,0,_,hq,he=>by
  rw [List.getD_cons_zero] at he;rw [List.modify_zero_cons,tH,tH,he,Nat.zero_mul,Nat.zero_add,List.set_append_left _ _ (by rw [hl];exact hq)]
 | x::r,i+1,h,hq,he=>by
  rw [List.getD_cons_succ] at he;rw [List.modify_succ_cons,tH,tH,CK hl d f q v r i (by simpa using h) hq he,List.set_append_right _ _ (by rw [hl,Nat.succ_mul];omega),hl];congr 2;rw [Nat.succ_mul];omega
theorem il {w:World} {base n sz g i cap:Nat} {e:TypeId} {xs:List Value} {v:Value} (h:w.ownsRow base e sz (.slice (some ⟨g,0,none⟩) n cap) n xs) :
  (w.setCell ⟨g,i,none⟩ v).ownsRow base e sz (.slice (some ⟨g,0,none⟩) n cap) n (xs.set i v):=by
 refine ⟨by rw [List.length_set];exact h.1,?_⟩;rcases h.2 with ⟨hn,_⟩|⟨g',cap',cur,hv,hb,hk,hc,hm,hs,ht⟩
 ·cases hn
 ·cases hv
  have hk':af w g e cur:=hk;refine .inr ⟨g,cap,cur.setIfInBounds i v,rfl,hb,hk'.aM i v,hc,hm,by rw [Array.size_setIfInBounds];exact hs,?_⟩;rw [Array.toList_setIfInBounds,List.take_set,ht]
theorem bz.put {w:World} {b:Nat} {L:List Nd} (h:bz w b L) {i:Nat} (hi:i<L.length) :
  ∃(g cap:Nat),L.length<=cap/\cap<=maxLen/\af w b 145 #[.bool true,.slice (some ⟨g,0,none⟩) L.length cap]/\lD b w g/\g<w.heap.size/\(∀(q:Nat) (v:Value),(UJ (L.getD i nd0))[q]? = some v->w.cell? ⟨g,i*6+q,none⟩=some v)/\(∀o,w.frozen? ⟨g,o,none⟩=false) /\
   ∀(w':World),Below w.heap.size w w'->∀(q:Nat) (v:Value) (f:Nd->Nd),q<6->UJ (f (L.getD i nd0))=(UJ (L.getD i nd0)).set q v->bz (w'.setCell ⟨g,i*6+q,none⟩ v) b (L.modify i f)/\ag (λk=>k=g) w (w'.setCell ⟨g,i*6+q,none⟩ v):=by
 have h0:=h;obtain ⟨A,cap,k,r⟩:=h.ex;rcases r.2 with ⟨hv,h0⟩|⟨g,cap',cur,hv,hbs,hk,hn,hm,_,ht⟩
 ·omega
 ·cases hv
  have hkg:af w g 142 cur:=hk;refine ⟨g,cap,hn,hm,k,⟨zo,cur,hk⟩,af.lt hk,λq v hq=>?_,λo=>af.frozen hk o,λw' hw' q v f hq hf=>?_⟩
  ·have He:q<6:=by rw [<-yX (L.getD i nd0)];exact (List.getElem?_eq_some_iff.1 hq).1
   have h1:=yV yX nd0 L i hi q He;rw [hq] at h1;have:=r.cells (g:=g) rfl (i*6+q) v h1;exact OC
  ·have r':=aI r hw'
   have k':=k.call hw';have hbg:b≠g:=λe=>af.vN k hkg zd e
   have F:ag (λk=>k=g) w' (w'.setCell ⟨g,i*6+q,none⟩ v):=ag.setCell (T:=λk=>k=g) (p:=⟨g,i*6+q,none⟩) (ag.refl _ _) (λ_=>rfl) _;have r2:=il (i:=i*6+q) (v:=v) r';rw [<-CK yX nd0 f q v L i hi hq hf] at r2;refine ⟨⟨some ⟨g,0,none⟩,cap,?_,?_⟩,(ag.of_below hw').trans F⟩
   ·rw [List.length_modify];exact F.blk k' hbg
   ·rw [List.length_modify];exact r2
theorem bz.aiA {w w':World} {b:Nat} {L:List Nd} {T:Nat->Prop} (h:bz w b L) (hF:ag T w w') (hb:¬T b) (hN:∀g cap,af w b 145 #[.bool true,.slice (some ⟨g,0,none⟩) L.length cap]->¬T g):bz w' b L:=by
 obtain ⟨A,cap,k,r⟩:=h.ex;refine ⟨A,cap,hF.blk k hb,aN r hF (λg hg ht=>?_)⟩;rcases r.2 with ⟨hv,_⟩|⟨g',cap',cur,hv,_,hk,_⟩
 ·rw [hv] at hg;cases hg
 ·rw [hv] at hg
  have e':g'=g:=by injection hg
  subst e';rw [hv] at k;exact hN g' cap' k ht
theorem DN {w:World} {b n g g' cap cap':Nat} (h:af w b 145 #[.bool true,.slice (some ⟨g,0,none⟩) n cap]) (k:af w b 145 #[.bool true,.slice (some ⟨g',0,none⟩) n cap']):g'=g:=by
 have h1:=h.cell 1;have h2:=k.cell 1;rw [h1] at h2;simp at h2;exact h2.1.symm
def f1B (p:Int) (x:Nd):Nd:={ x with all:=x.all+p }
def f2B (x:Nd):Nd:={ x with jk:=max x.jk x.all }
theorem aoC (L:List Nd) (i:Nat) (p:Int):(L.modify i (f1B p)).modify i f2B=L.modify i (tJ p):=by
 apply List.ext_getElem?;intro j;rw [iT,iT,iT];by_cases h:i=j
 ·rw [if_pos h,if_pos h,if_pos h,Option.map_map];rfl
 ·rw [if_neg h,if_neg h,if_neg h]
def YR (L:List Nd):Prop:=∀i,i<L.length->-100000<=(L.getD i nd0).all/\(L.getD i nd0).all<=100000/\-100000<=(L.getD i nd0).jk/\(L.getD i nd0).jk<=100000
theorem aab (ps:List Nat) (L:List Nd) (p:Int) (hn:ps.Nodup) (i:Nat) (hi:i∉ps):(ps.foldl (λL i=>L.modify i (tJ p)) L).getD i nd0=L.getD i nd0:=by
 rw [List.getD_eq_getElem?_getD,Cq _ _ _ hn,if_neg hi,<-List.getD_eq_getElem?_getD]
def O0 (b:Nat) (L:List Nd) (w w':World):Prop:=bz w' b L/\ag (lD b w) w w'
theorem lD.back {b:Nat} {w w1:World} {k:Nat} (hF:ag (lD b w) w w1) (hk:k<w.heap.size) (h:lD b w1 k):lD b w k:=by
 by_cases h0:lD b w k
 ·exact h0
 ·obtain ⟨hb,cs,hcs⟩:=h
  exact ⟨hb,cs,(hF.block k hk h0).symm.trans hcs⟩
theorem lD.trans {b:Nat} {w w1 w2:World} (hF:ag (lD b w) w w1) (hG:ag (lD b w1) w1 w2):ag (lD b w) w w2:=hF.trans' hG (λ_ hi h=>lD.back hF hi h)
theorem lD.one {b:Nat} {w w1 w2:World} {g:Nat} (hF:ag (lD b w) w w1) (hg:lD b w1 g) (hG:ag (λk=>k=g) w1 w2):ag (lD b w) w w2:=hF.trans' hG (λ_ hi e=>lD.back hF hi (by subst e;exact hg))
theorem jP.small {L:List Nd} (h:bf L) (n:Nat) (f:Nd->Nd) (hf:∀x,(f x).all=x.all/\(f x).jk=x.jk):YR (L.modify n f):=λi hi=>by
 rw [List.length_modify] at hi;have hc:=h.get hi;rw [List.getD_eq_getElem?_getD,iT,List.getElem?_eq_getElem hi];rw [List.getD_eq_getElem?_getD,List.getElem?_eq_getElem hi] at hc;by_cases e:n=i
 ·rw [if_pos e]
  simp only [Option.map_some,Option.getD_some] at hc ⊢;rw [(hf _).1,(hf _).2];omega
 ·rw [if_neg e]
  simp only [Option.getD_some] at hc ⊢;omega
end Go.Pol
namespace Go.Proofs.YtlgcpjhimomiaaaGreat
open Go Go.Proofs Go.RowKit Go.Pol Go.Shelf Go.Sort Tryz
def tV (x:Sp):List Value:=[zI x.1,zI x.2]
theorem Gi (us:List Sp):(flatK tV 2 us.toArray).toList=ax us:=by
 apply List.ext_getElem?;intro t;have hl:=dN us;by_cases ht:t<us.length*2
 ·have h1:(flatK tV 2 us.toArray).toList[t]? = some ((tV us.toArray[t / 2]!)[t % 2]!):=by
   rw [<-get_flatK tV 2 us.toArray t (by simpa using ht)];rw [Array.getElem?_toList,getElem!_pos _ t (by simpa using ht),Array.getElem?_eq_getElem (by simpa using ht)]
  rw [h1];have hk:t / 2<us.length:=zo;have hat:=qJ us (t / 2) hk;have hg:us.toArray[t / 2]! = us.getD (t / 2) (0,0):=by
   rw [List.getD_eq_getElem?_getD,List.getElem?_eq_getElem hk,getElem!_pos _ _ (by simpa using hk)];simp
  rw [hg];rcases Nat.mod_two_eq_zero_or_one t with h|h
  ·rw [h,show t=t / 2*2 by omega,hat.1];simp [tV]
  ·rw [h]
   have e:t=t / 2*2+1:=zo;generalize t / 2=k at *;subst e;rw [hat.2];simp [tV]
 ·rw [List.getElem?_eq_none (by simp;omega),List.getElem?_eq_none zo]
theorem Vv {w:World} {g m:Nat} {os:Array Obj} {cur:Array Value} {e:TypeId} {fr:Nat×Nat} (F:Array Value) (hb:w.heap[g]? = some (.cells cur e fr)) :
  (grow (putRow id (Sort.ahead w m) g 0 F) os).heap[g]? = some (.cells (putCells id 0 F cur) e fr):=by
 have hg:g<w.heap.size:=(Array.getElem?_eq_some_iff.1 hb).1;rw [heap_grow_old _ _ (by simpa using hg)];simp [putRow,mapBlock,Sort.ahead,Array.getElem?_modify,hb,onCells]
theorem LX {w:World} {g m:Nat} {os:Array Obj} (F:Array Value):w.grownBy (grow (putRow id (Sort.ahead w m) g 0 F) os) (some g):=by
 refine ⟨rfl,rfl,rfl,zs,λk hk hne=>?_⟩;rw [heap_grow_old _ _ (by simpa using hk)];have:g≠k:=λe=>hne (by rw [e])
 simp [putRow,mapBlock,Sort.ahead,Array.getElem?_modify,this]
theorem Vw (cur F:Array Value) (h:F.size<=cur.size):(putCells id 0 F cur).toList.take F.size=F.toList:=by
 apply List.ext_getElem?;intro j;by_cases hj:j<F.size
 ·rw [List.getElem?_take_of_lt hj,Array.getElem?_toList]
  simp [putCells,hj,show j<cur.size by omega]
 ·rw [List.getElem?_take_eq_none zo,List.getElem?_eq_none (by simp;omega)]
theorem Vx {w:World} {base g n cap m:Nat} {e:TypeId} {os:Array Obj} {xs:List Value} (F:Array Value) (hF:F.size=n*2) (h:w.ownsRow base e 2 (.slice (some ⟨g,0,none⟩) n cap) n xs) :
  (grow (putRow id (Sort.ahead w m) g 0 F) os).ownsRow base e 2 (.slice (some ⟨g,0,none⟩) n cap) n F.toList:=by
 rcases h.2 with ⟨h0,_⟩|⟨g',cap',cur,hv,hbase,hb,h1,h2,h3,_⟩
 ·cases h0
 cases hv;exact ⟨by simpa using hF,.inr ⟨g,cap,_,rfl,hbase,Vv _ hb,h1,h2,by simp [putCells,h3],by rw [<-hF];exact Vw cur F (by rw [hF,h3];exact Nat.mul_le_mul_right 2 h1)⟩⟩
theorem Vy {w:World} {base g n cap:Nat} {e:TypeId} {us:List Sp} (hn:us.length=n) (h:w.ownsRow base e 2 (.slice (some ⟨g,0,none⟩) n cap) n (ax us)):HoldsK tV 2 w g 0 us.toArray:=by
 intro j hj;have hj':j<us.length*2:=by simpa using hj
 rw [Nat.zero_add];refine ⟨?_,h.frozenAt j⟩;rw [h.cellAt j zo,<-Gi,Array.getElem?_toList,getElem!_pos _ j hj,Array.getElem?_eq_getElem hj];rfl
theorem acp (blk off size:Nat) (w:World):CmpLays prog 183 #[] tV 2 (λx y=>yo x.1 y.1) blk off size w :=
 λm os dk _ x y=>(ach x y _).mono (by rintro e w' ⟨he,rfl⟩;exact ⟨he,0,_,by rw [alloc_eq_grow,alloc_eq_grow,grow_grow];rfl⟩)
theorem YO (x y:Sp):ltOf (λx y:Sp=>yo x.1 y.1) x y=decide (x.1<y.1):=by
 unfold ltOf yo;by_cases h1:x.1<y.1
 ·simp [h1]
 ·by_cases h2:y.1<x.1 <;> simp [h1,h2]
theorem alI:SWO (ltOf λx y:Sp=>yo x.1 y.1) where
 irrefl x:=by rw [YO];simp
 trans x y z h1 h2:=by rw [YO] at *;simp at *;omega
 ntrans x y z h1 h2:=by rw [YO] at *;simp at *;omega
theorem Rm:∀args w,(callFunc 183 args).run prog w= .ok (.enter 183 args) w:=enters_of func183 zk rfl
theorem LY (base:Nat) (v:Value) (us:List Sp) (w:World) (hlen:us.length<=100000) (hbase:base<=w.heap.size) (hne:us≠[]) (hrow:w.ownsRow base 85 2 v us.length (ax us)) :
  Calls prog 182 #[v,.func (.func 183) #[] #[]] w λe w'=>e= .returned (.tuple #[])/\∃eU:List Sp,eU.Perm us/\eU.Pairwise (λa b=>a.1<=b.1)/\w'.ownsRow base 85 2 v us.length (ax eU)/\Go.RowKit.Below base w w':=by
 have hpos:0<us.length:=List.length_pos_iff.2 hne;obtain ⟨g,cap,rfl,hg1,hg2⟩:=hrow.form hpos;have hcon:=AnyQ.slices_SortFunc agB 2 Tryz.isAgg85 Tryz.sizeOf85 tV (λ_=>rfl) (λx v hv=>by simp [tV] at hv;rcases hv with rfl|rfl <;> rfl) (λx y=>yo x.1 y.1) alI 183 #[] g 0 cap us.toArray w Rm (acp g 0 us.toArray.size w) (Vy rfl hrow) hg2 (by simp;omega);change Calls prog 182 _ _ _ at hcon;rw [List.size_toArray] at hcon;refine hcon.zr ?_;rintro w' ⟨d',n,os,hp,hs,rfl⟩;obtain ⟨eU⟩:=d';obtain ⟨hp1,_,hp2⟩:=hp;simp only [List.size_toArray] at hp1 hp2;refine ⟨rfl,eU,by
  have h1:(Array.extract eU.toArray 0 us.length).toList=eU:=by simp [<-hp1]
  have h2:(Array.extract us.toArray 0 us.length).toList=us:=by simp
  rw [h1,h2] at hp2;exact hp2,?_,?_,?_⟩
 ·rw [List.pairwise_iff_getElem]
  intro i j hi hj hij;have:=hs i j (Nat.zero_le _) hij zo;rw [YO,getElem!_pos _ j (by simpa using hj),getElem!_pos _ i (by simpa using hi)] at this;simpa using this
 ·have:=Vx (m:=n) (os:=os) (flatK tV 2 eU.toArray) (by simp [hp1]) hrow
  rw [Gi] at this;exact this
 ·exact (Go.RowKit.Below.refl base w).grown (LX _) hbase (λj hj=>by cases hj;exact hg1)
theorem acr {P:Prop} (h:P:=by
 have hw':=hw.symm;clear hw;subst hw';go_wp2_with fail
 go_end0
 exact ⟨rfl,rfl⟩):P:=h
theorem OT (A:Option Addr) (cap:Nat) (w:World):Calls prog 215 #[.slice A 0 cap,zI 0,zI 0,.func (.func 183) #[] #[]] w λe w'=>e= .returned (.tuple #[])/\w'=w:=by
 go_enter func215,ntmps215;go_wp2_with fail
 go_loopw [8] (λa wr=>a = zI 1/\wr=w) (λ_ _=>0)
 case atStart=>exact ⟨rfl,rfl⟩
 case round =>
  obtain ⟨rfl,hw⟩:=hrel;exact acr
theorem OU (A:Option Addr) (cap:Nat) (w:World):Calls prog 205 #[.slice A 0 cap,zI 0,zI 0,zI 0,.func (.func 183) #[] #[]] w λe w'=>e= .returned (.tuple #[])/\w'=w:=by
 have HI:=ae (OT A cap w);go_enter func205,ntmps205;go_wp2_with fail
 go_loopw [1,2] (λa b wr=>a = zI 0/\b = zI 0/\wr=w) (λ_ _ _=>0)
 case atStart=>exact ⟨rfl,rfl,rfl⟩
 case round =>
  obtain ⟨rfl,rfl,hw⟩:=hrel;have hw':=hw.symm;clear hw;subst hw';go_wp2_with fail;refine HI.out.zr λw1 hw=>?_
  have hw':=hw.symm;clear hw;subst hw';go_wp2_with fail;exact bodyPost_ret (results_none (by rfl) _ _ _) rfl ⟨rfl,rfl⟩
theorem LZ (A:Option Addr) (cap:Nat) (w:World):Calls prog 182 #[.slice A 0 cap,.func (.func 183) #[] #[]] w λe w'=>e= .returned (.tuple #[])/\w'=w:=by
 have HI:=ae (OU A cap w);have HL:=ae (λW=>ace 0 W zo zo);have e0:((Lib.bitLen (0:Int).toNat:Nat):Int)=0:=by decide
 rw [e0] at HL;go_enter func182,ntmps182
 go_wp2_with (go_at_call 206;refine (HL.out _).mono ?_;rintro e w' ⟨rfl,rfl⟩)
 refine HI.out.zr λw1 hw=>?_
 exact acr
theorem Z6 (base:Nat) (v:Value) (us:List Sp) (w:World) (hlen:us.length<=100000) (hbase:base<=w.heap.size) (hrow:w.ownsRow base 85 2 v us.length (ax us)) :
  Calls prog 182 #[v,.func (.func 183) #[] #[]] w λe w'=>e= .returned (.tuple #[])/\∃eU:List Sp,eU.Perm us/\eU.Pairwise (λa b=>a.1<=b.1)/\w'.ownsRow base 85 2 v us.length (ax eU)/\Below base w w':=by
 by_cases hne:us=[]
 ·subst hne
  obtain ⟨A,cap,rfl⟩:=fF hrow rfl;refine (LZ A cap w).mono ?_;rintro e w' ⟨rfl,rfl⟩;exact ⟨rfl,[],List.Perm.refl _,List.Pairwise.nil,hrow,Below.refl _ _⟩
 ·exact LY base v us w hlen hbase hne hrow
theorem Ro (base:Nat) (v:Value) (us:List Sp) (w:World) (hv:∀y∈us,bF y=true) (hlen:us.length<=100000) (hbase:base<=w.heap.size) (hrow:w.ownsRow base 85 2 v us.length (ax us)) :
  Calls prog 147 #[v] w λe w'=>∃(eU:List Sp) (v':Value),eU.Perm us/\eU.Pairwise (λa b=>a.1<=b.1)/\e= .returned v'/\w'.ownsRow w.heap.size 85 2 v' (pI eU).length (ax (pI eU))/\Below base w w' :=
 agA base v us w hv hlen hbase (Z6 base v us w hlen hbase hrow) hrow
theorem Z7 (n:Nat) (hn:n<=100000) (w:World) :
  Calls prog 186 #[zN,zI n] w λe w'=>∃v,e= .returned v/\w'.ownsRow w.heap.size 85 2 v 0 (ax [])/\Below w.heap.size w w':=by
 obtain ⟨i0,hi,hz0,hz1,hz2⟩:=dW;by_cases h0:n=0
 ·subst h0
  have h:=Any8.slices_Grow_room YN none 0 0 0 w zo zo zo zo;change Calls prog 186 _ _ _ at h;refine h.mono ?_;rintro e w' ⟨rfl,rfl⟩;exact ⟨_,rfl,World.ownsRow_nil _ _ _ _,Below.refl _ _⟩
 ·have h:=Any8.slices_Grow_grow YN i0 (.agg #[zI 0,zI 0]) hi hz0 zo none 0 0 n [] w zo zo (by rw [hz2];omega) zo zs (λ_=>rfl) (λa h=>by cases h)
  change Calls prog 186 _ _ _ at h;refine h.mono ?_;rintro e w' ⟨rfl,rfl⟩;refine ⟨_,rfl,?_,?_⟩
  ·exact World.ownsRow_made w.drew _ _ (Nat.le_refl _) (grownCap_le_maxLen _ _ _ _ (by unfold maxLen;omega)) (by
    have hg:=grownCap_ge w (0+n) 0 85;have e1:(Value.agg #[zI 0,zI 0]).cells.size=2:=rfl;simp only [Array.size_append,size_zeroCells,e1,List.size_toArray,List.length_nil];change 0+(0+n - 0)*2+(grownCap w (0+n) 0 85 - (0+n))*2=grownCap w (0+n) 0 85*2;generalize grownCap w (0+n) 0 85=c at *;omega)
  ·exact ((Below.refl w.heap.size w).drew).alloc (Nat.le_refl _) _
theorem Ip {w:World} {A:Option Addr} {us:List Sp} (h:RU w w.heap.size A us):(A=none/\us=[])\/∃ad,A=some ad/\∀(j:Nat) (u:Value),(ax us)[j]? = some u->w.cell? (ad.add j)=some u:=by
 by_cases h0:us=[]
 ·subst h0
  cases A with
  | none=>exact .inl ⟨rfl,rfl⟩
  | some ad=>exact .inr ⟨ad,rfl,λj u hu=>by simp [ax] at hu⟩
 ·obtain ⟨b,o,rfl,_⟩:=RU.at_' h (k:=0) (List.length_pos_iff.2 h0)
  refine .inr ⟨⟨b,o,none⟩,rfl,λj u hu=>?_⟩;have hl:=dN us;have hj:j<us.length*2:=by
   rw [<-hl];exact (List.getElem?_eq_some_iff.1 hu).1
  obtain ⟨k,hk⟩:∃k,j=k*2\/j=k*2+1:=⟨j / 2,zo⟩;obtain ⟨b',o',e,_,h1,h2⟩:=RU.at_' h (k:=k) zo;cases e;have hat:=qJ us k zo;rw [Addr.add_lit];rcases hk with rfl|rfl
  ·rw [hat.1] at hu
   rw [<-hu];exact h1
  ·rw [hat.2] at hu
   rw [<-hu];exact h2
theorem sG (us:List Sp):∀u∈ax us,u.oneCell'=true:=by
 intro u hu;simp only [ax,List.mem_flatMap,List.mem_cons,List.not_mem_nil,or_false] at hu;obtain ⟨x,_,rfl|rfl⟩:=hu <;> rfl
theorem Hl (us vs:List Sp):ax (us++vs)=ax us++ax vs:=by simp [ax]
theorem L6 (A1 A2:Option Addr) (n1 c1 n2 c2:Nat) (us vs:List Sp) (B:Nat) (w:World) (hn1:us.length=n1) (hm1:n1<=50000) (hr1:RU w w.heap.size A1 us) (hn2:vs.length=n2) (hm2:n2<=50000) (hr2:RU w w.heap.size A2 vs)
  (kB:af w B 26 #[.slice A1 n1 c1,.slice A2 n2 c2]) :
  Calls prog 148 #[.slice (some ⟨B,0,none⟩) 2 2] w λe w'=>∃v,e= .returned v/\w'.ownsRow w.heap.size 85 2 v (us++vs).length (ax (us++vs))/\Below w.heap.size w w':=by
 have z0:=kB.cell;have h1:=ae hn1;have h2:=ae hn2;clear hn1 hn2;go_enter func148,ntmps148;go_wp2_with fail
 go_loopw [3,11] (λs i wr=>wr=w/\((i = zI 0/\s = zI 0)\/(i = zI 1/\s = zI n1)\/(i = zI 2/\s = zI ((n1:Int)+n2)))) (λ_ i _=>2 - (intOf i).toNat)
 case atStart=>exact ⟨rfl,.inl ⟨rfl,rfl⟩⟩
 case round =>
  obtain ⟨hw,hrel⟩:=hrel;have hw':=hw.symm;clear hw;subst hw';rcases hrel with ⟨rfl,rfl⟩|⟨rfl,rfl⟩|⟨rfl,rfl⟩
  ·go_wp2_with fail
   exact ⟨⟨trivial,zs⟩,by simp [intOf]⟩
  ·go_wp2_with fail
   exact ⟨⟨trivial,zs⟩,by simp [intOf]⟩
  ·have HG:=ae (Z7 (n1+n2) zo w)
   rw [Int.natCast_add] at HG;go_wp2_with fail;refine HG.out.mono ?_;rintro e w1 ⟨v,rfl,hrow,hb1⟩;have hbs:=hb1.size;obtain ⟨i0,hi,hy0,hy1,hy2⟩:=dW;go_wp2_with fail
   go_loopw [6,27] (λv i wq=>Below w.heap.size w wq/\((i = zI 0/\wq.ownsRow w.heap.size 85 2 v 0 (ax []))\/(i = zI 1/\wq.ownsRow w.heap.size 85 2 v n1 (ax us))\/(i = zI 2/\wq.ownsRow w.heap.size 85 2 v (n1+n2) (ax us++ax vs)))) (λ_ i _=>2 - (intOf i).toNat)
   case atStart=>exact ⟨hb1,.inl ⟨rfl,hrow⟩⟩
   case round =>
    obtain ⟨hB,hrel⟩:=hrel;have kq:=kB.call hB;have zq:=kq.cell;have sF:=hB.size;rcases hrel with ⟨rfl,hr⟩|⟨rfl,hr⟩|⟨rfl,hr⟩
    ·have r1q:=hr1.on hB
     rcases Ip r1q with ⟨ha,hu⟩|⟨ad,ha,hnews⟩
     ·subst ha;subst hu
      have hn0:n1=0:=by rw [<-h1.out];rfl
      subst hn0
      go_wp2_with (refine mZ rfl (.tmp 31) (.tmp 32) 26 rfl w.heap.size 85 i0 2 c1 underlying26 hi _ 0 (ax []) rfl hr rfl ?_)
      exact ⟨⟨_,_,_,_,_,_,_,_,_,_,⟨hB,.inr (.inl ⟨rfl,hr⟩)⟩,by simp;exact ⟨rfl,rfl,rfl,rfl,rfl,rfl,rfl,rfl⟩⟩,by simp [intOf]⟩
     ·subst ha
      go_wp2_with (refine wpList_append_own _ rfl (.tmp 31) (.tmp 32) 26 rfl w.heap.size 85 i0 (.agg #[zI 0,zI 0]) 2 16 underlying26 hi hy0 hy1 hy2 rfl zd _ 0 (ax []) rfl hr ad n1 c1 (ax us) rfl (by rw [dN,h1.out]) hnews (sG us) (by unfold maxLen;omega) zo sF ?_;intro v' w3 hown' hgrow _)
      exact ⟨⟨hB.grown hgrow sF (λj hj=>(hr.lt j hj).1),.inr (.inl ⟨rfl,by simpa [ax] using hown'⟩)⟩,by simp [intOf]⟩
    ·have r2q:=hr2.on hB
     rcases Ip r2q with ⟨ha,hu⟩|⟨ad,ha,hnews⟩
     ·subst ha;subst hu
      have hn0:n2=0:=by rw [<-h2.out];rfl
      subst hn0
      go_wp2_with (refine mZ rfl (.tmp 31) (.tmp 32) 26 rfl w.heap.size 85 i0 2 c2 underlying26 hi _ n1 (ax us) rfl hr rfl ?_)
      exact ⟨⟨_,_,_,_,_,_,_,_,_,_,⟨hB,.inr (.inr ⟨rfl,by simpa [ax] using hr⟩)⟩,by simp;exact ⟨rfl,rfl,rfl,rfl,rfl,rfl,rfl,rfl⟩⟩,by simp [intOf]⟩
     ·subst ha
      go_wp2_with (refine wpList_append_own _ rfl (.tmp 31) (.tmp 32) 26 rfl w.heap.size 85 i0 (.agg #[zI 0,zI 0]) 2 16 underlying26 hi hy0 hy1 hy2 rfl zd _ n1 (ax us) rfl hr ad n2 c2 (ax vs) rfl (by rw [dN,h2.out]) hnews (sG vs) (by unfold maxLen;omega) zo sF ?_;intro v' w3 hown' hgrow _)
      exact ⟨⟨hB.grown hgrow sF (λj hj=>(hr.lt j hj).1),.inr (.inr ⟨rfl,hown'⟩)⟩,by simp [intOf]⟩
    ·go_wp2_with fail
     go_ret;exact ⟨_,rfl,by rw [Hl,List.length_append,h1.out,h2.out];exact hr,hB⟩
theorem xL (A:Option Addr) (n cap:Nat) (us:List Sp) (w:World) (hn:us.length=n) (hm:n<=1000000) (hr:RU w w.heap.size A us) :
  Calls prog 82 #[.slice A n cap] w λe w'=>∃v,e= .returned v/\w'.ownsRow w.heap.size 85 2 v n (ax us)/\Below w.heap.size w w':=by
 obtain ⟨i0,hi,hy0,hy1,hy2⟩:=dW;have h1:=ae hn;clear hn;have q36:∀(w:World) (a:Option Addr) (n c n' c':Nat),(binOp .eql 26 (.slice a n c) (.slice none n' c')).run prog w= .ok (.bool a.isNone) w:=λw a n c n' c'=>Lib.run_eql_slice_nil w _ _ a n c n' c' underlying26
 have hb0:=aQ w (.cells #[] 85);have hsrc:=Ip (hr.on (aQ w (.cells #[] 85)));have hown:(w.alloc (.cells #[] 85)).ownsRow w.heap.size 85 2 (.slice (some ⟨w.heap.size,0,none⟩) 0 0) 0 []:=World.ownsRow_made w #[] 0 (Nat.le_refl _) (Nat.zero_le _) zs;rcases hsrc with ⟨rfl,rfl⟩|⟨ad,rfl,hnews⟩
 ·have hn0:n=0:=h1.out.symm
  subst hn0;go_enter func82,ntmps82;go_wp2_with fail;go_ret;exact ⟨_,rfl,World.ownsRow_nil _ _ _ _,Below.refl _ _⟩
 ·go_enter func82,ntmps82
  go_wp2_with (refine wpList_append_own _ rfl (.tmp 5) (.tmp 6) 26 rfl w.heap.size 85 i0 (.agg #[zI 0,zI 0]) 2 16 underlying26 hi hy0 hy1 hy2 rfl zd _ 0 [] rfl hown ad n cap (ax us) rfl (by rw [dN,h1.out]) hnews (sG us) (by unfold maxLen;omega) zo zs ?_;intro v' w3 hown' hgrow _)
  go_ret;rw [Nat.zero_add,List.nil_append] at hown';exact ⟨_,rfl,hown',hb0.grown hgrow zs (λj hj=>(hown.lt j hj).1)⟩
theorem Vz (A:Option Addr) (n cap:Nat) (us:List Sp) (w:World) (hn:us.length=n) (hm:n<=maxLen) (hr:RU w w.heap.size A us) :
  Calls prog 150 #[.slice A n cap] w (sW w (if Hg us=0 then setOf us else []) (Hg us)):=by
 have HC:=ae (uZ A n cap us w hn hm hr);by_cases hlen:2000<n
 ·have hlen':decide (2000<(n:Int))=true:=by simp;omega
  have hE:Hg us=3:=by unfold Hg;rw [if_pos zo]
  rw [hE,if_neg zd];clear hE;go_enter func150,ntmps150;go_wp2_with fail;go_ret2;exact ⟨none,0,rfl,RU.nil,zs,by unfold maxLen;omega,λb o e=>(by cases e),Below.refl _ _,λ_=>rfl⟩
 have hlen':decide (2000<(n:Int))=false:=by simp;omega
 by_cases hall:us.all bF=true
 ·have hE:Hg us=0:=by unfold Hg;rw [if_neg zo,if_pos hall]
  have hv:=(Z4 hE).2;rw [hE,if_pos rfl];rw [hall] at HC;have HK:=ae (λW h=>xL A n cap us W hn zo h);have HO:=ae (λbase v W (h1:base<=W.heap.size) (h2:W.ownsRow base 85 2 v us.length (ax us))=>Ro base v us W hv zo h1 h2);have hS:=ae (λ(eU:List Sp) (h1:eU.Perm us) h2=>I7 hv h1 h2);rw [hn] at HO;clear hE hall hv hn;go_enter func150,ntmps150;go_wp2_with fail;refine HC.out.zr λw1 hb1=>?_
  go_wp2_with fail;refine (HK.out _ (hr.on hb1)).mono ?_;rintro e w2 ⟨v,rfl,hrow,hb2⟩;have B2:=hb1.zt hb2;go_wp2_with fail;refine (HO.out _ _ _ hb2.size hrow).mono ?_;rintro e w3 ⟨eU,v',hp,hs,rfl,hrow3,hb3⟩;rw [hS.out eU hp hs] at hrow3;obtain ⟨A3,mI,rfl,dR,h1,h2,h3,_⟩:=lQ hrow3 rfl;go_wp2_with fail;go_ret2;exact ⟨A3,mI,rfl,dR,h1,h2,λb o e=>by have:=h3 b o e;have:=B2.size;omega,B2.trans (hb3.mono hb1.size),IB hrow3⟩
 ·have hE:Hg us=7:=by unfold Hg;rw [if_neg zo,if_neg hall]
  have zb:=QE hall;rw [hE,if_neg zd];rw [zb] at HC;clear hE hall zb;go_enter func150,ntmps150;go_wp2_with fail;refine HC.out.zr λw1 hb1=>?_
  go_wp2_with fail;exact Vb
theorem Rp (us:List Sp) (k:Nat) (hk:k<us.length) (p:Int):mem p (us.take (k+1))=(mem p (us.take k)||decide ((us.getD k (0,0)).1<=p/\p<(us.getD k (0,0)).1+(us.getD k (0,0)).2)):=by
 rw [xJ us k hk,mem_append,mem_cons,fT,Bool.or_false];congr 1;rw [Bool.eq_iff_iff];simp
theorem aiw {P:Prop} (h:P:=by
 rw [Array.toArray_toList] at hld;exact bodyPost_ret (v:=.agg cs) (BG rfl rfl hld) rfl ⟨cs,rfl,hMe,by rw [hs];exact Rq⟩):P:=h
theorem VA (A:Option Addr) (n cap:Nat) (us:List Sp) (w:World) (hn:us.length=n) (hm:n<=1000000) (hr:RU w w.heap.size A us) (hv:∀x∈us,bF x=true) :
  Calls prog 164 #[.slice A n cap] w λe w'=>∃cs,e= .returned (.agg cs)/\bC cs (λk=>mem (k:Int) us)/\Below w.heap.size w w':=by
 obtain ⟨s,hs⟩:=ah (w.heap.size);obtain ⟨W0,hW0⟩:=ah ((w.alloc (.cells zeroCells189 189)).alloc (.cells zeroCells189 189));have hb0:Below s w W0:=by rw [<-hW0,<-hs];exact (aQ w _).alloc zs _
 have kR:af W0 s 189 zeroCells189:=by rw [<-hW0,<-hs];exact (af.new _ _ _).alloc _
 have kM:af W0 (s+1) 189 zeroCells189:=by
  have:=af.new (w.alloc (.cells zeroCells189 189)) 189 zeroCells189;rw [World.size_alloc,hs,hW0] at this;exact this
 have hZ:=ik;have hW1:=ae hW0;have hn':=ae hn;have hv':=ae hv;rw [hs] at hr;clear hW0 hn hv;go_enter func164,ntmps164;go_upto_region 2 with fail
 try simp only [Nat.add_assoc,Nat.reduceAdd]
 try rw [hs]
 rw [hW1.out];generalize zeroCells189=Z at *;clear hW1;go_wp2_with fail
 go_loopw [4] (λi wr=>∃(k:Nat) (cs:Array Value),k<=n/\i = zI k/\af wr s 189 Z/\af wr (s+1) 189 cs/\bC cs (λp=>mem (p:Int) (us.take k))/\Below s w wr) (λi _=>n - (intOf i).toNat)
 case atStart=>exact ⟨0,Z,zo,rfl,kR,kM,hZ.congr (λk _=>by simp [fT]),hb0⟩
 case round =>
  obtain ⟨k,cs,hk,rfl,kR,kM,hM,hB⟩:=hrel;by_cases hlt:k<n
  ·have hlt':decide ((k:Int)<(n:Int))=true:=by simpa using hlt
   obtain ⟨b,o,rfl,hbl,hcw,hdw⟩:=RU.at_' hr (k:=k) (by have:=hn'.out;omega);have kK:=av.1 (hv'.out (us.getD k (0,0)) (by rw [List.getD_eq_getElem?_getD,List.getElem?_eq_getElem (by have:=hn'.out;omega)];simp));have hst:=ae (Rp us k (by have:=hn'.out;omega));generalize us.getD k (0,0)=x at *;obtain ⟨xa,xb⟩:=x;dsimp only at hcw hdw kK hst;have hc:=(hB.cell (p:=⟨b,o+k*2,none⟩) hbl).trans hcw;go_wp2_with fail
   go_loopw [5] (λp wr=>∃(j:Nat) (cs:Array Value),(j:Int)<=xb/\p = zI (xa+j)/\af wr s 189 Z/\af wr (s+1) 189 cs/\bC cs (λq=>mem (q:Int) (us.take k)||decide (xa<=(q:Int)/\(q:Int)<xa+j))/\Below s w wr) (λp _=>(xa+xb - intOf p).toNat)
   case atStart=>exact ⟨0,cs,zo,zs,kR,kM,hM.congr (λp _=>by rw [decide_eq_false zo,Bool.or_false]),hB⟩
   case round =>
    clear hM kM kR hc hB;obtain ⟨j,cs,hj,rfl,kR,kM,hM,hB⟩:=hrel;have sF:=hB.size;have hc:=(hB.cell (p:=⟨b,o+k*2,none⟩) hbl).trans hcw;have hd:=(hB.cell (p:=⟨b,o+k*2+1,none⟩) hbl).trans hdw;have e1:=λz:Ext wr=>z.cell hc
    have e2:=λz:Ext wr=>z.cell hd
    by_cases hjx:(j:Int)<xb
    ·have hj':decide (xa+(j:Int)<xa+xb)=true:=by simp;omega
     have hmm:=ae (hM.set (g:=λq=>mem (q:Int) (us.take k)||decide (xa<=(q:Int)/\(q:Int)<xa+(j+1:Nat))) (xa+j).toNat zo true (by
      have e:(((xa+(j:Int)).toNat:Nat):Int)=xa+j:=zo;simp only [e];rw [decide_eq_true zo,Bool.or_true]) (λq hq=>by
      congr 1;exact decide_eq_decide.2 zo))
     have hold:=hM.at_ (xa+j).toNat zo;generalize (mem (((xa+(j:Int)).toNat:Nat):Int) (us.take k)||decide (xa<=(((xa+(j:Int)).toNat:Nat):Int)/\(((xa+(j:Int)).toNat:Nat):Int)<xa+j))=B0 at hold;go_upto_region 6 with fail
     refine aD zk zk ?_
     repeat (go_big_quiet_step (fail))
     refine wpQuiet_nil ?_;rintro w2 ⟨⟨_,hw2⟩,rfl⟩;obtain ⟨EP,cK⟩:=bY hw2 kM kR;have hB2:=hB.trans (hw2.mono zo);have fM2:=EP.frozen;have cM2:w2.cell? ⟨s+1,(xa+(j:Int)).toNat,none⟩=some (.bool B0):=(EP.cell _).trans hold;have rD:ag (λk=>k=s+1) w2 (w2.setCell ⟨s+1,(xa+(j:Int)).toNat,none⟩ (.bool true)):=ag.setCell (T:=λk=>k=s+1) (p:=⟨s+1,(xa+(j:Int)).toNat,none⟩) (ag.refl _ _) (λ_=>rfl) _;go_wp2_with fail;go_roundw
     case rel=>exact ⟨j+1,_,zo,by go_num,rD.blk cK zo,EP.aM _ _,hmm.out,hB2.trans (rD.below (by have:=hB2.size;omega) (λk hk=>by omega))⟩
     case measure=>exact zm
    ·have hj':decide (xa+(j:Int)<xa+xb)=false:=by simp;omega
     have acj:(j:Int)=xb:=zo;have hM2:=hM.congr (g:=λp=>mem (p:Int) (us.take (k+1))) (λp _=>by rw [hst.out,acj]);go_upto_region 6 with fail
     refine aD zk zk ?_
     repeat (go_big_quiet_step (fail))
     refine wpQuiet_nil ?_;rintro w2 ⟨⟨_,hw2⟩,rfl⟩;obtain ⟨EP,cK⟩:=bY hw2 kM kR;have hB2:=hB.trans (hw2.mono zo);go_wp2_with fail;go_roundw
     case rel=>exact ⟨k+1,cs,zo,by go_num,cK,EP,hM2,hB2⟩
     case measure=>exact zm
  ·have hlt':decide ((k:Int)<(n:Int))=false:=by simp;omega
   have hkn:k=us.length:=by have:=hn'.out;omega
   have hMe:=hM.congr (g:=λp=>mem (p:Int) us) (λp _=>by rw [hkn,List.take_length]);have hsz:=hM.size;have hth:=CJ kR;have hzs:=hZ.size;have hone:=hM.one
   go_wp2_with (first
    | (refine wpList_load_mid rfl 189 (.tmp 3) rfl (s+1) 0 rfl cs.toList _ (dZ kM) underlying189 rfl (by rw [Array.length_toList,hsz];kernel_rfl) ?_;rw [Array.toArray_toList])
    | (refine wpList_store_mid rfl 189 (.tmp 2) (.tmp 34) rfl s 0 cs rfl rfl (by rw [hsz,<-hzs];exact hth) (by rw [hsz];kernel_rfl) hone ?_))
   have hrg:=World.rangeAt_setCells_same wr s 0 cs.toList (by rw [Array.length_toList,hsz,<-hzs];exact hth);have Rq:=below_setCells s (Nat.le_refl _) cs.toList 0 wr hB;generalize wr.setCells s 0 cs.toList=w9 at *;have hld:=run_loadVar_mid (P:=prog) w9 s 0 189 cs.toList _ hrg underlying189 rfl (by rw [Array.length_toList,hsz];kernel_rfl);exact aiw
attribute [local go_sem] Oper.semAt_some aC au aB ai
theorem Rs (A:Option Addr) (n cap:Nat) (us:List Sp) (w:World) (hn:us.length=n) (hm:n<=maxLen) (hr:RU w w.heap.size A us) :
  zK 68 #[.slice A n cap] w (.tuple #[zI (if eG us=0 then aG us else 0),zI (eG us)]):=by
 have HC:=ae (gM A n cap us w hn hm hr);by_cases hc:eG us=0
 case neg =>
  rw [if_neg hc];generalize eG us=er at *;have hc':(er != 0)=true:=by simpa using hc
  clear hc;go_enter func68,ntmps68;go_wp2_with fail;refine HC.out.zr λw1 hb1=>?_
  go_wp2_with fail;go_ret2;exact ⟨rfl,hb1⟩
 case pos =>
  have oq:=bI.1 hc;rw [hc,if_pos rfl];rw [hc] at HC;have hlen:=oq.len;have hv:=ae oq.1;have hn':=ae hn;obtain ⟨S,hS⟩:=ah (aG us);rw [hS];have hS':=ae hS;have aci:n<=512:=zo;clear oq hc hS hn;go_enter func68,ntmps68;go_wp2_with fail;refine HC.out.zr λw1 hb1=>?_
  go_wp2_with fail
  go_loopw [5,15] (λsm i wr=>∃(k:Nat) (z:Int),k<=n/\i = zI k/\sm = zI z/\0<=z/\z<=1024*k/\Hid (z=aG (us.take k))/\Below w.heap.size w wr) (λ_ i _=>n - (intOf i).toNat)
  case atStart=>exact ⟨0,0,zo,rfl,rfl,zo,zo,ae (by simp [aG]),hb1⟩
  case round =>
   obtain ⟨k,z,hk,rfl,rfl,hz0,hz1,hz,hB⟩:=hrel;by_cases hlt:k<n
   ·have hlt':decide ((k:Int)<(n:Int))=true:=by simpa using hlt
    obtain ⟨b,o,rfl,hbl,hc,hd⟩:=RU.at_' (hr.below hB) (k:=k) (by have:=hn'.out;omega);have kK:=av.1 (hv.out (us.getD k (0,0)) (by rw [List.getD_eq_getElem?_getD,List.getElem?_eq_getElem (by have:=hn'.out;omega)];simp));have hst:=ae (show z+(us.getD k (0,0)).2=aG (us.take (k+1)) by rw [xJ us k (by have:=hn'.out;omega),tQ,hz.out]);generalize us.getD k (0,0)=x at *;obtain ⟨xa,xb⟩:=x;dsimp only at hc hd kK hst;go_wp2_with fail;go_roundw
    case rel=>exact ⟨k+1,z+xb,zo,by go_num,by go_num,zo,zo,hst,(hB.alloc hB.size _)⟩
    case measure=>exact zm
   ·have hlt':decide ((k:Int)<(n:Int))=false:=by simp;omega
    have hE:Hid (S=z):=ae (by rw [hz.out,List.take_of_length_le (by have:=hn'.out;omega)];exact hS'.out.symm);go_wp2_with fail;go_ret2;rw [hE.out];exact ⟨rfl,hB⟩
theorem aix {P:Prop} (h:P:=by
 gi_wp2_with (gi_at_call 26;refine (callsIn_wide.2 HC.out).mono ?_;rintro e w1 ⟨rfl,hq⟩;have EJ:=hJ _ [] W w1 h0 (.of_below hq);have c2:=(kB2.call hq).cell)
 refine bodyPost_ret (results_none rfl _ _ _) rfl ?_;exact ⟨⟨_,rfl⟩,.inl ⟨_,by rw [hE.out];exact EJ⟩⟩):P:=h
theorem OW (A:Option Addr) (n cap:Nat) (us:List Sp) (size:Int) (B1 B2:Nat) (K:Nat->Prop) (w:World) (hK1:K B1) (hK2:K B2)
  (k1:af w B1 26 #[.slice A n cap]) (k2:af w B2 3 #[zI size]) (hn:us.length=n) (hm:n<=maxLen) (hr:RU w w.heap.size A us) (hown:us≠[]->∀b o,A=some ⟨b,o,none⟩->K b) :
  yS prog 172 #[zP B1,zP B2] ZQ (λ_=>False) K (gZ us size) w:=by
 intro m l J Jx W hW hJ hJx hnew hY h0;have kB1:=hW.blk k1 (by simpa using hK1);have kB2:=hW.blk k2 (by simpa using hK2);have OX:∀{W1 W2:World} {N:Nat} {T:Nat->Prop},RU W1 N A us->ag T W1 W2->(∀k,K k->¬T k)->RU W2 N A us:=λh hf hT=>by
  by_cases h0:us=[]
  ·subst h0;exact RU.nil
  ·exact hf.ru h (λb o e=>hT b (hown h0 b o e))
 have L8:RU W W.heap.size A us:=(OX hr hW (λk hk h=>h hk)).more hW.size;have HC:=ae (gM A n cap us W hn hm L8);refine callsIn_of_wp func172 rfl trivial ?_ rfl;simp only [ntmps172,List.size_toArray,List.length_cons,List.length_nil,Nat.reduceAdd,Nat.reduceSub,Array.replicate_succ,Array.replicate_zero,List.push_toArray,List.append_toArray,List.nil_append,List.cons_append];have c1:=kB1.cell;by_cases hc:eG us=0
 case neg =>
  have hE:Hid (gZ us size=[]):=ae (by unfold gZ;rw [if_neg (λh=>hc h.1)]);generalize eG us=er at *;have hc':(er != 0)=true:=by simpa using hc
  gi_wp2_with (gi_at_call 26;refine (callsIn_wide.2 HC.out).mono ?_;rintro e w1 ⟨rfl,hq⟩;have EJ:=hJ _ [] W w1 h0 (.of_below hq))
  refine bodyPost_ret (results_none rfl _ _ _) rfl ?_;exact ⟨⟨_,rfl⟩,.inl ⟨_,by rw [hE.out];exact EJ⟩⟩
 rw [hc] at HC;by_cases hs1:size<1
 case pos =>
  have hE:Hid (gZ us size=[]):=ae (by unfold gZ;rw [if_neg (λh=>by omega)]);have aox:=bU hs1;exact aix
 have aox:=bV hs1;by_cases hs2:1024<size
 case pos =>
  have hE:Hid (gZ us size=[]):=ae (by unfold gZ;rw [if_neg (λh=>by omega)]);have aoy:=bU hs2;exact aix
 have aoy:=bV hs2;have hP:Hid (gZ us size=us.flatMap (qP size)):=ae (by unfold gZ;rw [if_pos ⟨hc,zo,zo⟩]);have oq:=bI.1 hc;have hlen:=oq.len;have hvl:=ae oq.1;have hn':=ae hn;have aci:n<=512:=zo;clear oq hc hn
 gi_wp2_with (gi_at_call 26;refine (callsIn_wide.2 HC.out).mono ?_;rintro e w1 ⟨rfl,hq⟩;have acs:=kB1.call hq;have acu:=kB2.call hq;have c1a:=acs.cell;have c2a:=acu.cell)
 have EJ:=hJ _ [] W w1 h0 (.of_below hq);have hr1:RU w1 W.heap.size A us:=L8.below hq;clear hr L8 HC h0 kB1 kB2 c1;have hwz:W.heap.size<=w1.heap.size:=hq.size
 gi_loopw [21] (λi wr=>∃k:Nat,k<=n/\i = zI k/\W.heap.size<=wr.heap.size/\J (λ_=>False) ((us.take k).flatMap (qP size)) wr/\af wr B1 26 #[.slice A n cap]/\af wr B2 3 #[zI size]/\RU wr W.heap.size A us) (λi _=>n - (intOf i).toNat)
 case atStart=>exact ⟨0,zo,rfl,hwz,EJ,acs,acu,hr1⟩
 case round =>
  clear EJ acs acu hr1 c1a c2a hwz hq;obtain ⟨k,hk,rfl,hwz,hJs,kB1,kB2,dR⟩:=hrel;by_cases hlt:k<n
  ·have hlt':decide ((k:Int)<(n:Int))=true:=by simpa using hlt
   obtain ⟨b,o,rfl,hbl,hc,hd⟩:=RU.at_' dR (k:=k) (by have:=hn'.out;omega);have kK:=av.1 (hvl.out (us.getD k (0,0)) (by rw [List.getD_eq_getElem?_getD,List.getElem?_eq_getElem (by have:=hn'.out;omega)];simp));have hft:=ae (VB us size k (by have:=hn'.out;omega));have hfp:=ae (Z9 us size (k+1));generalize us.getD k (0,0)=x at *;obtain ⟨xa,xb⟩:=x;dsimp only at hc hd kK;have kX:=af.new wr 85 #[zI xa,zI xb];have hfa:ag (λ_=>False) wr (wr.alloc (.cells #[zI xa,zI xb] 85)):=(ag.refl _ wr).alloc _;have hJ2:=hJ _ _ _ _ (hnew _ (λk=>k=wr.heap.size) _ wr hJs (λj hj=>.inr zo)) (hfa.mono λ_ _ h=>h.elim);have Jb:=kB1.alloc (.cells #[zI xa,zI xb] 85);have aiy:=kB2.alloc (.cells #[zI xa,zI xb] 85);have aiz:=OX dR hfa (λ_ _ h=>h);have Jc:W.heap.size<=(wr.alloc (.cells #[zI xa,zI xb] 85)).heap.size:=by simp;omega
   have hbx0:wr.heap.size<(wr.alloc (.cells #[zI xa,zI xb] 85)).heap.size:=by simp
   obtain ⟨L0,hL0⟩:=ah ((us.take k).flatMap (qP size));have YJ:Hid ((us.take (k+1)).flatMap (qP size)=L0++qP size (xa,xb)):=ae (by rw [hft.out,hL0]);rw [hL0] at hJ2;clear hft hL0
   gi_wp2_with fail
   generalize wr.alloc (.cells #[zI xa,zI xb] 85)=wa at *;generalize wr.heap.size=bx at *;clear hJs kB1 kB2 dR hfa hc hd hbl hwz
   gi_loopw [6] (λat_ wr=>∃(a:Int) (f:Nat) (OY:List Sp),at_ = zI a/\xa<=a/\a<=1024/\xa+xb - a<=f/\W.heap.size<=wr.heap.size/\bx<wr.heap.size/\J (λk=>k=bx) (L0++OY) wr/\af wr B1 26 #[.slice (some ⟨b,o,none⟩) n cap]/\af wr B2 3 #[zI size]/\RU wr W.heap.size (some ⟨b,o,none⟩) us/\af wr bx 85 #[zI xa,zI xb]/\Hid (qP size (xa,xb)=OY++yt size (xa+xb) f a)) (λat_ _=>(xa+xb - intOf at_).toNat)
   case atStart=>exact ⟨xa,1024,[],rfl,zo,zo,zo,Jc,hbx0,by rw [List.append_nil];exact hJ2,Jb,aiy,aiz,kX,ae rfl⟩
   case round =>
    clear hJ2 Jb aiy aiz kX Jc hbx0;obtain ⟨a,f,OY,rfl,ha0,ha1,haf,hwz,hbx,hJs,kB1,kB2,dR,kX,hcut⟩:=hrel;have cX:=kX.cell;by_cases hlt2:a<xa+xb
    ·have Jd:=bU hlt2
     obtain ⟨f',rfl⟩:∃f',f=f'+1:=⟨f - 1,zo⟩;obtain ⟨q,hq⟩:=ah (a / size);have hdiv:Int.tdiv a size=q:=by rw [<-hq];exact Int.tdiv_eq_ediv_of_nonneg zo
     have hq0:0<=q:=by rw [<-hq];exact Int.ediv_nonneg zo zo
     have hq1:q<=a:=by rw [<-hq];exact Int.ediv_le_self _ zo
     obtain ⟨M,hM⟩:=ah (tX size a);have hMg:=Z8 (size:=size) (a:=a) zo;rw [hM] at hMg;have hmul:wrap64 ((q+1)*size)=M:=by rw [QF _ _ zo zo,<-hM,tX,hq]
     have hcs:Hid (qP size (xa,xb)=(OY++[(a,min M (xa+xb) - a)])++yt size (xa+xb) f' (min M (xa+xb))):=ae (by rw [hcut.out,Ja hlt2,hM];simp);have hs0:(size==0)=false:=by simp;omega
     clear hcut hq hM
     gi_upto_region 6 with (gi_at_call 90;refine (callsIn_wide.2 (iJ xa xb _ zo zo)).mono ?_;rintro e w2 ⟨rfl,hq2⟩)
     obtain ⟨kX2,BH,zn⟩:=mY hq2 kX kB1 kB2;have tY:=dR.below (hq2.mono hwz);have hJ2:=hJ _ _ wr w2 hJs (.of_below hq2);have acx:=Nat.le_trans hwz hq2.size;have Gj:=Nat.lt_of_lt_of_le hbx hq2.size;clear kX kB1 kB2 dR hJs hwz hbx hq2 cX;have e1:=λz:Ext w2=>(z.blk kX2).cell
     have e2:=λz:Ext w2=>(z.blk zn).cell
     have HE:Hid (∀z:Ext w2,Calls prog 90 #[.agg #[zI xa,zI xb]] z.w λe w''=>e= .returned (zI (xa+xb))/\∃t:Ext w2,w''=t.w):=ae (λz=>Ext.call (iJ xa xb _ zo zo));refine wpIn_wide.2 ?_;refine aD zk zk ?_
     repeat (go_big_quiet_step ((go_at_call 90;exact HE.out _)))
     refine wpQuiet_nil ?_;rintro w3 ⟨⟨_,hw3⟩,rfl⟩;have hM2:a<min M (xa+xb)/\min M (xa+xb)<=xa+xb:=zo;generalize min M (xa+xb)=c at *;obtain ⟨ER,wL,YP⟩:=mY hw3 kX2 BH zn;have vz:=tY.below (hw3.mono acx);have hJ3:=hJ _ _ w2 w3 hJ2 (.of_below hw3);have zu:=Nat.le_trans acx hw3.size;have Je:=Nat.lt_of_lt_of_le Gj hw3.size;clear kX2 BH zn tY hJ2 acx Gj hw3 e1 e2 HE hmul hdiv hMg;have hpre:Hid ((L0++OY)++[(a,c - a)] <+: gZ us size):=ae (by
      rw [hP.out];refine List.IsPrefix.trans ?_ hfp.out;rw [YJ.out,hcs.out];exact ⟨yt size (xa+xb) f' c,zs⟩)
     obtain ⟨fn,tmps,assign,body,hy,qc⟩:=hY (m - 1) (λk=>k=bx) (L0++OY) (a,c - a) w3 hJ3 (λk hk=>by rw [hk];exact Je) hpre.out;clear hY
     gi_wp2_with fail
     refine qc.mono ?_;rintro e W4 (⟨rfl,DF,fQ⟩|⟨rfl,BI⟩)
     ·gi_wp2_with fail
      go_roundw
      case rel=>exact ⟨c,f',OY++[(a,c - a)],by go_num,zo,zo,zo,Nat.le_trans zu fQ.size,Nat.lt_of_lt_of_le Je fQ.size,by rw [<-List.append_assoc];exact DF,fQ.blk wL (λh=>h (.inl hK1)),fQ.blk YP (λh=>h (.inl hK2)),OX vz fQ (λk hk h=>h (.inl hk)),fQ.blk ER (λh=>h (.inr rfl)),hcs⟩
      case measure=>exact zm
     ·gi_wp2_with fail
      refine bodyPost_ret (results_none rfl _ _ _) rfl ?_;exact ⟨⟨_,rfl⟩,.inr ⟨_,(L0++OY)++[(a,c - a)],hpre.out,BI⟩⟩
    ·have Jd:=bV hlt2
     have hend:Hid (L0++OY=(us.take (k+1)).flatMap (qP size)):=ae (by rw [YJ.out,hcut.out,Ns hlt2,List.append_nil])
     gi_wp2_with (gi_at_call 90;refine (callsIn_wide.2 (iJ xa xb _ zo zo)).mono ?_;rintro e w2 ⟨rfl,hq2⟩)
     have hJ2:=hnew _ (λ_=>False) _ _ (hJ _ _ wr w2 hJs (.of_below hq2)) (λ_ h=>h.elim);go_roundw
     case rel=>exact ⟨k+1,zo,by go_num,Nat.le_trans hwz hq2.size,by rw [<-hend.out];exact hJ2,kB1.call hq2,kB2.call hq2,dR.below (hq2.mono hwz)⟩
     case measure=>exact zm
  ·have hlt':decide ((k:Int)<(n:Int))=false:=by simp;omega
   have hE:Hid ((us.take k).flatMap (qP size)=gZ us size):=ae (by rw [hP.out,List.take_of_length_le (by have:=hn'.out;omega)])
   gi_wp2_with fail
   go_end0
   exact ⟨⟨_,rfl⟩,.inl ⟨_,by rw [<-hE.out];exact hJs⟩⟩
theorem Jf:∀args w,(callFunc 172 args).run prog w= .ok (.enter 172 args) w:=enters_of func172 zk rfl
theorem Jg (A:Option Addr) (n cap:Nat) (us:List Sp) (size:Int) (w:World) (hn:us.length=n) (hm:n<=1000000) (hr:RU w w.heap.size A us) :
  Calls prog 131 #[.slice A n cap,zI size] w λe w'=>∃(lb:Array Value) (K:Nat->Prop),e= .returned (.func (.func 172) #[] lb) /\
   yS prog 172 lb spA (λ_=>False) K (gZ us size) w'/\(∀k,K k->w.heap.size<=k/\k<w'.heap.size)/\Below w.heap.size w w':=by
 have hb0:=(aQ w (.cells #[.slice A n cap] 26)).alloc zs (.cells #[zI size] 3);have k1:=(af.new w 26 #[.slice A n cap]).alloc (.cells #[zI size] 3);have k2:=af.new (w.alloc (.cells #[.slice A n cap] 26)) 3 #[zI size];rw [World.size_alloc] at k2;have r0:RU ((w.alloc (.cells #[.slice A n cap] 26)).alloc (.cells #[zI size] 3)) _ A us:=hr.on hb0;have HK:=ae (xL A n cap us _ hn hm r0);have z1:=k1.cell;have hsz:((w.alloc (.cells #[.slice A n cap] 26)).alloc (.cells #[zI size] 3)).heap.size=w.heap.size+2:=by simp
 go_enter func131,ntmps131;go_wp2_with fail;refine HK.out.mono ?_;rintro e w1 ⟨v,rfl,hrow,hb1⟩;have B1:=hb0.zt hb1;obtain ⟨VC,k2b⟩:=bY hb1 k1 k2;have f1:=VC.frozen;have z1b:=VC.cell;have hs1:=B1.size;clear HK;obtain ⟨A2,cap2,rfl⟩:=fF hrow hn;go_wp2_with fail;go_ret;have k1c:=VC.aM 0 (.slice A2 n cap2);have k2c:=k2b.far (p:=⟨w.heap.size,0,none⟩) (by show w.heap.size+1≠w.heap.size;omega) (.slice A2 n cap2);have mH:ag (λk=>k=w.heap.size) w1 (w1.setCell ⟨w.heap.size,0,none⟩ (.slice A2 n cap2)):=ag.setCell (T:=λk=>k=w.heap.size) (p:=⟨w.heap.size,0,none⟩) (ag.refl _ _) (λ_=>rfl) _;have hrow2:=aN hrow mH (λg hg e=>by have:=(hrow.lt g hg).1;omega);have B2:=B1.trans (mH.below hs1 (λk hk h=>by omega));generalize w1.setCell ⟨w.heap.size,0,none⟩ (.slice A2 n cap2)=w2 at *;obtain ⟨A3,mI,he,dR,h1,h2,h3,_⟩:=lQ hrow2 hn;cases he;refine ⟨_,λk=>k=w.heap.size\/k=w.heap.size+1\/(us≠[]/\∃o,A2=some ⟨k,o,none⟩),rfl,OW A2 n cap2 us size w.heap.size (w.heap.size+1) _ w2 (.inl rfl) (.inr (.inl rfl)) (by simpa using k1c) k2c hn (by unfold maxLen;omega) dR (λh b o e=>.inr (.inr ⟨h,o,e⟩)),?_,B2⟩;rintro k (rfl|rfl|⟨h,o,e⟩)
 ·exact ⟨Nat.le_refl _,k1c.lt⟩
 ·exact ⟨zo,k2c.lt⟩
 ·exact ⟨by have:=h3 k o e;omega,EN dR h e⟩
theorem Rw (A:Option Addr) (n cap:Nat) (us:List Sp) (B1:Nat) (K:Nat->Prop) (w:World) (hK1:K B1)
  (k1:af w B1 26 #[.slice A n cap]) (hn:us.length=n) (hm:n<=1000000) (hr:RU w w.heap.size A us) (hown:us≠[]->∀b o,A=some ⟨b,o,none⟩->K b) :
  YQ prog 130 #[zP B1] inA (λ_=>False) K (qQ (gZ us 1)) w:=by
 intro n0 l0 J Jx W hW hJ hJx hnew hY h0;have kB1:=hW.blk k1 (by simpa using hK1);have L8:RU W W.heap.size A us:=by
  by_cases h:us=[]
  ·subst h;exact RU.nil
  ·exact (hW.ru hr (λb o e h'=>h' (hown h b o e))).more hW.size
 obtain ⟨s,hs⟩:=ah (W.heap.size);obtain ⟨Wb,EL⟩:=ah (W.alloc (.cells #[.func (.yield l0) #[] #[]] 111));refine callsIn_wide.2 ?_;refine bL func130 rfl ?_;simp only [ntmps130,List.size_toArray,List.length_cons,List.length_nil,Nat.reduceAdd,Nat.reduceSub,Array.replicate_succ,Array.replicate_zero,List.push_toArray,List.append_toArray,List.nil_append,List.cons_append];go_upto_region 1 with fail
 have hFb:ag (λ_=>False) W Wb:=by rw [<-EL];exact (ag.refl _ W).alloc _
 have Jc:Wb.heap.size=s+1:=by rw [<-EL,<-hs];simp
 have kY:af Wb s 111 #[.func (.yield l0) #[] #[]]:=by rw [<-EL,<-hs];exact af.new _ _ _
 have Jb:=hFb.blk kB1 id;have hrb:RU Wb Wb.heap.size A us:=L8.on (by rw [<-EL];exact aQ W _);have zB:=Jb.cell;clear EL kB1 L8;have HT:=ae (Jg A n cap us 1 Wb hn hm hrb);go_wp2_with fail;refine HT.out.mono ?_;rintro e w2 ⟨lb,Kin,rfl,hseq,hK,hq2⟩;have kY2:=kY.call hq2;have hF2:ag (λ_=>False) W w2:=hFb.trans (.of_below hq2);have hs2:s+1<=w2.heap.size:=by rw [<-Jc];exact hq2.size
 clear HT hrb hq2 hn hr;have HJ0:J (λk=>Kin k\/False\/k=s\/k=w2.heap.size\/k=w2.heap.size+1) [] w2 :=
  hJ _ _ W w2 (hnew _ _ _ W h0 (λk hk=>by
   right;rcases hk with h|h|h|h|h
   ·have:=(hK k h).1;omega
   ·exact h.elim
   ·omega
   ·omega
   ·omega)) (hF2.mono λ_ _ h=>h.elim)
 go_wp2_with fail;refine abC 3 6 85 (gf:=172) (lb:=lb) rfl Jf hseq rfl (λ_ h=>h.elim) (λk h=>(hK k h).2)
  (λX pre W=>J (λk=>Kin k\/X k\/k=s\/k=w2.heap.size\/k=w2.heap.size+1) (qQ pre) W/\af W s 111 #[.func (.yield l0) #[] #[]]/\¬X s/\w2.heap.size<=W.heap.size)
  (λc X pre W=>c= .ret/\pre <+: gZ us 1/\Jx (λk=>Kin k\/X k\/k=s\/k=w2.heap.size\/k=w2.heap.size+1) (qQ pre) W)
  (λX pre A B h hf=>⟨hJ _ _ A B h.1 (hf.mono λk _ h=>by
    rcases h with h|h|h|h
    ·exact h.elim
    ·exact .inr (.inr (.inl h))
    ·exact .inr (.inr (.inr (.inr (.inl h))))
    ·exact .inr (.inr (.inr (.inr (.inr h))))),hf.blk h.2.1 (by rintro (h'|h'|h'|h');exact h';exact h.2.2.1 h';omega;omega),h.2.2.1,Nat.le_trans h.2.2.2 hf.size⟩)
  (λc X pre A B h hf=>⟨h.1,h.2.1,hJx _ _ A B h.2.2 (hf.mono λk _ h=>by
    rcases h with h|h|h|h
    ·exact h.elim
    ·exact .inr (.inr (.inl h))
    ·exact .inr (.inr (.inr (.inr (.inl h))))
    ·exact .inr (.inr (.inr (.inr (.inr h)))))⟩)
  (λX X' pre A h hX=>⟨hnew _ _ _ A h.1 (λk hk=>by
    rcases hk with h'|h'|h'
    ·exact .inl (.inl h')
    ·exact (hX k h').elim (λh'=>.inl (.inr (.inl h'))) .inr
    ·exact .inl (.inr (.inr h'))),h.2.1,λh'=>(hX _ h').elim h.2.2.1 (λh'=>by have:=h.2.1.lt;omega),h.2.2.2⟩)
  ⟨HJ0,kY2,id,Nat.le_refl _⟩ ?assign ?body ?done ?stop
 case assign =>
  exact OM
 case body =>
  rintro m l X pre x Bx Wa W hsz hXlt ⟨hJs,kY,nY,hwz⟩ hpre hBx kx hBa;simp only [List.setIfInBounds_toArray,List.set_cons_succ,List.set_cons_zero];obtain ⟨xa,xb⟩:=x;dsimp only at kx;obtain ⟨cx,cY⟩:=bB kx kY;have hmap:Hid (qQ (pre++[(xa,xb)])=qQ pre++[xa]):=ae (VE _ _);have OZ:qQ pre++[xa] <+: qQ (gZ us 1):=by
   rw [<-hmap.out];exact Nu hpre
  have hall:∀k,(Kin k\/X k\/k=s\/k=w2.heap.size\/k=w2.heap.size+1)->k<W.heap.size:=λk hk=>by
   rcases hk with h|h|h|h|h
   ·have:=(hK k h).2;omega
   ·have:=(hXlt k h).1;have:=kx.lt;omega
   ·omega
   ·omega
   ·omega
  obtain ⟨fn,tmps,assign,body,hy,qc⟩:=hY (m - 1) _ (qQ pre) xa W hJs hall OZ;clear hY
  gi_wp2_with fail
  refine (Rv qc).mono ?_;rintro e W4 (⟨rfl,DF,fQ⟩|⟨rfl,BI,fQ⟩)
  ·gi_wp2_with fail
   exact ⟨fQ.mono λk _ h h'=>h (.inr (by
    rcases h' with h'|h'|h'|h'
    ·exact .inl h'
    ·exact .inr (.inl h')
    ·exact .inr (.inr (.inr (.inl h')))
    ·exact .inr (.inr (.inr (.inr h'))))),by rw [hmap.out];exact DF,fQ.blk kY (λh=>h (.inr (.inr (.inr (.inl rfl))))),nY,Nat.le_trans hwz fQ.size⟩
  ·gi_wp2_with fail
   exact ⟨fQ.mono λk _ h h'=>h (.inr (h'.elim (λh'=>.inr (.inr (.inr (.inl h')))) (λh'=>.inr (.inr (.inr (.inr h')))))),rfl,hpre,by rw [hmap.out];exact BI⟩
 case done =>
  rintro X W5 hsz ⟨hJs,_,_,_⟩ hd;have hfin:=hJ _ _ W5 (W5.putObj w2.heap.size (.deferred none)) hJs (ag.putObj (ag.refl _ _) (λ_=>.inr (.inr (.inr (.inr (.inl rfl))))) _);go_wp2_with fail;exact dF (v:=.tuple #[]) hd (results_none rfl _ _ _) ⟨⟨_,rfl⟩,.inl ⟨_,hfin⟩⟩
 case stop =>
  rintro c X pre W5 hsz hpre ⟨rfl,_,hJs⟩ hd;have hfin:=hJx _ _ W5 (W5.putObj w2.heap.size (.deferred none)) hJs (ag.putObj (ag.refl _ _) (λ_=>.inr (.inr (.inr (.inr (.inl rfl))))) _);go_wp2_with fail;exact dF (v:=.tuple #[]) hd (results_none rfl _ _ _) ⟨⟨_,rfl⟩,.inr ⟨_,_,Nu hpre,hfin⟩⟩
theorem L9:∀args w,(callFunc 130 args).run prog w= .ok (.enter 130 args) w:=enters_of func130 zk rfl
theorem Ma (A:Option Addr) (n cap:Nat) (us:List Sp) (w:World) (hn:us.length=n) (hm:n<=1000000) (hr:RU w w.heap.size A us) :
  Calls prog 56 #[.slice A n cap] w λe w'=>∃(lb:Array Value) (K:Nat->Prop),e= .returned (.func (.func 130) #[] lb) /\
   YQ prog 130 lb inA (λ_=>False) K (qQ (gZ us 1)) w'/\(∀k,K k->w.heap.size<=k/\k<w'.heap.size)/\Below w.heap.size w w':=by
 have hb0:=aQ w (.cells #[.slice A n cap] 26);have k1:=af.new w 26 #[.slice A n cap];have r0:RU (w.alloc (.cells #[.slice A n cap] 26)) _ A us:=hr.on hb0;have HK:=ae (xL A n cap us _ hn hm r0);have z1:=k1.cell;have hsz:(w.alloc (.cells #[.slice A n cap] 26)).heap.size=w.heap.size+1:=by simp
 go_enter func56,ntmps56;go_wp2_with fail;refine HK.out.mono ?_;rintro e w1 ⟨v,rfl,hrow,hb1⟩;have B1:=hb0.zt hb1;have VC:=k1.call hb1;have f1:=VC.frozen;have z1b:=VC.cell;have hs1:=B1.size;clear HK;obtain ⟨A2,cap2,rfl⟩:=fF hrow hn;go_wp2_with fail;go_ret;have k1c:=VC.aM 0 (.slice A2 n cap2);have mH:ag (λk=>k=w.heap.size) w1 (w1.setCell ⟨w.heap.size,0,none⟩ (.slice A2 n cap2)):=ag.setCell (T:=λk=>k=w.heap.size) (p:=⟨w.heap.size,0,none⟩) (ag.refl _ _) (λ_=>rfl) _;have hrow2:=aN hrow mH (λg hg e=>by have:=(hrow.lt g hg).1;omega);have B2:=B1.trans (mH.below hs1 (λk hk h=>by omega));generalize w1.setCell ⟨w.heap.size,0,none⟩ (.slice A2 n cap2)=w2 at *;obtain ⟨A3,mI,he,dR,h1,h2,h3,_⟩:=lQ hrow2 hn;cases he;refine ⟨_,λk=>k=w.heap.size\/(us≠[]/\∃o,A2=some ⟨k,o,none⟩),rfl,Rw A2 n cap2 us w.heap.size _ w2 (.inl rfl) (by simpa using k1c) hn hm dR (λh b o e=>.inr ⟨h,o,e⟩),?_,B2⟩;rintro k (rfl|⟨h,o,e⟩)
 ·exact ⟨Nat.le_refl _,k1c.lt⟩
 ·exact ⟨by have:=h3 k o e;omega,EN dR h e⟩
def aoD (s b g0 cap0:Nat) (p:Int) (L:List Nd) (w:World) (pre:List Nat) (W:World):Prop :=
 af W b 145 #[.bool true,.slice (some ⟨g0,0,none⟩) L.length cap0]/\bz W b (pre.foldl (λL i=>L.modify i (tJ p)) L)/\af W s 43 #[zP b]/\af W (s+1) 3 #[zI p]/\ag (lD b w) w W
theorem Nv (b n:Nat) (p:Int) (L:List Nd) (w:World) (hB:bz w b L) (hO:jP L) (hn:n<L.length) (hS:YR L) (hp : -100000<=p/\p<=100000) :
  Calls prog 143 #[zP b,zI n,zI p] w λe w'=>(∃v,e= .returned v)/\bz w' b (rY L n p)/\ag (lD b w) w w':=by
 have hb0:=(aQ w (.cells #[zP b] 43)).alloc zs (.cells #[zI p] 3);have k1:=(af.new w 43 #[zP b]).alloc (.cells #[zI p] 3);have k2:=af.new (w.alloc (.cells #[zP b] 43)) 3 #[zI p];rw [World.size_alloc] at k2;have B0:=hB.call hb0;have hbs:=hB.lt;have c1:=k1.cell;obtain ⟨g0,cap0,hc1,hc2,Hm,hg0,aoE,_,_⟩:=hB.node hO.pos;refine bL func143 rfl ?_;simp only [ntmps143,List.size_toArray,List.length_cons,List.length_nil,Nat.reduceAdd,Nat.reduceSub,Array.replicate_succ,Array.replicate_zero,List.push_toArray,List.append_toArray,List.nil_append,List.cons_append]
 go_wp2_with (go_at_call 181;refine (Ng b n _).mono ?_;rintro e w2 ⟨rfl,rfl⟩)
 obtain ⟨s,hs⟩:=ah (w.heap.size);rw [hs] at hbs aoE;obtain ⟨W0,hW0⟩:=ah ((((w.alloc (.cells #[zP b] 43)).alloc (.cells #[zI p] 3)).alloc (.cells #[zP b] 43)).alloc (.cells #[zI n] 3));have hsz:W0.heap.size=s+4:=by rw [<-hW0];simp [hs]
 have k1':af W0 s 43 #[zP b]:=by rw [<-hW0,<-hs];exact (k1.alloc _).alloc _
 have k2':af W0 (s+1) 3 #[zI p]:=by rw [<-hW0,<-hs];exact (k2.alloc _).alloc _
 have Bl:af W0 (s+2) 43 #[zP b]:=by
  have:=(af.new ((w.alloc (.cells #[zP b] 43)).alloc (.cells #[zI p] 3)) 43 #[zP b]).alloc (.cells #[zI n] 3);rw [hW0,World.size_alloc,World.size_alloc,hs] at this;exact this
 have ES:af W0 (s+3) 3 #[zI n]:=by
  have:=af.new (((w.alloc (.cells #[zP b] 43)).alloc (.cells #[zI p] 3)).alloc (.cells #[zP b] 43)) 3 #[zI n];rw [hW0,World.size_alloc,World.size_alloc,World.size_alloc,hs] at this;exact this
 have IY:ag (lD b w) w W0:=by rw [<-hW0];exact ((((ag.refl _ w).alloc _).alloc _).alloc _).alloc _
 have B0':bz W0 b L:=by rw [<-hW0];exact ((hB.call hb0).call ((Below.refl _ _).alloc (Nat.le_refl _) _)).call ((Below.refl _ _).alloc (Nat.le_refl _) _)
 have aoF:af W0 b 145 #[.bool true,.slice (some ⟨g0,0,none⟩) L.length cap0]:=IY.blk Hm (λh=>h.2.elim λcs hcs=>af.vN Hm hcs zd rfl);have hseq:=IW b n L.length (s+2) (s+3) W0 hn zo zo Bl ES;have hsz':=ae hsz;simp only [hs] at hW0 ⊢;rw [hW0];clear hW0 c1 B0 k1 k2 hb0 Hm;refine YH (gf:=204) (lb:=#[zP (s+2),zP (s+3)]) rfl DD hseq (λ_=>rfl) (λk h=>by omega) (λk h=>by omega)
  (aoD s b g0 cap0 p L w) (λ_ _ _=>False)
  (λpre A h=>⟨_,h.2.1,hO.fold pre p,sS _ _ _⟩)
  (λpre A B h hf=>⟨hf.blk h.1 zo,h.2.1.aiA hf zo (λg cap hk=>by rw [sS] at hk;have:=DN h.1 hk;omega),hf.blk h.2.2.1 zo,hf.blk h.2.2.2.1 zo,h.2.2.2.2.trans' hf (λi hi ht=>by omega)⟩)
  (λ_ _ _ _ h _=>h.elim) ⟨aoF,B0',k1',k2',IY⟩
  (λ_ i a' W=>∃u7 u12 u13 u14 u15 u16 u17 u18 u19 u20 u21 u22 u23 u24 u25 u26 u27 u28 u29 u30 u31 u32 u33 u34 u35 u36 u37 u38 u39:Value,a'={ tmps:=#[.pointer (some ⟨b,0,none⟩),zI n,zI p,.pointer (some ⟨s,0,none⟩),undef,.pointer (some ⟨s+1,0,none⟩),zI i,u7,.pointer (some ⟨b,0,none⟩),zI n,.func (.func 204) #[] #[.pointer (some ⟨s+2,0,none⟩),.pointer (some ⟨s+3,0,none⟩)],zI i,u12,u13,u14,u15,u16,u17,u18,u19,u20,u21,u22,u23,u24,u25,u26,u27,u28,u29,u30,u31,u32,u33,u34,u35,u36,u37,u38,u39],defers:=[] })
  (λ_ _ _ _ _ h _=>h) ?assign ?body ?done ?stop
 case assign =>
  intro m l' i W C hs' hC
  gi_wp2
  exact hC _ _ (ag.refl _ _) ⟨_,_,_,_,_,_,_,_,_,_,_,_,_,_,_,_,_,_,_,_,_,_,_,_,_,_,_,_,_,rfl⟩
 case body =>
  rintro m l' pre i a' Wa W hs2 hI ⟨u7,u12,u13,u14,u15,u16,u17,u18,u19,u20,u21,u22,u23,u24,u25,u26,u27,u28,u29,u30,u31,u32,u33,u34,u35,u36,u37,u38,u39,rfl⟩ hpre _ _;obtain ⟨kb,hBW,VF,Jj,hF⟩:=hI;have hnd:pre.Nodup/\i∉pre:=by
   have:=(Dw n).sublist hpre.sublist;rw [List.nodup_append] at this;exact ⟨this.1,λh=>this.2.2 i h i zs rfl⟩
  have hin:i<=n:=pY.1 (hpre.subset zs);obtain ⟨M,hM⟩:=ah (pre.foldl (λL i=>L.modify i (tJ p)) L);have hML:M.length=L.length:=by rw [<-hM];exact sS _ _ _
  have hMi:M.getD i nd0=L.getD i nd0:=by rw [<-hM];exact aab pre L p hnd.1 i hnd.2
  have hfin:(pre++[i]).foldl (λL i=>L.modify i (tJ p)) L=M.modify i (tJ p):=by rw [List.foldl_append,hM];rfl
  rw [hM] at hBW;have hiM:i<M.length:=zo;obtain ⟨g,cap,hc3,hc4,kbg,hgN,hgl,hcell,hfz,hput⟩:=hBW.put hiM;have hgg:g=g0:=by rw [hML] at kbg;exact DN kb kbg
  have hx:=hS i zo;rw [<-hMi] at hx;have z5:=hcell 5 _ rfl;have z3:=hcell 3 _ rfl;have acE:=ae hput;have hi1:i<(M.modify i (f1B p)).length:=by rw [List.length_modify];omega
  have hM1:Hid ((M.modify i (f1B p)).getD i nd0=f1B p (M.getD i nd0)):=ae (by
   rw [List.getD_eq_getElem?_getD,iT,if_pos rfl,List.getElem?_eq_getElem hiM,List.getD_eq_getElem?_getD,List.getElem?_eq_getElem hiM];rfl)
  have hkb2:=ae kbg;have hl1:Hid ((M.modify i (f1B p)).length=M.length):=ae (List.length_modify _ _ _);have hbg:Hid (b≠g):=ae (λe=>hgN.2.elim λcs hcs=>af.vN kbg hcs zd e);obtain ⟨q1,q2,qb⟩:=mM VF Jj kbg;have hil:i<M.length:=hiM;have e1:=λz:Ext W=>z.cell z5
  have e2:=λz:Ext W=>(z.blk Jj).cell
  have hwr:IntKind.i64.wrap ((M.getD i nd0).all+p)=(M.getD i nd0).all+p:=by rw [IntKind.wrap_i64];omega
  obtain ⟨yp,hyp⟩:∃y,(M.getD i nd0).jk=y:=⟨_,rfl⟩;obtain ⟨ya,hya⟩:∃y,(M.getD i nd0).all=y:=⟨_,rfl⟩;rw [hya] at hwr e1 z5;rw [hyp] at z3;have aiB:=ae hyp;have acF:=ae hya;have alK:=ae hfin;have hM':=ae hM;have hF':=ae hF;have hkb:=ae kb;have aiC:=ae hgg;have hbx : -200000<=ya+p/\ya+p<=200000:=zo;clear hcell hput hM hfin hyp hya hMi hx hBW hF kb hgg;generalize M.length=ml at *
  gi_upto_region 4 with fail
  clear q1 qb;refine nQ 8 zk zk ?hlo1 zk ?_
  case hlo1=>rintro ⟨a,w,h⟩;exact h
  simp only [List.take_succ_cons,List.take_zero,List.drop_succ_cons,List.drop_zero]
  repeat (go_big_quiet_step (fail))
  refine wpQuiet_nil ?_;intro z;have hz5:=z.cell z5;have hz3:=z.cell z3;have fz:∀o,z.w.frozen? ⟨g,o,none⟩=false:=λo=>(z.blk (hgN.2.choose_spec)).frozen o
  have hP1:=acE.out z.w z.le 5 (zI (ya+p)) (f1B p) zo (by rw [<-acF.out];rfl);clear acE e1 e2;go_wp2_with fail;obtain ⟨hB1,hF1⟩:=hP1;obtain ⟨w1,hw1⟩:=ah (z.w.setCell ⟨g,i*6+5,none⟩ (zI (ya+p)));rw [hw1] at hB1 hF1 ⊢;obtain ⟨g',cap',_,_,aiD,hgN',awX,hcell',hfz',mO⟩:=hB1.put hi1;rw [hM1.out] at hcell' mO;have hg':g'=g:=by
   have h1:=hF1.blk hkb2.out hbg.out;have h2:=aiD;rw [hl1.out] at h2;exact DN h1 h2
  subst hg';have y5:=hcell' 5 (zI (ya+p)) (by rw [<-acF.out];rfl);have y3:=hcell' 3 (zI yp) (by rw [<-aiB.out];rfl);have zw:=ae mO;have e5:=λz:Ext w1=>z.cell y5
  have e3:=λz:Ext w1=>z.cell y3
  have aoH:=ae hF1;have awY:=hfz';clear hcell' mO y5 y3 aiD hB1 hw1;refine nQ 14 zk zk ?hlo2 zk ?_
  case hlo2=>rintro ⟨a,w,h⟩;exact h
  simp only [List.take_succ_cons,List.take_zero,List.drop_succ_cons,List.drop_zero]
  repeat (go_big_quiet_step (fail))
  refine wpQuiet_nil ?_;intro z2;have hP2:=zw.out z2.w z2.le 3 (zI (max yp (ya+p))) f2B zo (by rw [<-aiB.out,<-acF.out];rfl);have fz4:∀o,z2.w.frozen? ⟨g',o,none⟩=false:=λo=>(z2.blk (hgN'.2.choose_spec)).frozen o
  have y3':=z2.cell (e3 ⟨w1,Below.refl _ _⟩);clear zw e3 e5;go_wp2_with fail;have F:=aoH.out.trans hP2.2;have hgs:g'<s:=by have:=aiC.out;omega
  have hwx:(z2.w.setCell ⟨g',i*6+3,none⟩ (zI (max yp (ya+p)))).heap.size>=W.heap.size:=F.size;refine ⟨F.mono (λk _ e=>by omega),F.blk hkb.out (by have:=hbg.out;omega),?_,F.blk VF zo,F.blk Jj zo,hF'.out.trans' F (λk _ e=>by subst e;rw [aiC.out];exact hg0)⟩;rw [alK.out,<-aoC];exact hP2.1
 case done =>
  rintro W hs2 ⟨kb,hBW,VF,Jj,hF⟩ hd;have hFd:ag (λk=>k=W0.heap.size) W (W.putObj W0.heap.size (.deferred none)):=ag.putObj (T:=λk=>k=W0.heap.size) (ag.refl _ _) (λ_=>rfl) _;refine dF hd (results_none rfl _ _ _) ⟨⟨_,rfl⟩,?_,hF.trans' hFd (λi hi e=>by omega)⟩;exact hBW.aiA hFd zo (λg cap hk=>by rw [sS] at hk;have:=DN kb hk;omega)
 case stop=>exact λ_ _ _ _ _ h _=>h.elim
def TiI (s b:Nat) (L:List Nd) (n:Nat) (w:World) (pre:List Nat) (W:World):Prop :=
 Below w.heap.size w W/\af W s 43 #[zP b]/\af W (s+2) 3 #[zI ((pre.foldl (λb p=>if bX L p<bX L b then p else b) n:Nat):Int)]
theorem Rx (b n:Nat) (L:List Nd) (w:World) (hB:bz w b L) (hO:bf L) (hn:n<L.length) :
  zK 180 #[zP b,zI n] w (.tuple #[zI (jT L n:Int),zI 0]):=by
 have hb0:=(aQ w (.cells #[zP b] 43)).alloc zs (.cells #[zI n] 3);have k1:=(af.new w 43 #[zP b]).alloc (.cells #[zI n] 3);have k2:=af.new (w.alloc (.cells #[zP b] 43)) 3 #[zI n];rw [World.size_alloc] at k2;have B0:=hB.call hb0;have hbs:=hB.lt;have c1:=k1.cell;have hA:=ae (Nf b (n:Int) (some ⟨w.heap.size+1,0,none⟩) 1 L _ B0 hO.ch (λk hk=>⟨w.heap.size+1,0,rfl,zs,by
  have h0:k=0:=by simpa using hk
  subst h0;exact k2.cell 0⟩))
 rw [if_pos zo] at hA;refine bL func180 rfl ?_;simp only [ntmps180,List.size_toArray,List.length_cons,List.length_nil,Nat.reduceAdd,Nat.reduceSub,Array.replicate_succ,Array.replicate_zero,List.push_toArray,List.append_toArray,List.nil_append,List.cons_append];go_upto_region 2 with (go_at_call 80;refine hA.out.mono ?_;rintro e w2 ⟨rfl,hw2⟩;replace hw2:=hw2.symm;subst hw2)
 go_wp2_with (go_at_call 181;refine (Ng b n _).mono ?_;rintro e w2 ⟨rfl,rfl⟩)
 obtain ⟨s,hs⟩:=ah (w.heap.size);rw [hs] at hbs;obtain ⟨W0,hW0⟩:=ah (((((w.alloc (.cells #[zP b] 43)).alloc (.cells #[zI n] 3)).alloc (.cells #[zI n] 3)).alloc (.cells #[zP b] 43)).alloc (.cells #[zI n] 3));have hsz:W0.heap.size=s+5:=by rw [<-hW0];simp [hs]
 have aoI:Below w.heap.size w W0:=by
  rw [<-hW0];exact ((hb0.alloc (by simp;omega) _).alloc (by simp;omega) _).alloc (by simp;omega) _
 have k1':af W0 s 43 #[zP b]:=by rw [<-hW0,<-hs];exact ((k1.alloc _).alloc _).alloc _
 have Bl:af W0 (s+2) 3 #[zI n]:=by
  have:=((af.new ((w.alloc (.cells #[zP b] 43)).alloc (.cells #[zI n] 3)) 3 #[zI n]).alloc (.cells #[zP b] 43)).alloc (.cells #[zI n] 3);rw [hW0,World.size_alloc,World.size_alloc,hs] at this;exact this
 have ES:af W0 (s+3) 43 #[zP b]:=by
  have:=(af.new (((w.alloc (.cells #[zP b] 43)).alloc (.cells #[zI n] 3)).alloc (.cells #[zI n] 3)) 43 #[zP b]).alloc (.cells #[zI n] 3);rw [hW0,World.size_alloc,World.size_alloc,World.size_alloc,hs] at this;exact this
 have k5':af W0 (s+4) 3 #[zI n]:=by
  have:=af.new ((((w.alloc (.cells #[zP b] 43)).alloc (.cells #[zI n] 3)).alloc (.cells #[zI n] 3)).alloc (.cells #[zP b] 43)) 3 #[zI n];rw [hW0,World.size_alloc,World.size_alloc,World.size_alloc,World.size_alloc,hs] at this;exact this
 have hseq:=IW b n L.length (s+3) (s+4) W0 hn zo zo ES k5';have sF:=ae hB;have hs':=ae hs;simp only [hs] at hW0 ⊢;rw [hW0];clear hW0 c1 B0 k1 k2 hb0 hA;refine YH (gf:=204) (lb:=#[zP (s+3),zP (s+4)]) rfl DD hseq (λ_=>rfl) (λk h=>by omega) (λk h=>by omega)
  (TiI s b L n w) (λ_ _ _=>False)
  (λpre A h=>⟨L,sF.out.call h.1,hO.ch,rfl⟩)
  (λpre A B h hf=>⟨h.1.trans (hf.below (by have:=h.1.size;omega) (λk hk e=>by have:=hs'.out;omega)),hf.blk h.2.1 zo,hf.blk h.2.2 zo⟩)
  (λ_ _ _ _ h _=>h.elim) ⟨aoI,k1',Bl⟩
  (λ_ i a' W=>∃u21 u22 u23 u24 u25 u26 u27 u28 u29:Value,a'={ tmps:=#[.pointer (some ⟨b,0,none⟩),zI n,.pointer (some ⟨s,0,none⟩),undef,zI 0,zI 0,zI 0,.pointer (some ⟨s+2,0,none⟩),zI i,.pointer (some ⟨b,0,none⟩),zI n,.slice (some ⟨s+1,0,none⟩) 1 1,zI 0,zI 0,.bool false,undef,zI n,.pointer (some ⟨b,0,none⟩),zI n,.func (.func 204) #[] #[.pointer (some ⟨s+3,0,none⟩),.pointer (some ⟨s+4,0,none⟩)],zI i,u21,u22,u23,u24,u25,u26,u27,u28,u29],defers:=[] })
  (λ_ _ _ _ _ h _=>h) ?assign ?body ?done ?stop
 case assign =>
  intro m l' i W C hs' hC
  gi_wp2
  exact hC _ _ (ag.refl _ _) ⟨_,_,_,_,_,_,_,_,_,rfl⟩
 case body =>
  rintro m l' pre i a' Wa W hs2 hI ⟨u21,u22,u23,u24,u25,u26,u27,u28,u29,rfl⟩ hpre _ _;obtain ⟨hBl,VF,Jj⟩:=hI;have hin:i<=n:=pY.1 (hpre.subset zs);obtain ⟨t,ht⟩:=ah (pre.foldl (λb p=>if bX L p<bX L b then p else b) n);have htn:t<=n:=by
   rw [<-ht];exact EG L pre n n (Nat.le_refl _) (λp hp=>pY.1 (hpre.subset (by simp [hp])))
  have hfin:Hid ((pre++[i]).foldl (λb p=>if bX L p<bX L b then p else b) n=if bX L i<bX L t then i else t):=ae (by rw [List.foldl_append,ht];rfl);rw [ht] at Jj;have hBW:=sF.out.call hBl;have HR:Hid (∀(z:Ext W) (j:Nat),j<L.length->Calls prog 178 #[zP b,zI j] z.w λe w''=>e= .returned (zI (bX L j))/\∃t:Ext W,w''=t.w):=ae (λz j hj=>Ext.call (Cs b j L z.w (hBW.call z.le) hO hj));have e1:=λz:Ext W=>(z.blk VF).cell
  have e2:=λz:Ext W=>(z.blk Jj).cell
  have hil:i<L.length:=zo;have htl:t<L.length:=zo;have aoJ:=ae hBl;have q2:=Jj.frozen;clear hBW hBl ht
  gi_upto_region 7 with fail
  refine nQ 6 zk zk ?hlo1 zk ?_
  case hlo1=>rintro ⟨a,w,h⟩;exact h
  simp only [List.take_succ_cons,List.take_zero,List.drop_succ_cons,List.drop_zero]
  repeat (go_big_quiet_step ((go_at_call 178;first|exact HR.out _ _ hil|exact HR.out _ _ htl)))
  refine wpQuiet_nil ?_;intro z;have kz1:=z.blk VF;have kz2:=z.blk Jj;have hBz:=aoJ.out.zt z.le;have cz2:=kz2.cell;have fz2:=kz2.frozen;have hsz2:=hBz.size;have FB:=ag.of_below z.le (T:=λ_=>False);clear e1 e2 HR q2;obtain ⟨ri,vQ⟩:∃r,bX L i=r:=⟨_,rfl⟩;obtain ⟨rt,hrt⟩:∃r,bX L t=r:=⟨_,rfl⟩;rw [vQ,hrt] at hfin;by_cases hlt:ri<rt
  ·have hlt':=bU hlt
   have CO:=hfin.out;rw [if_pos hlt] at CO;have VG:=ae CO;have F3:ag (λk=>k=s+2) z.w (z.w.setCell ⟨s+2,0,none⟩ (zI i)):=ag.setCell (T:=λk=>k=s+2) (p:=⟨s+2,0,none⟩) (ag.refl _ _) (λ_=>rfl) _;have k13:=F3.blk kz1 zo;have k23:=kz2.aM 0 (zI i);have hB3:=hBz.trans (F3.below (Nat.le_trans (Nat.le_of_eq rfl) hsz2) (λk hk e=>by have:=hs'.out;omega));have hall:=ae (And.intro k13 (And.intro k23 (And.intro hB3 F3)));clear hfin CO k13 k23 hB3 F3 hlt;go_wp2_with fail
   gi_wp2_with fail
   refine ⟨(FB.mono (λ_ _ h=>h.elim)).trans (hall.out.2.2.2.mono (λk _ e=>by omega)),hall.out.2.2.1,hall.out.1,?_⟩;rw [VG.out];exact hall.out.2.1
  ·have hlt':=bV hlt
   have CO:=hfin.out;rw [if_neg hlt] at CO;have VG:=ae CO;clear hfin CO hlt;go_wp2_with fail
   gi_wp2_with fail
   refine ⟨FB.mono (λ_ _ h=>h.elim),hBz,kz1,?_⟩;rw [VG.out];exact kz2
 case done =>
  rintro W hs2 ⟨hBl,VF,Jj⟩ hd;have c2:=Jj.cell;have hd':=ae hd;go_wp2_with fail;refine dF hd'.out (v:=.tuple #[zI (jT L n:Int),zI 0]) ?_ ⟨rfl,xA hBl (by have:=hs'.out;omega) _⟩;simp [results,results180,go_sem,jT]
 case stop=>exact λ_ _ _ _ _ h _=>h.elim
theorem VH (b n:Nat) (L:List Nd) (w:World) (hB:bz w b L) (hO:bf L) (hn:n<L.length) :
  zK 142 #[zP b,zI n] w (.tuple #[zI (rC L n),zI 0]):=by
 have HT:=ae (Rx b n L w hB hO hn);have hle:=IE L n;have HR:=ae (λW (h:bz W b L)=>Cs b (jT L n) L W h hO zo);have hh:rC L n=max (bX L (jT L n)) 0:=rfl;rw [hh];have hB':=ae hB;generalize bX L (jT L n)=r at *;generalize jT L n=t at *;clear hh hle hB;go_enter func142,ntmps142;go_wp2_with fail;refine HT.out.zr λw1 hb1=>?_
 go_wp2_with fail;refine (HR.out w1 (hB'.out.call hb1)).zr λw2 hb2=>?_
 go_wp2_with fail;go_ret2;exact ⟨rfl,hb1.zt hb2⟩
theorem aiE {P:Prop} (h:P:=by
 go_wp2_with fail;refine HA.out.mono ?_;rintro e w4 ⟨⟨v,rfl⟩,hB4,fQ⟩;go_wp2_with fail;go_ret;rw [<-jZ.out];exact ⟨rfl,hB4,lD.trans oQ.out fQ⟩):P:=h
theorem O1 (b n:Nat) (p:Int) (L:List Nd) (w:World) (hB:bz w b L) (hO:bf L) (hn:n<L.length) :
  Calls prog 69 #[zP b,zI n,zI p] w λe w'=>e= .returned (zI (iZ L n p).1)/\O0 b (iZ L n p).2 w w':=by
 have HH:=ae (VH b n L w hB hO hn);have HO:=ae (λW=>lK p 4096 W);obtain ⟨R,hR⟩:=ah (iZ L n p);rw [hR];have hR':=ae hR;unfold iZ at hR';obtain ⟨hd,hhd⟩:=ah (rC L n);rw [hhd] at HH hR';by_cases h1:p<0\/4096<p
 ·have hR2:Hid (R=(7,L)):=ae (by rw [<-hR'.out,if_pos h1])
  rw [decide_eq_true h1] at HO;have hB':=ae hB;clear hR hR' h1 hB;go_enter func69,ntmps69;go_wp2_with fail;refine HH.out.zr λw1 hb1=>?_
  go_wp2_with fail;refine (HO.out _).zr λw2 hw2=>?_
  replace hw2:=hw2.symm;subst hw2;go_wp2_with fail;go_ret;rw [hR2.out];exact ⟨rfl,hB'.out.call hb1,ag.of_below hb1⟩
 ·rw [decide_eq_false h1] at HO
  have hR2:=hR'.out;rw [if_neg h1] at hR2;by_cases h2:hd<p
  ·have h2':=bU h2
   rw [if_pos h2] at hR2;have jZ:=ae hR2;have hB':=ae hB;clear hR hR' hR2 h1 h2 hB;go_enter func69,ntmps69;go_wp2_with fail;refine HH.out.zr λw1 hb1=>?_
   go_wp2_with fail;refine (HO.out _).zr λw2 hw2=>?_
   replace hw2:=hw2.symm;subst hw2;go_wp2_with fail;go_ret;rw [<-jZ.out];exact ⟨rfl,hB'.out.call hb1,ag.of_below hb1⟩
  ·have h2':=bV h2
   rw [if_neg h2] at hR2;have jZ:=ae hR2;have hx:=hO.get hn;have hB':=ae hB;have hM1:=hO.ch.mod n (λx:Nd=>{ x with own:=x.own+p }) (λ_=>⟨rfl,rfl⟩);have hM2:=jP.small hO n (λx:Nd=>{ x with own:=x.own+p }) (λ_=>⟨rfl,rfl⟩);have hwr:IntKind.i64.wrap ((L.getD n nd0).own+p)=(L.getD n nd0).own+p:=by rw [IntKind.wrap_i64];omega
   have acH:=ae hM1;have acI:=ae hM2;have hp : -100000<=p/\p<=100000:=zo;have hn2:Hid (n<(L.modify n (λx:Nd=>{ x with own:=x.own+p })).length):=ae (by rw [List.length_modify];exact hn);clear hR hR' hR2 h1 h2 hB hM1 hM2;go_enter func69,ntmps69;go_wp2_with fail;refine HH.out.zr λw1 hb1=>?_
   go_wp2_with fail;refine (HO.out _).zr λw2 hw2=>?_
   replace hw2:=hw2.symm;subst hw2;obtain ⟨g,cap,hc1,hc2,kb,hgN,hgl,hcell,hfz,hput⟩:=(hB'.out.call hb1).put hn;have c2:=hcell 2 _ rfl;have cb:=kb.cell;have hP:=ae (hput w1 (Below.refl _ _) 2 (zI ((L.getD n nd0).own+p)) (λx:Nd=>{ x with own:=x.own+p }) zo rfl);obtain ⟨o,ho⟩:=ah ((L.getD n nd0).own);rw [ho] at c2 hwr hP hx;have hnl:n<L.length:=hn;clear hcell hput ho;generalize L.length=ml at *;go_upto_region 9 with fail
   obtain ⟨w3,hw3⟩:=ah (w1.setCell ⟨g,n*6+2,none⟩ (zI (o+p)));rw [hw3] at hP ⊢;have oQ:=ae (lD.one (ag.of_below hb1) hgN hP.out.2);have HA:=ae (Nv b n p _ w3 hP.out.1 acH.out hn2.out acI.out hp);clear hP;exact aiE
theorem zx (b n:Nat) (L:List Nd) (w:World) (hB:bz w b L) (hO:jP L) (hn:n<L.length) :
  Calls prog 80 #[zP b,.slice (some ⟨w.heap.size,0,none⟩) 1 1] (w.alloc (.cells #[zI n] 3)) λe w'=>e= .returned (zI 0)/\w'=w.alloc (.cells #[zI n] 3):=by
 have h:=Nf b (n:Int) (some ⟨w.heap.size,0,none⟩) 1 L (w.alloc (.cells #[zI n] 3)) (hB.call ((Below.refl _ _).alloc (Nat.le_refl _) _)) hO (λk hk=>⟨w.heap.size,0,rfl,zs,by
  have h0:k=0:=by simpa using hk
  subst h0;exact (af.new w 3 #[zI n]).cell 0⟩)
 rw [if_pos zo] at h;exact h
theorem aiF {P:Prop} (h:P:=by
 go_wp2_with (first|(go_at_call 80;refine HK.out.mono ?_;rintro e w2 ⟨rfl,hw2⟩;replace hw2:=hw2.symm;subst hw2)|(go_at_call 61;refine (HO.out _).mono ?_;rintro e w2 ⟨rfl,hw2⟩;replace hw2:=hw2.symm;subst hw2))
 go_ret;rw [hR2.out];exact ⟨rfl,hB'.out,ag.of_below hb1⟩):P:=h
theorem CP (b n:Nat) (p:Int) (L:List Nd) (w:World) (hB:bz w b L) (hO:bf L) (hn:n<L.length) :
  Calls prog 72 #[zP b,zI n,zI p] w λe w'=>e= .returned (zI (jb L n p).1)/\O0 b (jb L n p).2 w w':=by
 have HK:=ae (zx b n L w hB hO.ch hn);have hb1:=aQ w (.cells #[zI n] 3);have hB1:=hB.call hb1;have HO:=ae (λW=>lK p 4096 W);obtain ⟨R,hR⟩:=ah (jb L n p);rw [hR];have hR':=ae hR;unfold jb at hR';obtain ⟨w1,hw1⟩:=ah (w.alloc (.cells #[zI n] 3));rw [hw1] at HK hb1 hB1;have hB':=ae hB1;by_cases h1:p<0\/4096<p
 ·have hR2:Hid (R=(7,L)):=ae (by rw [<-hR'.out,if_pos h1])
  rw [decide_eq_true h1] at HO;clear hR hR' h1 hB hB1;go_enter func72,ntmps72;exact aiF
 ·rw [decide_eq_false h1] at HO
  have hR2:=hR'.out;rw [if_neg h1] at hR2;obtain ⟨g,cap,hc1,hc2,kb,hgN,hgl,hcell,hfz,hput⟩:=hB1.put hn;have c2:=hcell 2 _ rfl;have cb:=kb.cell;have hx:=hO.get hn;have hwr:IntKind.i64.wrap ((L.getD n nd0).own - p)=(L.getD n nd0).own + -p:=by rw [IntKind.wrap_i64];omega
  have hP:=ae (hput w1 (Below.refl _ _) 2 (zI ((L.getD n nd0).own + -p)) (λx:Nd=>{ x with own:=x.own + -p }) zo rfl);have acH:=ae (hO.ch.mod n (λx:Nd=>{ x with own:=x.own + -p }) (λ_=>⟨rfl,rfl⟩));have acI:=ae (jP.small hO n (λx:Nd=>{ x with own:=x.own + -p }) (λ_=>⟨rfl,rfl⟩));have hn2:Hid (n<(L.modify n (λx:Nd=>{ x with own:=x.own + -p })).length):=ae (by rw [List.length_modify];exact hn);have hwp:IntKind.i64.wrap (-p) = -p:=by rw [IntKind.wrap_i64];omega
  have hp : -100000<=-p/\-p<=100000:=zo;have hsub:(λx:Nd=>{ x with own:=x.own - p })=(λx:Nd=>{ x with own:=x.own + -p }):=by funext x;simp [Int.sub_eq_add_neg]
  rw [hsub] at hR2;obtain ⟨o,ho⟩:=ah ((L.getD n nd0).own);rw [ho] at c2 hwr hP hx hR2;have hnl:n<L.length:=hn;by_cases h2:o<p
  ·have h2':=bU h2
   rw [if_pos h2] at hR2;have jZ:=ae hR2;clear hcell hput ho hR hR' hR2 h1 h2 hB hP hB1;generalize L.length=ml at *;go_enter func72,ntmps72
   go_wp2_with (first|(go_at_call 80;refine HK.out.mono ?_;rintro e w2 ⟨rfl,hw2⟩;replace hw2:=hw2.symm;subst hw2)|(go_at_call 61;refine (HO.out _).mono ?_;rintro e w2 ⟨rfl,hw2⟩;replace hw2:=hw2.symm;subst hw2))
   go_ret;rw [<-jZ.out];exact ⟨rfl,hB'.out,ag.of_below hb1⟩
  ·have h2':=bV h2
   rw [if_neg h2] at hR2;have jZ:=ae hR2;obtain ⟨w3,hw3⟩:=ah (w1.setCell ⟨g,n*6+2,none⟩ (zI (o + -p)));rw [hw3] at hP;have oQ:=ae (lD.one (ag.of_below hb1) hgN hP.out.2);have HA:=ae (Nv b n (-p) _ w3 hP.out.1 acH.out hn2.out acI.out hp);clear hcell hput ho hR hR' hR2 h1 h2 hB hP hB1;generalize L.length=ml at *;go_enter func72,ntmps72;go_upto_region 9 with (first|(go_at_call 80;refine HK.out.mono ?_;rintro e w2 ⟨rfl,hw2⟩;replace hw2:=hw2.symm;subst hw2)|(go_at_call 61;refine (HO.out _).mono ?_;rintro e w2 ⟨rfl,hw2⟩;replace hw2:=hw2.symm;subst hw2))
   exact aiE
theorem Jk (b n:Nat) (L:List Nd) (w:World) (hB:bz w b L) (hO:bf L) (hn:n<L.length) :
  zK 21 #[zP b,zI n] w (.tuple #[zI (L.getD n nd0).own,zI (L.getD n nd0).all,zI 0]):=by
 have HK:=ae (zx b n L w hB hO.ch hn);have hb1:=aQ w (.cells #[zI n] 3);have hB1:=hB.call hb1;obtain ⟨w1,hw1⟩:=ah (w.alloc (.cells #[zI n] 3));rw [hw1] at HK hb1 hB1;obtain ⟨g,cap,hc1,hc2,kb,hgN,hgl,hcell,hfz⟩:=hB1.node hO.pos;have c2:=hcell n hn 2 _ rfl;have c5:=hcell n hn 5 _ rfl;have e2:=λz:Ext w1=>z.cell c2
 have e5:=λz:Ext w1=>z.cell c5
 have eb:=λz:Ext w1=>(z.blk kb).cell
 generalize (L.getD n nd0).own=x at *;generalize (L.getD n nd0).all=y at *;have hnl:n<L.length:=hn;clear hcell hB hB1;generalize L.length=ml at *;go_enter func21,ntmps21;go_upto_region 4 with (go_at_call 80;refine HK.out.mono ?_;rintro e w2 ⟨rfl,hw2⟩;replace hw2:=hw2.symm;subst hw2)
 refine aD zk zk ?_
 repeat (go_big_quiet_step (fail))
 refine wpQuiet_nil ?_;rintro w3 ⟨⟨_,hw3⟩,rfl⟩;go_wp2_with fail
 go_ret3
 exact ⟨rfl,hb1.zt hw3⟩
theorem O3 (b n:Nat) (l:Int) (L:List Nd) (w:World) (hB:bz w b L) (hO:bf L) (hn:n<L.length) :
  Calls prog 45 #[zP b,zI n,zI l] w λe w'=>e= .returned (zI (jX L n l).1)/\O0 b (jX L n l).2 w w':=by
 have HK:=ae (zx b n L w hB hO.ch hn);have hb1:=aQ w (.cells #[zI n] 3);have hB1:=hB.call hb1;have HO:=ae (λW=>lK l 4096 W);obtain ⟨R,hR⟩:=ah (jX L n l);rw [hR];have hR':=ae hR;unfold jX at hR';obtain ⟨w1,hw1⟩:=ah (w.alloc (.cells #[zI n] 3));rw [hw1] at HK hb1 hB1;have hB':=ae hB1;by_cases h1:l<0\/4096<l
 ·have hR2:Hid (R=(7,L)):=ae (by rw [<-hR'.out,if_pos h1])
  rw [decide_eq_true h1] at HO;clear hR hR' h1 hB hB1;go_enter func45,ntmps45;exact aiF
 ·rw [decide_eq_false h1] at HO
  have hR2:=hR'.out;rw [if_neg h1] at hR2;have jZ:=ae hR2;obtain ⟨g,cap,hc1,hc2,kb,hgN,hgl,hcell,hfz,hput⟩:=hB1.put hn;have c1:=hcell 1 _ rfl;have cb:=kb.cell;have hP:=ae (hput w1 (Below.refl _ _) 1 (zI l) (λx:Nd=>{ x with lim:=l }) zo rfl);have oQ:=ae (lD.one (ag.of_below hb1) hgN hP.out.2);have hnl:n<L.length:=hn;clear hcell hput hR hR' hR2 h1 hB hB1;generalize L.length=ml at *;go_enter func45,ntmps45
  go_wp2_with (first|(go_at_call 80;refine HK.out.mono ?_;rintro e w2 ⟨rfl,hw2⟩;replace hw2:=hw2.symm;subst hw2)|(go_at_call 61;refine (HO.out _).mono ?_;rintro e w2 ⟨rfl,hw2⟩;replace hw2:=hw2.symm;subst hw2))
  go_ret;rw [<-jZ.out];exact ⟨rfl,hP.out.1,oQ.out⟩
theorem Nw (l:Int) (w:World) :
  Calls prog 15 #[zI l] w λe w'=>(if l<0\/4096<l then e= .returned (.tuple #[.pointer none,zI 7]) else ∃b,e= .returned (.tuple #[zP b,zI 0])/\w.heap.size+1<=b/\bz w' b (fK l))/\Below w.heap.size w w':=by
 have HO:=ae (λW=>lK l 4096 W);by_cases h1:l<0\/4096<l
 ·rw [decide_eq_true h1] at HO
  simp only [if_pos h1];clear h1;go_enter func15,ntmps15
  go_wp2_with (go_at_call 61;refine (HO.out _).mono ?_;rintro e w2 ⟨rfl,hw2⟩;replace hw2:=hw2.symm;subst hw2)
  go_ret2;exact ⟨rfl,Below.refl _ _⟩
 ·rw [decide_eq_false h1] at HO
  simp only [if_neg h1];clear h1;go_enter func15,ntmps15
  go_wp2_with (go_at_call 61;refine (HO.out _).mono ?_;rintro e w2 ⟨rfl,hw2⟩;replace hw2:=hw2.symm;subst hw2)
  have hb2:=(aQ w (.cells #[zI (-1),zI l,zI 0,zI 0,.bool false,zI 0] 142)).alloc zs (.cells #[.bool true,.slice (some ⟨w.heap.size,0,none⟩) 1 1] 145);have k1:=(af.new w 142 #[zI (-1),zI l,zI 0,zI 0,.bool false,zI 0]).alloc (.cells #[.bool true,.slice (some ⟨w.heap.size,0,none⟩) 1 1] 145);have k2:=af.new (w.alloc (.cells #[zI (-1),zI l,zI 0,zI 0,.bool false,zI 0] 142)) 145 #[.bool true,.slice (some ⟨w.heap.size,0,none⟩) 1 1];rw [World.size_alloc] at k2;go_ret2;exact ⟨⟨_,rfl,Nat.le_refl _,⟨some ⟨w.heap.size,0,none⟩,1,k2,⟨rfl,.inr ⟨w.heap.size,1,_,rfl,Nat.le_refl _,k1,Nat.le_refl _,by unfold maxLen;omega,rfl,rfl⟩⟩⟩⟩,hb2⟩
theorem acJ:(prog.info? 3).map (λi=>(i.zero,i.size,i.bytes))=some (some (zI 0),1,8):=zk
theorem zy:∃i0,prog.info? 3=some i0/\i0.zero=some (zI 0)/\i0.size=1/\i0.bytes=8:=by
 obtain ⟨i0,h⟩:=info_parts acJ;exact ⟨i0,h⟩
theorem VI (b:Nat) (L:List Nd) (w:World) (hB:bz w b L) (hO:bf L) :
  Calls prog 139 #[zP b] w λe w'=>(∃v,e= .returned (.tuple #[v,zI 0]))/\Below w.heap.size w w':=by
 obtain ⟨i0,hi0,hi1,hi2,hi3⟩:=zy;have HK:=ae (ZM b L w hB hO.ch);obtain ⟨g,cap,hc1,hc2,kb,hgN,hgl,hcell,hfz⟩:=hB.node hO.pos;have cb:=kb.cell;have hB':=ae hB;have aoL:=hO.few;clear hcell hB;obtain ⟨ml,O4⟩:∃m,L.length=m:=⟨_,rfl⟩;rw [O4] at cb aoL;have aiG:=ae O4;clear O4;go_enter func139,ntmps139
 go_wp2_with (go_at_call 80;refine HK.out.mono ?_;rintro e w2 ⟨rfl,hw2⟩;replace hw2:=hw2.symm;subst hw2)
 go_loopw [5,17] (λv5 i wr=>∃(k:Nat) (xs:List Int),k<=ml/\i = zI k/\xs.length<=k/\wr.ownsRow w.heap.size 3 1 v5 xs.length (xs.map (Value.int .i64))/\Below w.heap.size w wr) (λ_ i _=>ml - (intOf i).toNat)
 case atStart=>exact ⟨0,[],zo,rfl,zs,World.ownsRow_nil _ _ _ _,Below.refl _ _⟩
 case round =>
  obtain ⟨k,xs,hk,rfl,hxl,hrow,hBl⟩:=hrel;by_cases hlt:k<ml
  ·have hlt':decide ((k:Int)<(ml:Int))=true:=by simpa using hlt
   have hBW:=hB'.out.call hBl;have HO:=ae (xC b (k:Int) L wr hBW hO.ch);rw [show decide ((0:Int)<=(k:Int)/\(k:Int)<(L.length:Int))=true by have:=aiG.out;simp;omega] at HO;have HR:=ae (Cs b k L wr hBW hO (by have:=aiG.out;omega));generalize bX L k=r at *;clear cb;by_cases hr:r<0
   ·have hr':=bU hr
    go_upto_region 9 with (first|(go_at_call 149;refine HO.out.mono ?_;rintro e w2 ⟨rfl,hw2⟩;replace hw2:=hw2.symm;subst hw2)|(go_at_call 178;refine HR.out.mono ?_;rintro e w3 ⟨rfl,hw3⟩))
    have Ny:=ae (aI hrow hw3);have hB3:=ae (hBl.zt hw3);have kN:=af.new w3 3 #[zI k];have hbN:Below w3.heap.size w3 (w3.alloc (.cells #[zI k] 3)):=(Below.refl _ _).alloc (Nat.le_refl _) _;have aoM:=aI Ny.out hbN;have hsN:=hB3.out.size;clear HO HR hBW hrow
    go_wp2_with (at_builtin;refine wpList_append_own _ rfl (.tmp 29) (.tmp 31) 54 rfl w.heap.size 3 i0 (zI 0) 1 8 underlying54 hi0 hi1 hi2 hi3 rfl zd _ xs.length (xs.map (Value.int .i64)) rfl aoM ⟨w3.heap.size,0,none⟩ 1 1 [zI k] rfl rfl (λj u hu=>by
     have hj0:j=0:=by have:=(List.getElem?_eq_some_iff.1 hu).1;simp at this;omega
     subst hj0;rw [dM,Nat.zero_add,kN.cell];simpa using hu) (λu hu=>by simp only [List.mem_singleton] at hu;subst hu;rfl) (by unfold maxLen;omega) zo (by simp;omega) ?_;intro v' w7 hown' hgrow _)
    go_roundw
    case rel =>
     refine ⟨k+1,xs++[(k:Int)],zo,by go_num,by simp;omega,by simpa using hown',?_⟩;exact hB3.out.trans ((hbN.mono hsN).grown hgrow (by simp;omega) (λg hg=>(Ny.out.lt g hg).1))
    case measure=>exact zm
   ·have hr':=bV hr
    go_wp2_with (first|(go_at_call 149;refine HO.out.mono ?_;rintro e w2 ⟨rfl,hw2⟩;replace hw2:=hw2.symm;subst hw2)|(go_at_call 178;refine HR.out.mono ?_;rintro e w3 ⟨rfl,hw3⟩))
    go_roundw
    case rel=>exact ⟨k+1,xs,zo,by go_num,zo,aI hrow hw3,hBl.zt hw3⟩
    case measure=>exact zm
  ·obtain rfl:k=ml:=zo
   have hlt':decide ((k:Int)<(k:Int))=false:=by simp
   clear cb;go_wp2_with fail;go_ret2;exact ⟨⟨_,rfl⟩,hBl⟩
end Go.Proofs.YtlgcpjhimomiaaaGreat
