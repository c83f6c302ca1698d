/- Walks of layer 12 (commit): Grow. -/
import Derived.Test.YtjmmgoijnhnnaaaGreatR7
set_option maxRecDepth 100000
set_option maxHeartbeats 12800000
namespace Go.Pol
open Go Go.RowKit Go.Proofs.Tryz
theorem abf {w:World} {base n:Nat} {e:TypeId} {v:Value} {fv:Nat→Value} (h:w.ownsRow base e 1 v n ((List.range n).map fv)) :
  ∃(Au:Option Addr) (cap:Nat),v= .slice Au n cap∧GG w Au (fun k=>∃o,Au=some ⟨k,o,none⟩) fv n∧∀g o,Au=some ⟨g,o,none⟩→∃cs,ag w g e cs:=by
 rcases h.2 with ⟨hv,hn⟩|⟨g,cap,cur,hv,_,hk,_,_,hsz,ht⟩
 ·subst hn
  exact ⟨none,0,hv,fun i hi=>absurd hi (by omega),fun g o e=>(by cases e)⟩
 ·refine ⟨some ⟨g,0,none⟩,cap,hv,fun i hi=>⟨g,rfl,⟨0,rfl⟩,?_⟩,fun g' o e=>?_⟩
  ·have hk':ag w g e cur:=hk
   rw [hk'.cell];have h1:(cur.toList.take (n*1))[i]? = some (fv i):=by
    rw [ht,List.getElem?_map,List.getElem?_range hi];rfl
   rw [List.getElem?_take,if_pos (by omega)] at h1;simpa using h1
  ·cases e
   exact ⟨cur,hk⟩
theorem vN {P:Program} {fn:Func} {tmps:Array Value} {R:Ending→World→Prop} {D:Nat} {d:Deferred} {fv:Fn} {cap:Array Value} {f:FuncId} {args:Array Value} {w wf:World} {Q:World→Prop}
  (htk:(Instr.takeDeferred D).run P w= .ok [] wf) (ht:d.target= .fn fv cap) (hi:(invoke d.target d.args).run P wf= .ok (.enter f args) wf)
  (hG:CallsDIn Fence.wide (0 - 1) P f args .returning wf fun e u' w'=>u'= .returning∧e= .returned (.tuple #[])∧Q w')
  (hR:∀w',Q w'→∃v,(results fn tmps).run P w'= .ok v w'∧R (.returned v) w') :
  bodyPostM Fence.wide 0 P fn R .ret { tmps:=tmps,defers:=[eX D,d] } w:=by
 refine ⟨by simp,.inl ⟨_,_,rfl,htk,by simp,.inr ⟨fun h=>(by cases h),fv,cap,f,args,ht,hi,fun g _=>trivial,hG.mono ?_⟩⟩⟩;rintro e u' w' ⟨rfl,rfl,hq⟩;obtain ⟨v,h1,h2⟩:=hR w' hq;exact ⟨v,h1,h2⟩
theorem Bt {w:World} {base sz n g:Nat} {e:TypeId} {v:Value} {xs:List Value} (h:w.ownsRow base e sz v n xs) (hv:v.ownBlock=some g):∃cs,ag w g e cs:=by
 rcases h.2 with ⟨e,_⟩|⟨g',cap',cur,e,_,hk,_⟩
 ·rw [e] at hv;cases hv
 ·rw [e] at hv
  cases hv;exact ⟨cur,hk⟩
theorem OG {α:Type} (f:Nat→α) (g:Nat→α) (n:Nat) (h:∀i,i<n→g i=f i):(List.range (n+1)).map g=(List.range n).map f++[g n]:=by
 rw [List.range_succ,List.map_append];congr 1;exact List.map_congr_left (fun i hi=>h i (List.mem_range.1 hi))
theorem yE {base size n:Nat} {A B:World} {T:Nat→Prop} {e:TypeId} {v:Value} {xs:List Value} (h:A.ownsRow base e size v n xs) (hF:af T A B) (hT:∀g cs,ag A g e cs→¬T g):B.ownsRow base e size v n xs:=by
 refine aK h hF (fun g hg ht=>?_);rcases h.2 with ⟨hv,_⟩|⟨g',cap',cur,hv,_,hk,_⟩
 ·rw [hv] at hg;cases hg
 ·rw [hv] at hg
  cases hg;exact hT _ _ hk ht
theorem vg {N base size n:Nat} {A B:World} {e:TypeId} {v:Value} {xs:List Value} (h:A.ownsRow base e size v n xs) (hs:jW N A B):B.ownsRow base e size v n xs:=by
 obtain ⟨T,hF,_,hB⟩:=hs;refine aK h hF (fun g hg ht=>?_);rcases h.2 with ⟨hv,_⟩|⟨g',cap',cur,hv,_,hk,_⟩
 ·rw [hv] at hg;cases hg
 ·rw [hv] at hg
  cases hg;exact hB _ _ _ hk ht
structure sO (cs:Array Value) (f:Nat→Int):Prop where
 size:cs.size=5
 at_:∀j,j<5→cs[j]? = some (.int .i64 (f j))
theorem sO.set {cs:Array Value} {g f:Nat→Int} (h:sO cs g) (i:Nat) (z:Int) (hz:f i=z) (ho:∀j,j≠i→f j=g j):sO (cs.setIfInBounds i (.int .i64 z)) f:=by
 refine ⟨by simp [h.size],fun j hj=>?_⟩;rw [Array.getElem?_setIfInBounds];by_cases e:i=j
 ·subst e
  rw [if_pos rfl,if_pos (by rw [h.size];omega),hz]
 ·rw [if_neg e,ho j (fun h=>e h.symm)]
  exact h.at_ j hj
theorem sO.one {cs:Array Value} {f:Nat→Int} (h:sO cs f):∀x∈cs.toList,x.oneCell'=true:=by
 intro x hx;obtain ⟨i,hi,rfl⟩:=List.mem_iff_getElem.1 hx;have hz:=h.at_ i (by rw [←h.size];simpa using hi);rw [Array.getElem?_eq_getElem (by simpa using hi)] at hz;simp only [Option.some.injEq] at hz;rw [Array.getElem_toList,hz];rfl
theorem sO.eq {cs ds:Array Value} {f:Nat→Int} (h:sO cs f) (k:sO ds f):cs=ds:=by
 apply Array.ext_getElem?;intro i;by_cases hi:i<5
 ·rw [h.at_ i hi,k.at_ i hi]
 ·rw [Array.getElem?_eq_none (by have:=h.size;omega),Array.getElem?_eq_none (by have:=k.size;omega)]
def eU (V:Vm):Nat→Nat→Int
 | 0,_=>0
 | i+1,j=>eU V i j+(if j<4 then (if (V.pg i).kind=j then 1 else 0) else if j=4∧(V.pg i).dz=true∧lD (i:Int)=true then 1 else 0)
abbrev RX (V:Vm) (i:Nat):Array Value:=#[.int .i64 (eU V i 0),.int .i64 (eU V i 1),.int .i64 (eU V i 2),.int .i64 (eU V i 3),.int .i64 (eU V i 4)]
theorem RY (V:Vm) (i:Nat):sO (RX V i) (eU V i):=⟨rfl,fun j hj=>by
 rcases (show j=0∨j=1∨j=2∨j=3∨j=4 by omega) with rfl|rfl|rfl|rfl|rfl <;> rfl⟩
theorem Ab (V:Vm):∀(i j:Nat),0≤eU V i j∧eU V i j≤i
 | 0,j=>by simp [eU]
 | i+1,j=>by
  have:=Ab V i j;rw [eU];split
  ·split <;> omega
  ·split <;> omega
theorem Ml (V:Vm) (i:Nat) (hi:i<1024:=by assumption):∀j,0≤eU V i j∧eU V i j≤1024:=fun j=>by
 have:=Ab V i j;omega
def qH (f:Nat→Int) (d:Nat):Nat→Int:=fun j=>if j=d then f j+1 else f j
def UC (V:Vm) (i:Nat) (d:Nat):Prop :=
 (((V.pg i).dz=false∨lD (i:Int)=false)→eU V (i+1)=qH (eU V i) d) ∧
 ((V.pg i).dz=true→lD (i:Int)=true→eU V (i+1)=qH (qH (eU V i) d) 4)
theorem OO (V:Vm) (i:Nat) (hk:0≤(V.pg i).kind:=by assumption) (hk3:(V.pg i).kind≤3:=by assumption):UC V i (V.pg i).kind.toNat:=by
 refine ⟨fun h=>?_,fun h1 h2=>?_⟩ <;> funext j <;> rw [eU] <;> unfold qH
 ·by_cases h4:j<4
  ·rw [if_pos h4]
   by_cases e:j=(V.pg i).kind.toNat
   ·rw [if_pos (by omega),if_pos e]
   ·rw [if_neg (by omega),if_neg e];omega
  ·rw [if_neg h4,if_neg (by rintro ⟨_,a,b⟩;rcases h with h|h;rw [h] at a;cases a;rw [h] at b;cases b),if_neg (by omega)];omega
 ·by_cases h4:j<4
  ·rw [if_pos h4,if_neg (by omega:¬j=4)]
   by_cases e:j=(V.pg i).kind.toNat
   ·rw [if_pos (by omega),if_pos e]
   ·rw [if_neg (by omega),if_neg e];omega
  ·rw [if_neg h4]
   by_cases e:j=4
   ·rw [if_pos ⟨e,h1,h2⟩,if_pos e,if_neg (by omega)]
   ·rw [if_neg (by rintro ⟨a,_⟩;exact e a),if_neg e,if_neg (by omega)];omega
end Go.Pol
namespace Go.Proofs.YtjmmgoijnhnnaaaGreat
open Go Go.Proofs Go.RowKit Go.Pol Go.Shelf Tryz
attribute [local go_sem] Oper.semAt_some aC au az ah
theorem Aa:∀args w,(callFunc 55 args).run prog w= .ok (.enter 55 args) w:=enters_of func55 (by kernel_rfl) rfl
theorem abg:(prog.info? 1).map (fun i=>(i.zero,i.size,i.bytes))=some (some .nilFunc,1,8):=by kernel_rfl
theorem JE:∃i0,prog.info? 1=some i0∧i0.zero=some .nilFunc∧i0.size=1∧i0.bytes=8:=by
 obtain ⟨i0,h⟩:=info_parts abg;exact ⟨i0,h⟩
theorem uJ (bs bb:Nat) (V:Vm) (L:List Nd) (r:Cr) (tt:Int) (A:Option Addr) (cap:Nat) (w:World) (hV:aD w bs V) (xU:aQ V) (hB:bA w bb L) (hO:bg L) (hnl:bE r=0→r.node.toNat<L.length) (hcap:r.kept.length≤cap) (hcm:cap≤maxLen) (hk:KeptAt w A r.kept) :
  Calls prog 19 #[.pointer (some ⟨bs,0,none⟩),.pointer (some ⟨bb,0,none⟩),.agg (ai r (.slice A r.kept.length cap)),.int .i64 tt] w fun e w'=>∃v,e= .returned (.tuple #[v,.int .i64 (cZ V L r tt).2.1])∧Bj (cZ V L r tt).1 w' v∧aS bs bb (cZ V L r tt).2.2.1 (cZ V L r tt).2.2.2 w w':=by
 have hr:=hk.ru;have HK:=ae (fun W (h1:aD W bs V) (h2:bA W bb L) (h3:RU W W.heap.size A r.kept)=>Bi bs bb V L r A cap W h1 xU h2 hO hcap hcm h3);have tY:=ae (fun W=>FP r.pg r.n r.f r.bk r.ev W);rw [wU] at tY;obtain ⟨R,hR⟩:=aj (cZ V L r tt);rw [hR];unfold cZ at hR;have hz:=@gB r;have hZ:bE r=0→ND r:=hz.1;clear hz;generalize bE r=ck at *;generalize hUs:oG r=us at *;obtain ⟨pg,n,f,bk,ev,node,live,K,cl⟩:=r;simp only at hcap hcm hr hk hR hZ HK tY hnl ⊢;generalize (lC pg n f bk ev).2=V2 at *;generalize bN pg n f bk ev=cg at *;obtain ⟨m,hm0⟩:=aj (K.length);rw [hm0] at hcap HK ⊢;have hm:=ae hm0;obtain ⟨w0,hw0,hb0,k1,k2,k3,k4,k5⟩:=abd 44 45 43 43 36 #[.pointer (some ⟨bs,0,none⟩)] #[.pointer (some ⟨bb,0,none⟩)] (ai ⟨pg,n,f,bk,ev,node,live,K,cl⟩ (.slice A m cap)) (ai bn (.slice none 0 0)) #[.int .i64 0] w;have hr0:=ae (hr.on hb0);have gI:=ae hk;dsimp only [ai,bn] at k3 k4 hw0 HK ⊢;clear hm0 hr hk;by_cases h0:ck=0
 case neg =>
  have h0':(ck != 0)=true:=by simpa using h0
  rw [if_pos h0] at hR;subst hR;clear h0 hZ;refine bM func19 rfl ?_;simp only [ntmps19,List.size_toArray,List.length_cons,List.length_nil,Nat.reduceAdd,Nat.reduceSub,Array.replicate_succ,Array.replicate_zero,List.push_toArray,List.append_toArray,List.nil_append,List.cons_append];go_upto_region 1 with fail
  rw [←hw0];have c1:=k1.cell;have c2:=k2.cell;have c3:=k3.cell;clear hw0;go_wp2_with fail;refine (HK.out _ (hV.call hb0) (hB.call hb0) hr0.out).mono ?_;rintro e w1 ⟨rfl,hb1⟩;have k11:=k1.call hb1;have k21:=k2.call hb1;have lh:=k3.call hb1;have iQ:=k4.call hb1;have jM:=k5.call hb1;have B1:=hb0.trans (hb1.mono hb0.size);have c11:=k11.cell;have c21:=k21.cell;have c31:=lh.cell;have G7:=iQ.cell;have f41:=iQ.frozen;have c51:=jM.cell;have f51:=jM.frozen;clear HK k1 k2 k3 k4 k5 hb0 hr0 hb1 c1 c2 c3;go_wp2_with fail;change bodyPostM _ _ _ _ _ _ _ ((aL w1 (w.heap.size+3) ⟨pg,n,f,bk,ev,node,live,K,cl⟩ (.slice A m cap)).setCell ⟨w.heap.size+4,0,none⟩ (.int .i64 ck));have aR:=aG iQ ⟨pg,n,f,bk,ev,node,live,K,cl⟩ (.slice A m cap);have F9:=aH w1 (w.heap.size+3) ⟨pg,n,f,bk,ev,node,live,K,cl⟩ (.slice A m cap);have G8:=F9.blk jM (by show ¬w.heap.size+4=w.heap.size+3;omega);have jG:=aR.far (p:=⟨w.heap.size+4,0,none⟩) (by show w.heap.size+3≠w.heap.size+4;omega) (.int .i64 ck);have qR:=G8.aO 0 (.int .i64 ck);have nz:=((F9.mono (fun _ _ h=>.inl h):af (fun k=>k=w.heap.size+3∨k=w.heap.size+4) _ _)).setCell (p:=⟨w.heap.size+4,0,none⟩) (fun _=>.inr rfl) (.int .i64 ck);have T9:=(aS.below hV hB B1).fresh nz (fun k hk=>by rcases hk with rfl|rfl <;> omega) (fun k hk=>by rcases hk with rfl|rfl;exact ⟨_,_,iQ,by decide,by decide,by decide,by decide⟩;exact ⟨_,_,jM,by decide,by decide,by decide,by decide⟩);generalize (aL w1 (w.heap.size+3) ⟨pg,n,f,bk,ev,node,live,K,cl⟩ (.slice A m cap)).setCell ⟨w.heap.size+4,0,none⟩ (.int .i64 ck)=w9 at *;dsimp only [ai] at jG;simp only [List.setIfInBounds_toArray,List.set_cons_zero] at qR;have bV:=jG.cell;have Mh:=qR.cell;refine iw (v:=.tuple #[.agg (ai ⟨pg,n,f,bk,ev,node,live,K,cl⟩ (.slice A m cap)),.int .i64 ck]) (by simp [results,results19,go_sem,bV,Mh,ai]) ?_;exact ⟨_,rfl,⟨A,cap,by rw [hm.out],by rw [hm.out];exact hcap,hcm,T9.kept hV gI.out⟩,T9⟩
 subst h0;rw [if_neg (by simp)] at hR;by_cases h1:cl=true
 case pos =>
  subst h1;rw [if_pos rfl] at hR;subst hR;clear hZ;refine bM func19 rfl ?_;simp only [ntmps19,List.size_toArray,List.length_cons,List.length_nil,Nat.reduceAdd,Nat.reduceSub,Array.replicate_succ,Array.replicate_zero,List.push_toArray,List.append_toArray,List.nil_append,List.cons_append];go_upto_region 1 with fail
  rw [←hw0];have c1:=k1.cell;have c2:=k2.cell;have c3:=k3.cell;clear hw0;go_wp2_with fail;refine (HK.out _ (hV.call hb0) (hB.call hb0) hr0.out).mono ?_;rintro e w1 ⟨rfl,hb1⟩;have k11:=k1.call hb1;have k21:=k2.call hb1;have lh:=k3.call hb1;have iQ:=k4.call hb1;have jM:=k5.call hb1;have B1:=hb0.trans (hb1.mono hb0.size);have c11:=k11.cell;have c21:=k21.cell;have c31:=lh.cell;have G7:=iQ.cell;have f41:=iQ.frozen;have c51:=jM.cell;have f51:=jM.frozen;clear HK k1 k2 k3 k4 k5 hb0 hr0 hb1 c1 c2 c3;go_wp2_with fail;change bodyPostM _ _ _ _ _ _ _ ((aL w1 (w.heap.size+3) ⟨pg,n,f,bk,ev,node,live,K,true⟩ (.slice A m cap)).setCell ⟨w.heap.size+4,0,none⟩ (.int .i64 9));have aR:=aG iQ ⟨pg,n,f,bk,ev,node,live,K,true⟩ (.slice A m cap);have F9:=aH w1 (w.heap.size+3) ⟨pg,n,f,bk,ev,node,live,K,true⟩ (.slice A m cap);have G8:=F9.blk jM (by show ¬w.heap.size+4=w.heap.size+3;omega);have jG:=aR.far (p:=⟨w.heap.size+4,0,none⟩) (by show w.heap.size+3≠w.heap.size+4;omega) (.int .i64 9);have qR:=G8.aO 0 (.int .i64 9);have nz:=((F9.mono (fun _ _ h=>.inl h):af (fun k=>k=w.heap.size+3∨k=w.heap.size+4) _ _)).setCell (p:=⟨w.heap.size+4,0,none⟩) (fun _=>.inr rfl) (.int .i64 9);have T9:=(aS.below hV hB B1).fresh nz (fun k hk=>by rcases hk with rfl|rfl <;> omega) (fun k hk=>by rcases hk with rfl|rfl;exact ⟨_,_,iQ,by decide,by decide,by decide,by decide⟩;exact ⟨_,_,jM,by decide,by decide,by decide,by decide⟩);generalize (aL w1 (w.heap.size+3) ⟨pg,n,f,bk,ev,node,live,K,true⟩ (.slice A m cap)).setCell ⟨w.heap.size+4,0,none⟩ (.int .i64 9)=w9 at *;dsimp only [ai] at jG;simp only [List.setIfInBounds_toArray,List.set_cons_zero] at qR;have bV:=jG.cell;have Mh:=qR.cell;refine iw (v:=.tuple #[.agg (ai ⟨pg,n,f,bk,ev,node,live,K,true⟩ (.slice A m cap)),.int .i64 9]) (by simp [results,results19,go_sem,bV,Mh,ai]) ?_;exact ⟨_,rfl,⟨A,cap,by rw [hm.out],by rw [hm.out];exact hcap,hcm,T9.kept hV gI.out⟩,T9⟩
 have h1':cl=false:=by simpa using h1
 subst h1';rw [if_neg (by simp)] at hR;by_cases h2:tt<live
 case pos =>
  have h2':decide (tt<live)=true:=by simpa using h2
  rw [if_pos (.inl h2)] at hR;subst hR;clear h2 hZ;refine bM func19 rfl ?_;simp only [ntmps19,List.size_toArray,List.length_cons,List.length_nil,Nat.reduceAdd,Nat.reduceSub,Array.replicate_succ,Array.replicate_zero,List.push_toArray,List.append_toArray,List.nil_append,List.cons_append];go_upto_region 1 with fail
  rw [←hw0];have c1:=k1.cell;have c2:=k2.cell;have c3:=k3.cell;clear hw0;go_wp2_with fail;refine (HK.out _ (hV.call hb0) (hB.call hb0) hr0.out).mono ?_;rintro e w1 ⟨rfl,hb1⟩;have k11:=k1.call hb1;have k21:=k2.call hb1;have lh:=k3.call hb1;have iQ:=k4.call hb1;have jM:=k5.call hb1;have B1:=hb0.trans (hb1.mono hb0.size);have c11:=k11.cell;have c21:=k21.cell;have c31:=lh.cell;have G7:=iQ.cell;have f41:=iQ.frozen;have c51:=jM.cell;have f51:=jM.frozen;clear HK k1 k2 k3 k4 k5 hb0 hr0 hb1 c1 c2 c3;go_wp2_with fail;refine (tY.out _).mono ?_;rintro e w2 ⟨rfl,hb2⟩;have k12:=k11.call hb2;have k22:=k21.call hb2;have iU:=lh.call hb2;have gU:=iQ.call hb2;have wR:=jM.call hb2;have B2:=B1.trans (hb2.mono B1.size);have c12:=k12.cell;have YG:=k22.cell;have c32:=iU.cell;have VV:=gU.cell;have f42:=gU.frozen;have c52:=wR.cell;have f52:=wR.frozen;clear tY k11 k21 lh iQ jM B1 hb2 c11 c21 c31 G7 f41 c51 f51;go_wp2_with fail;change bodyPostM _ _ _ _ _ _ _ ((aL w2 (w.heap.size+3) ⟨pg,n,f,bk,ev,node,live,K,false⟩ (.slice A m cap)).setCell ⟨w.heap.size+4,0,none⟩ (.int .i64 7));have aR:=aG gU ⟨pg,n,f,bk,ev,node,live,K,false⟩ (.slice A m cap);have F9:=aH w2 (w.heap.size+3) ⟨pg,n,f,bk,ev,node,live,K,false⟩ (.slice A m cap);have G8:=F9.blk wR (by show ¬w.heap.size+4=w.heap.size+3;omega);have jG:=aR.far (p:=⟨w.heap.size+4,0,none⟩) (by show w.heap.size+3≠w.heap.size+4;omega) (.int .i64 7);have qR:=G8.aO 0 (.int .i64 7);have nz:=((F9.mono (fun _ _ h=>.inl h):af (fun k=>k=w.heap.size+3∨k=w.heap.size+4) _ _)).setCell (p:=⟨w.heap.size+4,0,none⟩) (fun _=>.inr rfl) (.int .i64 7);have T9:=(aS.below hV hB B2).fresh nz (fun k hk=>by rcases hk with rfl|rfl <;> omega) (fun k hk=>by rcases hk with rfl|rfl;exact ⟨_,_,gU,by decide,by decide,by decide,by decide⟩;exact ⟨_,_,wR,by decide,by decide,by decide,by decide⟩);generalize (aL w2 (w.heap.size+3) ⟨pg,n,f,bk,ev,node,live,K,false⟩ (.slice A m cap)).setCell ⟨w.heap.size+4,0,none⟩ (.int .i64 7)=w9 at *;dsimp only [ai] at jG;simp only [List.setIfInBounds_toArray,List.set_cons_zero] at qR;have bV:=jG.cell;have Mh:=qR.cell;refine iw (v:=.tuple #[.agg (ai ⟨pg,n,f,bk,ev,node,live,K,false⟩ (.slice A m cap)),.int .i64 7]) (by simp [results,results19,go_sem,bV,Mh,ai]) ?_;exact ⟨_,rfl,⟨A,cap,by rw [hm.out],by rw [hm.out];exact hcap,hcm,T9.kept hV gI.out⟩,T9⟩
 have h2':decide (tt<live)=false:=by simpa using h2
 by_cases h3:us<tt
 case pos =>
  have h3':decide (us<tt)=true:=by simpa using h3
  rw [if_pos (.inr h3)] at hR;subst hR;clear h2 h3 hZ;refine bM func19 rfl ?_;simp only [ntmps19,List.size_toArray,List.length_cons,List.length_nil,Nat.reduceAdd,Nat.reduceSub,Array.replicate_succ,Array.replicate_zero,List.push_toArray,List.append_toArray,List.nil_append,List.cons_append];go_upto_region 1 with fail
  rw [←hw0];have c1:=k1.cell;have c2:=k2.cell;have c3:=k3.cell;clear hw0;go_wp2_with fail;refine (HK.out _ (hV.call hb0) (hB.call hb0) hr0.out).mono ?_;rintro e w1 ⟨rfl,hb1⟩;have k11:=k1.call hb1;have k21:=k2.call hb1;have lh:=k3.call hb1;have iQ:=k4.call hb1;have jM:=k5.call hb1;have B1:=hb0.trans (hb1.mono hb0.size);have c11:=k11.cell;have c21:=k21.cell;have c31:=lh.cell;have G7:=iQ.cell;have f41:=iQ.frozen;have c51:=jM.cell;have f51:=jM.frozen;clear HK k1 k2 k3 k4 k5 hb0 hr0 hb1 c1 c2 c3;go_wp2_with fail;refine (tY.out _).mono ?_;rintro e w2 ⟨rfl,hb2⟩;have k12:=k11.call hb2;have k22:=k21.call hb2;have iU:=lh.call hb2;have gU:=iQ.call hb2;have wR:=jM.call hb2;have B2:=B1.trans (hb2.mono B1.size);have c12:=k12.cell;have YG:=k22.cell;have c32:=iU.cell;have VV:=gU.cell;have f42:=gU.frozen;have c52:=wR.cell;have f52:=wR.frozen;clear tY k11 k21 lh iQ jM B1 hb2 c11 c21 c31 G7 f41 c51 f51;go_wp2_with fail;change bodyPostM _ _ _ _ _ _ _ ((aL w2 (w.heap.size+3) ⟨pg,n,f,bk,ev,node,live,K,false⟩ (.slice A m cap)).setCell ⟨w.heap.size+4,0,none⟩ (.int .i64 7));have aR:=aG gU ⟨pg,n,f,bk,ev,node,live,K,false⟩ (.slice A m cap);have F9:=aH w2 (w.heap.size+3) ⟨pg,n,f,bk,ev,node,live,K,false⟩ (.slice A m cap);have G8:=F9.blk wR (by show ¬w.heap.size+4=w.heap.size+3;omega);have jG:=aR.far (p:=⟨w.heap.size+4,0,none⟩) (by show w.heap.size+3≠w.heap.size+4;omega) (.int .i64 7);have qR:=G8.aO 0 (.int .i64 7);have nz:=((F9.mono (fun _ _ h=>.inl h):af (fun k=>k=w.heap.size+3∨k=w.heap.size+4) _ _)).setCell (p:=⟨w.heap.size+4,0,none⟩) (fun _=>.inr rfl) (.int .i64 7);have T9:=(aS.below hV hB B2).fresh nz (fun k hk=>by rcases hk with rfl|rfl <;> omega) (fun k hk=>by rcases hk with rfl|rfl;exact ⟨_,_,gU,by decide,by decide,by decide,by decide⟩;exact ⟨_,_,wR,by decide,by decide,by decide,by decide⟩);generalize (aL w2 (w.heap.size+3) ⟨pg,n,f,bk,ev,node,live,K,false⟩ (.slice A m cap)).setCell ⟨w.heap.size+4,0,none⟩ (.int .i64 7)=w9 at *;dsimp only [ai] at jG;simp only [List.setIfInBounds_toArray,List.set_cons_zero] at qR;have bV:=jG.cell;have Mh:=qR.cell;refine iw (v:=.tuple #[.agg (ai ⟨pg,n,f,bk,ev,node,live,K,false⟩ (.slice A m cap)),.int .i64 7]) (by simp [results,results19,go_sem,bV,Mh,ai]) ?_;exact ⟨_,rfl,⟨A,cap,by rw [hm.out],by rw [hm.out];exact hcap,hcm,T9.kept hV gI.out⟩,T9⟩
 have h3':decide (us<tt)=false:=by simpa using h3
 rw [if_neg (by omega)] at hR;have xe:=hZ rfl;have hlv:=xe.AU;have hlv1:=Int.le_trans xe.Dj (zm xe.plan);have ah5:=zm xe.plan;rw [hUs] at ah5;have hp:=xe.plan;have jN:=xe.can;have hnd:=xe.node;simp only at hlv hlv1 jN hnd hp;obtain ⟨nd,rfl⟩:∃nd:Nat,node=nd:=⟨node.toNat,by omega⟩;have KO:=hnl rfl;rw [Int.toNat_natCast] at hR KO;have zK:Go.Pol.Can (bG live tt):=lZ hlv (by omega);have Bu:=Can.common zK (jN.DU (i:=(0,1024)) (by decide)).1;have HB:=ae (fun W=>wW live tt W (by omega) (by omega));have HM:=ae (fun W (A2:Option Addr) (c2:Nat) h1 h2 h3 h4=>uH A2 A (bG live tt).length c2 m cap (bG live tt) K W rfl h1 h2 h3 hm.out hcap hcm h4 zK jN);have ah6:Go.Pol.Can (bG 0 tt):=lZ (Int.le_refl _) (by omega);have HB2:=ae (fun W=>wW 0 tt W (by omega) (by omega));have Rp:=ae (fun W (A1 A2:Option Addr) (c1 c2:Nat) (h0:m≤c1∧c1≤maxLen) h1 h2 h3 h4=>uH A1 A2 m c1 (bG 0 tt).length c2 K (bG 0 tt) W hm.out h0.1 h0.2 h4 rfl h1 h2 h3 jN ah6);unfold nV at Rp;have VW:=OE (live:=live) (tt:=tt) hp jN hlv (by
  have e:us=aI (aA pg n f bk ev):=by rw [←hUs];unfold oG;rw [if_pos (bU.2 hp)]
  omega)
 generalize ay (bG live tt) (aZ K (0,1024))=more at *;generalize bG live tt=L2 at *;have yF:=zo Bu hp;have Mi:=Bu.len;obtain ⟨al,Cw⟩:=aj (more.length);have hal:=ae Cw;rw [Cw] at Mi;unfold nV at HM;rw [Cw] at HM;have VW:=ae VW;clear Cw zK hnl hZ xe h2 h3;refine bM func19 rfl ?_;simp only [ntmps19,List.size_toArray,List.length_cons,List.length_nil,Nat.reduceAdd,Nat.reduceSub,Array.replicate_succ,Array.replicate_zero,List.push_toArray,List.append_toArray,List.nil_append,List.cons_append];go_upto_region 1 with fail
 rw [←hw0];have c1:=k1.cell;have c2:=k2.cell;have c3:=k3.cell;clear hw0;go_wp2_with fail;refine (HK.out _ (hV.call hb0) (hB.call hb0) hr0.out).mono ?_;rintro e w1 ⟨rfl,hb1⟩;have k11:=k1.call hb1;have k21:=k2.call hb1;have lh:=k3.call hb1;have iQ:=k4.call hb1;have jM:=k5.call hb1;have B1:=hb0.trans (hb1.mono hb0.size);have c11:=k11.cell;have c21:=k21.cell;have c31:=lh.cell;have G7:=iQ.cell;have f41:=iQ.frozen;have c51:=jM.cell;have f51:=jM.frozen;clear HK k1 k2 k3 k4 k5 hb0 hr0 hb1 c1 c2 c3;go_wp2_with fail;refine (tY.out _).mono ?_;rintro e w2 ⟨rfl,hb2⟩;have k12:=k11.call hb2;have k22:=k21.call hb2;have iU:=lh.call hb2;have gU:=iQ.call hb2;have wR:=jM.call hb2;have B2:=B1.trans (hb2.mono B1.size);have c12:=k12.cell;have YG:=k22.cell;have c32:=iU.cell;have VV:=gU.cell;have f42:=gU.frozen;have c52:=wR.cell;have f52:=wR.frozen;clear tY k11 k21 lh iQ jM B1 hb2 c11 c21 c31 G7 f41 c51 f51;go_upto_region 9 with fail
 have hS:GD (w.heap.size+2) live (.slice A m cap) w2:=⟨iU.cell 6,iU.cell 7⟩;have hbd:=(Below.refl w2.heap.size w2).drew;have Oi:=k12.call hbd;have YH:=k22.call hbd;have YI:=iU.call hbd;have YJ:=gU.call hbd;have k5d:=wR.call hbd;have B2d:=B2.trans (hbd.mono B2.size);have hS:=hS.call hbd;refine bO ?_;refine bD (GD (w.heap.size+2) live (.slice A m cap)) [] (by kernel_rfl) ?_;generalize w2.drew=wd at *;clear k12 k22 iU gU wR B2 c12 YG c32 VV f42 c52 f52 hbd;refine aX 0 hS ?_;refine aX 1 hS ?_;refine aX 2 hS ?_;refine aX 4 hS ?_;refine aX 5 hS ?_;refine fu 3 fun K hK=>?_
 go_simp;refine (HB.out wd).mono ?_;rintro (e w3 ⟨A2,c2,rfl,xI,hl3,hc3,_,hb3⟩);refine hK.out _ _ (fun _=>hS.call hb3) (fun hS=>?_);clear hK K;replace hS:=hS rfl;try simp only [Act.put,gM,gN,gP]
 have k13:=Oi.call hb3;have k23:=YH.call hb3;have mH:=YI.call hb3;have tZ:=YJ.call hb3;have k53:=k5d.call hb3;have B3:=B2d.trans (hb3.mono B2d.size);refine fu 6 fun K hK=>?_
 go_simp;refine ((HM.out w3 A2 c2 hl3 hc3 xI (gI.out.call B3).ru)).mono ?_;rintro (e w4 ⟨A4,VX,rfl,hk4,hl4,acm,hb4⟩);refine hK.out _ _ (fun _=>hS.call hb4) (fun hS=>?_);clear hK K;replace hS:=hS rfl;try simp only [Act.put,gM,gN,gP]
 have k14:=k13.call hb4;have k24:=k23.call hb4;have nQ:=mH.call hb4;have Cx:=tZ.call hb4;have k54:=k53.call hb4;have B4:=B3.trans (hb4.mono B3.size);clear HB HM xI hl3 Oi YH YI YJ k5d B2d k13 k23 mH tZ k53 B3 hb3 hb4;refine aX 7 hS ?_;refine aX 8 hS ?_;refine aX 9 hS ?_;refine aX 10 hS ?_;refine aX 11 hS ?_;refine bz (by kernel_rfl) ?_ _;refine aT ?_;clear hS;go_wp2_with fail;have ah9:=hk4;have HCt:=ae (NZ A4 al VX more w4 hal.out (Nat.le_trans hl4 acm) hk4.ru);rw [bP.2 Bu,if_pos rfl] at HCt;obtain ⟨many,RJ⟩:=aj (aI more);rw [RJ] at HCt hR;have Uz:=ae RJ;clear RJ;refine HCt.out.mono ?_;rintro e w5 ⟨rfl,hb5⟩;have km:=ag.new w5 3 #[.int .i64 many];have dJ:=hb5.trans ((aV w5 (.cells #[.int .i64 many] 3)).mono hb5.size);have k16:=k14.call dJ;have k26:=k24.call dJ;have JF:=nQ.call dJ;have RN:=Cx.call dJ;have k56:=k54.call dJ;have B6:=B4.trans (dJ.mono B4.size);have vO:=hk4.call dJ;have hgs:w.heap.size+5≤w5.heap.size:=by have:=(k54.call hb5).lt;omega
 obtain ⟨gm,hgm⟩:=aj (w5.heap.size);rw [hgm] at km hgs;go_upto_region 11 with fail
 generalize w5.alloc _=w6 at *;clear k14 k24 nQ Cx k54 B4 hk4 ah9 dJ hb5 HCt;have T6:=aS.below hV hB B6;have HCh:=ae (Ma bb nd many L w6 T6.eD hO KO);obtain ⟨c,hc⟩:=aj (iO L nd many);rw [hc] at HCh hR;have YK:ag w6 (w.heap.size+1+1) 43 _:=JF;have c26:=k26.cell;have c36:=YK.cell;have cm6:=km.cell;go_wp2_with fail;refine HCh.out.mono ?_;rintro e w7 ⟨rfl,h7⟩;have S7:=aS.mi T6.sys h7;have T7:=T6.trans S7;have k17:=S7.blk T6.sys k16;have k27:=S7.blk T6.sys k26;have tV:=S7.blk T6.sys YK;have EZ:=S7.blk T6.sys RN;have VY:=S7.blk T6.sys k56;have km7:=S7.blk T6.sys km;have yG:=S7.kept T6.sys vO;have acn:=T7.kept hV gI.out;clear k16 k26 JF YK RN k56 km vO h7 T6 S7 HCh c26 c36 cm6 B6;have c37:=tV.cell;have c47:=EZ.cell;have f47:=EZ.frozen;have c57:=VY.cell;have f57:=VY.frozen;obtain ⟨ce,cL⟩:=c;simp only at hR T7;have RO:bg cL:=by have:=uG hO KO many;rw [hc] at this;exact this
 have aic:nd<cL.length:=by have:=wZ L nd many;rw [hc] at this;simp only at this;omega
 clear hc;by_cases h4:ce=0
 case neg =>
  have h4':(ce != 0)=true:=by simpa using h4
  rw [if_pos h4] at hR;have yH:=ae hR.symm;clear hR h4;go_wp2_with fail;change bodyPostM _ _ _ _ _ _ _ ((aL w7 (w.heap.size+3) ⟨pg,n,f,bk,ev,nd,live,K,false⟩ (.slice A m cap)).setCell ⟨w.heap.size+4,0,none⟩ (.int .i64 ce));have aR:=aG EZ ⟨pg,n,f,bk,ev,nd,live,K,false⟩ (.slice A m cap);have F9:=aH w7 (w.heap.size+3) ⟨pg,n,f,bk,ev,nd,live,K,false⟩ (.slice A m cap);have G8:=F9.blk VY (by show ¬w.heap.size+4=w.heap.size+3;omega);have jG:=aR.far (p:=⟨w.heap.size+4,0,none⟩) (by show w.heap.size+3≠w.heap.size+4;omega) (.int .i64 ce);have qR:=G8.aO 0 (.int .i64 ce);have nz:=((F9.mono (fun _ _ h=>.inl h):af (fun k=>k=w.heap.size+3∨k=w.heap.size+4) _ _)).setCell (p:=⟨w.heap.size+4,0,none⟩) (fun _=>.inr rfl) (.int .i64 ce);have T9:=(T7).fresh nz (fun k hk=>by rcases hk with rfl|rfl <;> omega) (fun k hk=>by rcases hk with rfl|rfl;exact ⟨_,_,EZ,by decide,by decide,by decide,by decide⟩;exact ⟨_,_,VY,by decide,by decide,by decide,by decide⟩);generalize (aL w7 (w.heap.size+3) ⟨pg,n,f,bk,ev,nd,live,K,false⟩ (.slice A m cap)).setCell ⟨w.heap.size+4,0,none⟩ (.int .i64 ce)=w9 at *;dsimp only [ai] at jG;simp only [List.setIfInBounds_toArray,List.set_cons_zero] at qR;have bV:=jG.cell;have Mh:=qR.cell;refine iw (v:=.tuple #[.agg (ai ⟨pg,n,f,bk,ev,nd,live,K,false⟩ (.slice A m cap)),.int .i64 ce]) (by simp [results,results19,go_sem,bV,Mh,ai]) ?_;rw [yH.out];exact ⟨_,rfl,⟨A,cap,by rw [hm.out],by rw [hm.out];exact hcap,hcm,T9.kept hV gI.out⟩,T9⟩
 subst h4;rw [if_neg (by simp)] at hR;go_upto_region 15 with fail
 have kN:=aG EZ ⟨pg,n,f,bk,ev,nd,live,K,false⟩ (.slice A m cap);have FN:=aH w7 (w.heap.size+3) ⟨pg,n,f,bk,ev,nd,live,K,false⟩ (.slice A m cap);have k18:=FN.blk k17 (by show ¬w.heap.size=w.heap.size+3;omega);have k28:=FN.blk k27 (by show ¬w.heap.size+1=w.heap.size+3;omega);have nZ:=FN.blk tV (by show ¬w.heap.size+1+1=w.heap.size+3;omega);have k58:=FN.blk VY (by show ¬w.heap.size+4=w.heap.size+3;omega);have km8:=FN.blk km7 (by show ¬gm=w.heap.size+3;omega);have YL:=yG.far FN (fun g cs hg e=>by subst e;exact EZ.ne hg);have aco:=acn.far FN (fun g cs hg e=>by subst e;exact EZ.ne hg);have T8:=T7.fresh FN (fun k hk=>by rw [hk];omega) (fun k hk=>by rw [hk];exact ⟨_,_,EZ,by decide,by decide,by decide,by decide⟩);change Code.wp _ _ _ _ (aL w7 (w.heap.size+3) ⟨pg,n,f,bk,ev,nd,live,K,false⟩ (.slice A m cap));generalize aL w7 (w.heap.size+3) ⟨pg,n,f,bk,ev,nd,live,K,false⟩ (.slice A m cap)=w8 at *;dsimp only [ai] at kN;clear k17 k27 tV EZ VY km7 yG acn T7 FN c37 c47 f47 c57 f57;have ku:=ag.new w8 129 #[.slice none 0 0];have dJ:=aV w8 (.cells #[.slice none 0 0] 129);have k19:=k18.call dJ;have k29:=k28.call dJ;have sM:=nZ.call dJ;have kN9:=kN.call dJ;have k59:=k58.call dJ;have km9:=km8.call dJ;have mg:=YL.call dJ;have acp:=aco.call dJ;have T9:=T8.aU dJ;obtain ⟨gu,hgu⟩:=aj (w8.heap.size);rw [hgu] at ku;have anL:gm<gu:=by have:=km8.lt;omega
 go_upto_region 17 with fail
 generalize w8.alloc _=w9 at *;clear k18 k28 nZ kN k58 km8 YL aco T8 dJ;have YM:ag w9 (w.heap.size+1+1) 43 _:=sM;have JG:=YM.cell;have oN:=below_alloc2 (aV w9 (.cells (ai ⟨pg,n,f,bk,ev,nd,live,K,false⟩ (.slice A m cap)) 43)) (.cells #[.slice A4 al VX] 41);have kB1:=(ag.new w9 43 (ai ⟨pg,n,f,bk,ev,nd,live,K,false⟩ (.slice A m cap))).dU (.cells #[.slice A4 al VX] 41);have kB2:=ag.nL w9 (.cells (ai ⟨pg,n,f,bk,ev,nd,live,K,false⟩ (.slice A m cap)) 43) 41 #[.slice A4 al VX];have vP:=ae (Ep _ (.slice A m cap) ⟨pg,n,f,bk,ev,nd,live,K,false⟩ w9 rfl A4 al VX);dsimp only [ai] at oN kB1 kB2 vP
 go_wp2_with (go_at_call 58;refine vP.out.mono ?_;rintro e il ⟨rfl,acr⟩)
 rw [←acr] at oN kB1 kB2 ⊢;obtain ⟨B1,hB1⟩:=aj (w9.heap.size);rw [hB1] at kB1 kB2;simp only [hB1];have k10:=k19.call oN;have k20:=k29.call oN;have k30:=YM.call oN;have aij:=kN9.call oN;have k50:=k59.call oN;have acs:=km9.call oN;have ail:=ku.call oN;have hk10:=mg.call oN;have ae0:=acp.call oN;have vk:=T9.aU oN;have anM:gu<B1:=by have:=ku.lt;omega
 have aim:bs<B1:=by have:=hV.lt;omega
 have OH:=ae (Cq ⟨pg,n,f,bk,ev,nd,live,K,false⟩ (.slice A m cap) B1 (B1+1) A4 al VX more (fun k=>k=B1∨k=B1+1∨(more≠[]∧∃o,A4=some ⟨k,o,none⟩)) il hp Bu hal.out hl4 acm (.inl rfl) (.inr (.inl rfl)) (fun hn g o e=>.inr (.inr ⟨hn,o,e⟩)) kB1 kB2 hk10.ru);have UA:∀k,(k=B1∨k=B1+1∨(more≠[]∧∃o,A4=some ⟨k,o,none⟩))→k<il.heap.size:=fun k hk=>by
  rcases hk with rfl|rfl|⟨hn,o,e⟩
  ·exact kB1.lt
  ·exact kB2.lt
  ·obtain ⟨cs,hc⟩:=hk10.block hn e
   exact hc.lt
 clear k19 k29 sM YM kN9 k59 km9 ku mg acp T9 acr JG vP;simp only at OH;obtain ⟨XS,VZ⟩:=aj (bS more 0 (aA pg n f bk ev));rw [VZ] at OH hR yF;have VW:=VW.out;rw [VZ,Uz.out] at VW;obtain ⟨mf1,mf2,mf3,mf4⟩:=VW;clear VZ Uz;have hcr:nM il (w.heap.size+3) ⟨pg,n,f,bk,ev,nd,live,K,false⟩:=⟨A,cap,by simp only;rw [hm.out];exact aij,ae0,by simp only;rw [hm.out];exact hcap,hcm⟩;have UB:w.heap.size≤il.heap.size:=vk.size;refine Oz 20 79 137 (by rfl) xJ OH.out rfl UA
  (fun pre W=>∃(U:Vm) (v:Value) (bx:Nat→Nat),Hid (∀rest,pre++rest=XS→jy XS [] V=jy rest pre U)∧aS bs bb U cL w W∧ag W w.heap.size 44 #[.pointer (some ⟨bs,0,none⟩)]∧ag W (w.heap.size+1) 45 #[.pointer (some ⟨bb,0,none⟩)]∧ag W (w.heap.size+1+1) 43 #[.int .i64 pg,.int .i64 n,.int .i64 f,.int .i64 bk,.int .i64 ev,.int .i64 nd,.int .i64 live,.slice A m cap,.bool false]∧nM W (w.heap.size+3) ⟨pg,n,f,bk,ev,nd,live,K,false⟩∧ag W (w.heap.size+4) 36 #[.int .i64 0]∧ag W gm 3 #[.int .i64 many]∧ag W gu 129 #[v] ∧
   W.ownsRow w.heap.size 1 1 v pre.length ((List.range pre.length).map (fun i=>EY w.heap.size (w.heap.size+3) gm (bx i)))∧(∀i,i<pre.length→ag W (bx i) 137 (oM (pre.getD i nX)))∧(∃cs,ag W B1 43 cs)∧(∃cs,ag W (B1+1) 41 cs)∧KeptAt W A4 more)
  (fun c pre W=>c= .ret∧∃(U:Vm) (v:Value) (bx:Nat→Nat) (er:Int),er≠0∧Hid (jy XS [] V=(er,U,pre.dropLast))∧aS bs bb U cL w W∧ag W w.heap.size 44 #[.pointer (some ⟨bs,0,none⟩)]∧ag W (w.heap.size+1) 45 #[.pointer (some ⟨bb,0,none⟩)]∧ag W (w.heap.size+1+1) 43 #[.int .i64 pg,.int .i64 n,.int .i64 f,.int .i64 bk,.int .i64 ev,.int .i64 nd,.int .i64 live,.slice A m cap,.bool false]∧nM W (w.heap.size+3) ⟨pg,n,f,bk,ev,nd,live,K,false⟩∧ag W (w.heap.size+4) 36 #[.int .i64 er]∧ag W gm 3 #[.int .i64 many]∧ag W gu 129 #[v] ∧
   W.ownsRow w.heap.size 1 1 v pre.dropLast.length ((List.range pre.dropLast.length).map (fun i=>EY w.heap.size (w.heap.size+3) gm (bx i)))∧(∀i,i<pre.dropLast.length→ag W (bx i) 137 (oM (pre.dropLast.getD i nX))))
  ?hI ?hIx ?h0 ?assign ?body ?done ?stop
 case hI =>
  rintro pre WA WB ⟨U,v,bx,h1,h2,h3,h4,h5,h6,h7,h8,h9,h10,h11,⟨c12,h12⟩,⟨c13,h13⟩,h14⟩ hs;exact ⟨U,v,bx,h1,h2.soft UB hs,hs.blk h3,hs.blk h4,hs.blk h5,h6.soft hs,hs.blk h7,hs.blk h8,hs.blk h9,vg h10 hs,fun i hi=>hs.blk (h11 i hi),⟨c12,hs.blk h12⟩,⟨c13,hs.blk h13⟩,h14.soft hs⟩
 case hIx =>
  rintro c pre WA WB ⟨h0,U,v,bx,er,he,h1,h2,h3,h4,h5,h6,h7,h8,h9,h10,h11⟩ hs;exact ⟨h0,U,v,bx,er,he,h1,h2.soft UB hs,hs.blk h3,hs.blk h4,hs.blk h5,h6.soft hs,hs.blk h7,hs.blk h8,hs.blk h9,vg h10 hs,fun i hi=>hs.blk (h11 i hi)⟩
 case h0 =>
  exact ⟨V,_,fun _=>0,ae (fun rest h=>by rw [List.nil_append] at h;rw [h]),vk,k10,k20,k30,hcr,k50,acs,ail,World.ownsRow_nil _ _ _ _,fun i hi=>absurd hi (by simp),⟨_,kB1⟩,⟨_,kB2⟩,hk10⟩
 case assign =>
  intro mm l x W C hC;obtain ⟨xa,xb,xn⟩:=x;simp only [oM,List.setIfInBounds_toArray,List.set_cons_succ,List.set_cons_zero] at hC ⊢
  gi_wp2
  exact hC
 case body =>
  rintro mm l X pre x Bx W hs2 hX hD hE ⟨U,v,bx,hS,T1,k1,k2,k3,sN,ke,OI,Mj,hrow,hbx,⟨c8,Cy⟩,⟨c9,Cz⟩,OJ⟩ kx hpre;simp only [List.setIfInBounds_toArray,List.set_cons_succ,List.set_cons_zero];obtain ⟨rest,hrest⟩:=hpre;have hst:=hS.out (x::rest) (by rw [←hrest,List.append_assoc];rfl);rw [jy] at hst;obtain ⟨xa,xb,xn⟩:=x;simp only at hst;have HC:=ae (fun W h=>NP bs xa xb U W h);obtain ⟨J,hJ⟩:=aj (bJ U xa xb 2 1 2);rw [hJ] at HC hst;obtain ⟨je,jV⟩:=J;simp only at HC hst;have c1:=k1.cell;have cx:=kx.cell;clear hJ
  gi_wp2_with fail
  refine (callsIn_wide.2 (HC.out _ T1.sys)).mono ?_;rintro e w1 ⟨rfl,h1⟩;have S1:=aS.iK T1.sys T1.eD h1;by_cases hj0:je=0
  ·subst hj0
   rw [if_neg (by simp)] at hst;have df:=ae hst;obtain ⟨i0,hi,hz0,hz1,hz2⟩:=JE;have hlen:pre.length+1≤XS.length:=by rw [←hrest];simp
   have k12:=S1.blk T1.sys k1;have k22:=S1.blk T1.sys k2;have iU:=S1.blk T1.sys k3;have G9:=S1.blk T1.sys ke;have RD:=S1.blk T1.sys OI;have Mk:=S1.blk T1.sys Mj;have gp:=S1.blk T1.sys kx;have Ha:=S1.blk T1.sys Cy;have Hd:=S1.blk T1.sys Cz;have KP:=S1.kept T1.sys OJ;have hc2:=sN.both T1.sys S1;have OL:=fun i hi=>S1.blk T1.sys (hbx i hi) (by decide) (by decide)
   have hrow2:=yE hrow S1.far (fun g cs hg=>l9.not T1.sys hg (by decide) (by decide));have cu2:=Mk.cell;have fu2:=Mk.frozen;have kN:=ag.new w1 1 #[EY w.heap.size (w.heap.size+3) gm Bx];have agV:w.heap.size≤w1.heap.size:=Nat.le_trans T1.size S1.size;have Cu:∀k t cs,ag W k t cs→t≠140→t≠41→t≠43→¬((k=B1∨k=B1+1∨(more≠[]∧∃o,A4=some ⟨k,o,none⟩))∨X k∨k=il.heap.size∨k=il.heap.size+1):=by
    intro k t cs hb h1 h2 h3 hz;rcases hz with (h|h|⟨hn,o,h⟩)|h|h|h
    ·subst h;exact hb.ne Cy h3
    ·subst h;exact hb.ne Cz h2
    ·obtain ⟨cs',hc'⟩:=OJ.block hn h;exact hb.ne hc' h1
    ·obtain ⟨cs',hc'⟩:=hX k h;exact hb.ne hc' h1
    ·subst h;exact hD _ _ hb
    ·subst h;exact hE _ _ hb
   have noT:∀k,(l9 W bs bb k∨v.ownBlock=some k∨k=gu)→¬((k=B1∨k=B1+1∨(more≠[]∧∃o,A4=some ⟨k,o,none⟩))∨X k∨k=il.heap.size∨k=il.heap.size+1):=by
    rintro k ((rfl|⟨_,cs,hc⟩)|h|rfl)
    ·obtain ⟨cs,hc⟩:=T1.sys.typed
     exact Cu _ _ _ hc (by decide) (by decide) (by decide)
    ·exact Cu _ _ _ hc (by decide) (by decide) (by decide)
    ·obtain ⟨cs,hc⟩:=Bt hrow h
     exact Cu _ _ _ hc (by decide) (by decide) (by decide)
    ·exact Cu _ _ _ Mj (by decide) (by decide) (by decide)
   have KQ:=ae noT;have ain:w.heap.size≤gu:=by omega
   have YF:∀g t cs,ag w1 g t cs→t≠1→t≠129→¬(v.ownBlock=some g∨g=gu):=by
    rintro g t cs hg h1 h2 (h|rfl)
    ·obtain ⟨cs',hc'⟩:=Bt hrow2 h
     exact hg.ne hc' h1
    ·exact hg.ne Mk h2
   have mM:=ae YF;clear Cu noT YF hD hE hX;clear hst c1 cx k1 k2 k3 ke OI Mj kx hbx HC h1 Cy Cz OJ sN hrow;unfold EY at kN
   gi_wp2_with (gi_at_builtin;refine wpListIn_append_own _ rfl (.tmp 90) (.tmp 92) 129 rfl w.heap.size 1 i0 .nilFunc 1 8 underlying129 hi hz0 hz1 hz2 rfl (by decide) v pre.length _ rfl (hrow2.alloc _) ⟨w1.heap.size,0,none⟩ 1 1 [_] rfl rfl (fun j u hu=>by
     have hj0:j=0:=by have:=(List.getElem?_eq_some_iff.1 hu).1;simp at this;omega
     subst hj0;rw [dh,Nat.zero_add,kN.cell];simpa using hu) (fun u hu=>by simp only [List.mem_singleton] at hu;subst hu;rfl) (by unfold maxLen;omega) (by omega) (by simp;omega) ?_;intro v' w2 hown' hgrow _;obtain ⟨Au',cu',rfl,_⟩:=dC hown';have ku3:=(Mk.alloc _).grown hgrow (fun e=>Mk.not_row hrow2 (by decide) e.symm);have cu3:=ku3.cell;have fu3:=ku3.frozen)
   have FA:af (fun k=>v.ownBlock=some k∨k=gu) w1 w2:=((af.refl _ w1).alloc _).grown hgrow (fun r e hr=>.inl e);have FF:=FA.setCell (p:=⟨gu,0,none⟩) (fun _=>.inr rfl) (.slice Au' (pre.length+1) cu');have FG:af (fun k=>k=gu) w2 (w2.setCell ⟨gu,0,none⟩ (.slice Au' (pre.length+1) cu')):=af.setCell (T:=fun k=>k=gu) (p:=⟨gu,0,none⟩) (af.refl _ w2) (fun _=>rfl) _;have kU:=ku3.aO 0 (.slice Au' (pre.length+1) cu');have hown3:=aK hown' FG (fun g hg e=>by subst e;exact di hown' hg ku3 (by decide));have T3:=(T1.trans S1).fresh FF (fun k hk=>by rcases hk with h|rfl;exact (hrow2.lt k h).1;exact ain) (fun k hk=>by
    rcases hk with h|rfl
    ·obtain ⟨cs,hc⟩:=Bt hrow2 h
     exact ⟨_,cs,hc,by decide,by decide,by decide,by decide⟩
    ·exact ⟨_,_,Mk,by decide,by decide,by decide,by decide⟩)
   generalize w2.setCell ⟨gu,0,none⟩ (.slice Au' (pre.length+1) cu')=w3 at *;simp only [List.setIfInBounds_toArray,List.set_cons_zero] at kU;refine ⟨(S1.far.mono (fun k _ h=>KQ.out k (.inl h))).trans' FF (fun i hi h=>KQ.out i (.inr h)),jV,_,fun i=>if i=pre.length then Bx else bx i,?_,T3,FF.blk k12 (mM.out _ _ _ k12 (by decide) (by decide)),FF.blk k22 (mM.out _ _ _ k22 (by decide) (by decide)),FF.blk iU (mM.out _ _ _ iU (by decide) (by decide)),?_,FF.blk G9 (mM.out _ _ _ G9 (by decide) (by decide)),FF.blk RD (mM.out _ _ _ RD (by decide) (by decide)),kU,?_,?_,⟨_,FF.blk Ha (mM.out _ _ _ Ha (by decide) (by decide))⟩,⟨_,FF.blk Hd (mM.out _ _ _ Hd (by decide) (by decide))⟩,KP.far FF (fun g cs hg=>mM.out _ _ _ hg (by decide) (by decide))⟩
   ·refine ae (fun rest' h=>?_)
    have e:rest'=rest:=by
     rw [←hrest] at h;exact List.append_cancel_left h
    rw [e];exact df.out
   ·obtain ⟨q,cq,gU,hkq,hlq,hcq⟩:=hc2.ex
    exact ⟨q,cq,FF.blk gU (mM.out _ _ _ gU (by decide) (by decide)),hkq.far FF (fun g cs hg=>mM.out _ _ _ hg (by decide) (by decide)),hlq,hcq⟩
   ·rw [List.length_append,List.length_singleton,OG (fun i=>EY w.heap.size (w.heap.size+3) gm (bx i)) _ pre.length (fun i hi=>by dsimp only;rw [if_neg (by omega)])]
    simpa [EY] using hown3
   ·intro i hi
    dsimp only;by_cases e:i=pre.length
    ·rw [if_pos e,e]
     have e2:(pre++[(xa,xb,xn)]).getD pre.length nX=(xa,xb,xn):=by simp [List.getD_eq_getElem?_getD]
     rw [e2];exact FF.blk gp (mM.out _ _ _ gp (by decide) (by decide))
    ·have hi':i<pre.length:=by rw [List.length_append,List.length_singleton] at hi;omega
     rw [if_neg e];have e2:(pre++[(xa,xb,xn)]).getD i nX=pre.getD i nX:=by simp [List.getD_eq_getElem?_getD,List.getElem?_append_left hi']
     rw [e2];exact FF.blk (OL i hi') (mM.out _ _ _ (OL i hi') (by decide) (by decide))
  ·have aio:(je != 0)=true:=by simpa using hj0
   rw [if_pos hj0] at hst;have df:=ae hst;obtain ⟨q,cq,gU,hkq,hlq,hcq⟩:=(sN.both T1.sys S1).ex;simp only at gU hkq hlq;rw [hm.out] at gU hlq;have k12:=S1.blk T1.sys k1;have k22:=S1.blk T1.sys k2;have iU:=S1.blk T1.sys k3;have G9:=S1.blk T1.sys ke;have RD:=S1.blk T1.sys OI;have Mk:=S1.blk T1.sys Mj;have OL:=fun i hi=>S1.blk T1.sys (hbx i hi) (by decide) (by decide)
   have VV:=gU.cell;have f42:=gU.frozen;have fe2:=G9.frozen;have ce2:=G9.cell;clear hst c1 cx k1 k2 k3 ke OI Mj hbx HC h1 Cy Cz
   gi_wp2_with fail
   have hrow2:=yE hrow S1.far (fun g cs hg=>l9.not T1.sys hg (by decide) (by decide));have Vl:=aG gU ⟨pg,n,f,bk,ev,nd,live,K,false⟩ (.slice q m cq);have FN:=aH w1 (w.heap.size+3) ⟨pg,n,f,bk,ev,nd,live,K,false⟩ (.slice q m cq);have kE2:=FN.blk G9 (by show ¬w.heap.size+4=w.heap.size+3;omega);have Lr:=Vl.far (p:=⟨w.heap.size+4,0,none⟩) (by show w.heap.size+3≠w.heap.size+4;omega) (.int .i64 je);have kE3:=kE2.aO 0 (.int .i64 je);have FE:=((FN.mono (fun _ _ h=>.inl h):af (fun k=>k=w.heap.size+3∨k=w.heap.size+4) _ _)).setCell (p:=⟨w.heap.size+4,0,none⟩) (fun _=>.inr rfl) (.int .i64 je);have T3:=(T1.trans S1).fresh FE (fun k hk=>by rcases hk with rfl|rfl <;> omega) (fun k hk=>by rcases hk with rfl|rfl;exact ⟨_,_,gU,by decide,by decide,by decide,by decide⟩;exact ⟨_,_,G9,by decide,by decide,by decide,by decide⟩);have OM:∀g t cs,ag w1 g t cs→t≠36→(t=43→g≠w.heap.size+3)→¬(g=w.heap.size+3∨g=w.heap.size+4):=by
    intro g t cs hg h1 h2 hz;rcases hz with rfl|rfl
    ·by_cases e:t=43
     ·exact h2 e rfl
     ·exact hg.ne gU e
    ·exact hg.ne G9 h1
   change QD _ _ _ _ _ _ _ _ _ ((aL w1 (w.heap.size+3) ⟨pg,n,f,bk,ev,nd,live,K,false⟩ (.slice q m cq)).setCell ⟨w.heap.size+4,0,none⟩ (.int .i64 je));generalize (aL w1 (w.heap.size+3) ⟨pg,n,f,bk,ev,nd,live,K,false⟩ (.slice q m cq)).setCell ⟨w.heap.size+4,0,none⟩ (.int .i64 je)=w3 at *;refine ⟨?_,rfl,jV,v,bx,je,hj0,by rw [List.dropLast_concat];exact df,T3,FE.blk k12 (OM _ _ _ k12 (by decide) (fun h=>absurd h (by decide))),FE.blk k22 (OM _ _ _ k22 (by decide) (fun h=>absurd h (by decide))),FE.blk iU (OM _ _ _ iU (by decide) (fun _=>by omega)),⟨q,cq,by simp only;rw [hm.out];exact Lr,hkq.far FE (fun g cs hg=>OM _ _ _ hg (by decide) (fun h=>absurd h (by decide))),by simp only;rw [hm.out];exact hlq,hcq⟩,kE3,FE.blk RD (OM _ _ _ RD (by decide) (fun h=>absurd h (by decide))),FE.blk Mk (OM _ _ _ Mk (by decide) (fun h=>absurd h (by decide))),?_,?_⟩
   ·refine (S1.far.mono (fun k _ hk=>?_)).trans' FE (fun i hi hk hz=>?_)
    ·obtain ⟨t,cs,hb⟩:∃t cs,ag W k t cs:=by
      rcases hk with rfl|⟨_,cs,hc⟩
      ·obtain ⟨cs,hc⟩:=T1.sys.typed;exact ⟨_,_,hc⟩
      ·exact ⟨_,_,hc⟩
     rintro (rfl|rfl)
     ·exact hD _ _ hb
     ·exact hE _ _ hb
    ·have:=k50.lt
     rcases hk with rfl|rfl <;> rcases hz with h|h <;> omega
   ·rw [List.dropLast_concat];exact yE hrow2 FE (fun g cs hg=>OM _ _ _ hg (by decide) (fun h=>absurd h (by decide)))
   ·rw [List.dropLast_concat];exact fun i hi=>FE.blk (OL i hi) (OM _ _ _ (OL i hi) (by decide) (fun h=>absurd h (by decide)))
 case done =>
  rintro W hs2 ⟨U,v,bx,hS,T1,k1,k2,k3,sN,ke,OI,Mj,hrow,hbx,_,_,_⟩ hd;have hS2:=hS.out [] (List.append_nil _);rw [jy] at hS2;rw [hS2] at hR;simp only [if_true] at hR;obtain ⟨q,cq,k4,hkq,hlq,hcq⟩:=sN.ex;simp only at k4 hkq hlq;rw [hm.out] at k4 hlq;dsimp only [ai] at k4;have c4:=k4.cell;have f4:=k4.frozen;go_upto_region 24 with fail
  clear c4;have GU:w.heap.size≤il.heap.size:=UB;have HD0:mK (some il.heap.size) W:=fun D e=>by cases e;exact hd
  have FS:=af.setCell (T:=fun k=>k=w.heap.size+3) (p:=⟨w.heap.size+3,6,none⟩) (af.refl _ W) (fun _=>rfl) (.int .i64 tt);have T2:=T1.fresh FS (fun k hk=>by rw [hk];omega) (fun k hk=>by rw [hk];exact ⟨_,_,k4,by decide,by decide,by decide,by decide⟩);have iU:=k3.far (p:=⟨w.heap.size+3,6,none⟩) (by show w.heap.size+1+1≠w.heap.size+3;omega) (.int .i64 tt);have gU:=k4.aO 6 (.int .i64 tt);have G9:=ke.far (p:=⟨w.heap.size+3,6,none⟩) (by show w.heap.size+4≠w.heap.size+3;omega) (.int .i64 tt);have HD2:=HD0.far FS (fun k hk=>by rw [hk];exact ⟨_,_,k4⟩);have hq2:=hkq.far FS (fun g cs hg e=>by subst e;exact k4.ne hg);have hK2:=T2.kept hV gI.out;change Code.wp _ _ _ _ (W.setCell ⟨w.heap.size+3,6,none⟩ (.int .i64 tt));generalize W.setCell ⟨w.heap.size+3,6,none⟩ (.int .i64 tt)=wt at *;simp only [List.setIfInBounds_toArray,List.set_cons_zero,List.set_cons_succ] at gU;clear k1 k2 k3 k4 OI Mj hrow hbx ke hkq FS f4 T1 hd HD0;have hS:GD (w.heap.size+2) live (.slice A m cap) wt:=⟨iU.cell 6,iU.cell 7⟩;have hbd:=(Below.refl wt.heap.size wt).drew;have T3:=T2.aU hbd;have tZ:=gU.call hbd;have ke3:=G9.call hbd;have HD3:=HD2.call hbd;have hq3:=hq2.call hbd;have hK3:=hK2.call hbd;have hS:=hS.call hbd;refine bO ?_;refine bD (GD (w.heap.size+2) live (.slice A m cap)) [6,7,8,9] (by kernel_rfl) ?_;generalize wt.drew=wd at *;clear gU G9 HD2 hq2 hK2 T2 hbd;refine aX 0 hS ?_;refine aX 1 hS ?_;refine aX 2 hS ?_;refine fu 3 fun K hK=>?_
  go_simp;refine (HB2.out wd).mono ?_;rintro (e wa ⟨A2,c2,rfl,En,hl2,hc2,_,dJ⟩);refine hK.out _ _ (fun _=>hS.call dJ) (fun hS=>?_);clear hK K;replace hS:=hS rfl;try simp only [Act.put,gM,gN,gP]
  have hKa:=hK3.call dJ;refine fu 4 fun K hK=>?_
  go_simp;refine ((Rp.out wa A A2 cap c2 ⟨hcap,hcm⟩ hl2 hc2 En hKa.ru)).mono ?_;rintro (e wb ⟨A5,c5,rfl,hk5,hl5,OB,hbb⟩);refine hK.out _ _ (fun _=>hS.call hbb) (fun hS=>?_);clear hK K;replace hS:=hS rfl;try simp only [Act.put,gM,gN,gP]
  have hab:=dJ.trans (hbb.mono dJ.size);have Tb:=T3.aU hab;have RP:=tZ.call hab;have keb:=ke3.call hab;have HDb:=HD3.call hab;have hqb:=hq3.call hab;clear iU tZ ke3 HD3 hq3 hK3 hKa T3 En hl2 dJ;refine aX 5 hS ?_;refine fD 6 ?_;refine fD 7 ?_;refine fD 8 ?_;have c4b:=RP.cell;have f4b:=RP.frozen;refine fu 9 fun KK hK=>?_
  go_simp;refine hK.out _ _ (fun h=>absurd h (by decide)) (fun _=>?_);clear hK KK;refine bz (by kernel_rfl) ?_ _;refine aT ?_;have FS:=af.setCell (T:=fun k=>k=w.heap.size+3) (p:=⟨w.heap.size+3,7,none⟩) (af.refl _ wb) (fun _=>rfl) (.slice A5 (ay K (aZ (bG 0 tt) (0,1024))).length c5);have Tc:=Tb.fresh FS (fun k hk=>by rw [hk];omega) (fun k hk=>by rw [hk];exact ⟨_,_,RP,by decide,by decide,by decide,by decide⟩);have RQ:=RP.aO 7 (.slice A5 (ay K (aZ (bG 0 tt) (0,1024))).length c5);have V9:=keb.far (p:=⟨w.heap.size+3,7,none⟩) (by show w.heap.size+4≠w.heap.size+3;omega) (.slice A5 (ay K (aZ (bG 0 tt) (0,1024))).length c5);have RS:=HDb.far FS (fun k hk=>by rw [hk];exact ⟨_,_,RP⟩);have ais:=hk5.far FS (fun g cs hg e=>by subst e;exact RP.ne hg);generalize wb.setCell ⟨w.heap.size+3,7,none⟩ (.slice A5 (ay K (aZ (bG 0 tt) (0,1024))).length c5)=wc at *;simp only [List.setIfInBounds_toArray,List.set_cons_zero,List.set_cons_succ] at RQ;clear RP keb HDb hqb Tb FS c4b f4b hS hk5 hbb hab;generalize hK9:ay K (aZ (bG 0 tt) (0,1024))=K9 at *;have c4c:=RQ.cell;have f4c:=RQ.frozen;have cec:=V9.cell;have fec:=V9.frozen;go_wp2_with fail;change bodyPostM _ _ _ _ _ _ _ ((aL wc (w.heap.size+3) ⟨pg,n,f,bk,ev,nd,tt,K9,false⟩ (.slice A5 K9.length c5)).setCell ⟨w.heap.size+4,0,none⟩ (.int .i64 0));have aR:=aG RQ ⟨pg,n,f,bk,ev,nd,tt,K9,false⟩ (.slice A5 K9.length c5);have F9:=aH wc (w.heap.size+3) ⟨pg,n,f,bk,ev,nd,tt,K9,false⟩ (.slice A5 K9.length c5);have G8:=F9.blk V9 (by show ¬w.heap.size+4=w.heap.size+3;omega);have jG:=aR.far (p:=⟨w.heap.size+4,0,none⟩) (by show w.heap.size+3≠w.heap.size+4;omega) (.int .i64 0);have qR:=G8.aO 0 (.int .i64 0);have nz:=((F9.mono (fun _ _ h=>.inl h):af (fun k=>k=w.heap.size+3∨k=w.heap.size+4) _ _)).setCell (p:=⟨w.heap.size+4,0,none⟩) (fun _=>.inr rfl) (.int .i64 0);have T9:=Tc.fresh nz (fun k hk=>by rcases hk with rfl|rfl <;> omega) (fun k hk=>by rcases hk with rfl|rfl;exact ⟨_,_,RQ,by decide,by decide,by decide,by decide⟩;exact ⟨_,_,V9,by decide,by decide,by decide,by decide⟩);have xg:=RS.far nz (fun k hk=>by rcases hk with rfl|rfl;exact ⟨_,_,RQ⟩;exact ⟨_,_,V9⟩);have mg:=ais.far nz (fun g cs hg e=>by rcases e with rfl|rfl;exact RQ.ne hg;exact V9.ne hg);generalize (aL wc (w.heap.size+3) ⟨pg,n,f,bk,ev,nd,tt,K9,false⟩ (.slice A5 K9.length c5)).setCell ⟨w.heap.size+4,0,none⟩ (.int .i64 0)=w9 at *;have SF:=xg.soft GU;have htk:=run_takeDeferred (P:=prog) (xg _ rfl);have vk:=T9.soft (Nat.le_refl _) (xg.soft (Nat.le_trans (Nat.le_refl _) GU));have hk10:=mg.soft SF;have kRf:=SF.blk jG;have kEf:=SF.blk qR;generalize w9.putObj il.heap.size (.deferred none)=wf at *;simp only [List.setIfInBounds_toArray,List.set_cons_zero] at kEf;refine vN (Q:=fun w'=>w'=wf) htk rfl (Aa _ wf) (Mf (w.heap.size+4) gu (w.heap.size+1) (w.heap.size+2) gm _ .returning wf kEf) ?_;rintro w' rfl;dsimp only [ai] at kRf;have cRf:=kRf.cell;have cEf:=kEf.cell;rw [←hR];exact ⟨.tuple #[.agg (ai ⟨pg,n,f,bk,ev,nd,tt,K9,false⟩ (.slice A5 K9.length c5)),.int .i64 0],by simp [results,results19,go_sem,cRf,cEf,ai],_,rfl,⟨A5,c5,rfl,hl5,OB,hk10⟩,vk⟩
 case stop =>
  rintro c pre W hs2 hpre ⟨rfl,U,v,bx,er,her,hS,T1,k1,k2,k3,sN,ke,OI,Mj,hrow,hbx⟩ hd;rw [hS.out] at hR;simp only at hR;rw [if_neg her] at hR;have GU:w.heap.size≤il.heap.size:=UB;have HD0:mK (some il.heap.size) W:=fun D e=>by cases e;exact hd
  have SF:=HD0.soft GU;go_wp2_with fail;have kw1:=SF.blk k1;have kw2:=SF.blk k2;have kw3:=SF.blk k3;have RV:=SF.blk ke;have kwm:=SF.blk OI;have kwu:=SF.blk Mj;have hcw:=sN.soft SF;have hbw:=fun i hi=>SF.blk (hbx i hi)
  have hrw:=vg hrow SF;have hVw:=T1.sys.soft SF;have hBw:=T1.eD.soft SF;have hFw:=T1.far.soft (Nat.le_refl _) SF;obtain ⟨Au,cu,rfl,hfn,hty⟩:=abf hrw;have hdl:pre.dropLast <+: XS:=(List.dropLast_prefix pre).trans hpre;have hsum:dQ pre.dropLast≤many:=by
   obtain ⟨t,ht⟩:=hdl;rw [←mf1,←ht,pY];have:=sI t (fun y hy=>yF y (by rw [←ht];simp [hy]));omega
  have hlen:=hdl.length_le;have HG:=RG bs bb (w.heap.size+4) gu w.heap.size (w.heap.size+1) (w.heap.size+2) (w.heap.size+3) gm 0 nd U cL ⟨pg,n,f,bk,ev,nd,live,K,false⟩ ⟨pg,n,f,bk,ev,nd,live,K,false⟩ (.slice A m cap) many er pre.dropLast bx Au pre.dropLast.length cu .returning _ her hVw hBw RO aic RV kwu rfl (by omega) hfn hty kw1 kw2 kw3 rfl (by omega) hbw hcw kwm (fun x hx=>yF x (hdl.subset hx)) jN hsum (by omega);have htk:=run_takeDeferred (P:=prog) hd;generalize W.putObj il.heap.size (.deferred none)=wf at *;refine vN htk rfl (Aa _ wf) HG ?_;rintro w' ⟨q1,q2,q3,q4⟩;have kE':=q4.blk RV (by
   rintro ((h|h|h)|⟨_,cs,h⟩)
   ·obtain ⟨cs,hc⟩:=hVw.typed;rw [h] at RV;exact RV.ne hc
   ·omega
   ·rw [h] at RV;exact RV.ne kwm
   ·exact RV.ne h)
  rw [←hR];generalize pre.dropLast.reverse.foldl dK (U,K,many)=S at *;obtain ⟨sV,sK,sm⟩:=S;simp only at q1 q2 q3;obtain ⟨q,cq,k4,hkq,hlq,hcq⟩:=q3.ex;dsimp only [ai] at k4;have cRf:=k4.cell;have cEf:=kE'.cell;exact ⟨.tuple #[.agg (ai ⟨pg,n,f,bk,ev,nd,live,sK,false⟩ (.slice q sK.length cq)),.int .i64 er],by simp [results,results19,go_sem,cRf,cEf,ai],_,rfl,⟨q,cq,rfl,hlq,hcq,hkq⟩,⟨q1,q2,hFw.trans' q4 (fun i hi ht=>by
   rcases ht with (h|h|h)|h
   ·exact .inl h
   ·omega
   ·have:=acs.lt;omega
   ·exact l9.back hFw hi (.inr h))⟩⟩
theorem CB (b:Nat) (V:Vm) (w:World) (hV:aD w b V) (hk:aQ V) :
  Calls prog 41 #[.pointer (some ⟨b,0,none⟩)] w fun e w'=>e= .returned (.tuple #[.agg (RX V 1024),.int .i64 0])∧Below w.heap.size w w':=by
 have hb0:=aV w (.cells #[.int .i64 0,.int .i64 0,.int .i64 0,.int .i64 0,.int .i64 0] 106);have k0:=ag.new w 106 #[.int .i64 0,.int .i64 0,.int .i64 0,.int .i64 0,.int .i64 0];have HI:=ae (fun W h=>uD b V W h);have HF:=ae (fun (p:Int) W=>qi p W);have V0:=hV.call hb0;have hbs:=hV.lt;have hk':=ae hk;have hV':=ae hV;obtain ⟨s,hs⟩:=aj (w.heap.size);have hsz0:(w.alloc (.cells #[.int .i64 0,.int .i64 0,.int .i64 0,.int .i64 0,.int .i64 0] 106)).heap.size=s+1:=by rw [World.size_alloc,hs]
 rw [hs] at k0 hbs;clear hk hV;go_enter func41,ntmps41;go_upto_region 1 with fail
 generalize w.alloc _=w0 at *;go_wp2_with fail;refine (HI.out _ V0).mono ?_;rintro e9 w9 ⟨rfl,bH⟩;replace bH:=bH.symm;subst bH;go_upto_region 4 with fail
 have hb1:=hb0.alloc (by omega) (.cells #[.int .i64 0,.int .i64 0,.int .i64 0,.int .i64 0,.int .i64 0] 106);have Dp:=k0.alloc (.cells #[.int .i64 0,.int .i64 0,.int .i64 0,.int .i64 0,.int .i64 0] 106);have k4:=ag.new w0 106 #[.int .i64 0,.int .i64 0,.int .i64 0,.int .i64 0,.int .i64 0];have hsz1:(w0.alloc (.cells #[.int .i64 0,.int .i64 0,.int .i64 0,.int .i64 0,.int .i64 0] 106)).heap.size=s+2:=by rw [World.size_alloc,hsz0]
 rw [hsz0] at k4;clear V0 hb0 k0;generalize w0.alloc _=w1 at *;have k5:=ag.new w1 192 #[Value.pointer (some ⟨s+1,0,none⟩),Value.pointer (some ⟨s+1,1,none⟩),Value.pointer (some ⟨s+1,2,none⟩),Value.pointer (some ⟨s+1,3,none⟩)];rw [hsz1] at k5;have k24:=k4.alloc (.cells #[Value.pointer (some ⟨s+1,0,none⟩),Value.pointer (some ⟨s+1,1,none⟩),Value.pointer (some ⟨s+1,2,none⟩),Value.pointer (some ⟨s+1,3,none⟩)] 192);have k20:=Dp.alloc (.cells #[Value.pointer (some ⟨s+1,0,none⟩),Value.pointer (some ⟨s+1,1,none⟩),Value.pointer (some ⟨s+1,2,none⟩),Value.pointer (some ⟨s+1,3,none⟩)] 192);have B2:=hb1.alloc (by omega) (.cells #[Value.pointer (some ⟨s+1,0,none⟩),Value.pointer (some ⟨s+1,1,none⟩),Value.pointer (some ⟨s+1,2,none⟩),Value.pointer (some ⟨s+1,3,none⟩)] 192);go_wp2_with fail;generalize w1.alloc _=w2 at *;have hint:sO #[.int .i64 0,.int .i64 0,.int .i64 0,.int .i64 0,.int .i64 0] (eU V 0):=⟨rfl,fun j hj=>by
  rcases (show j=0∨j=1∨j=2∨j=3∨j=4 by omega) with rfl|rfl|rfl|rfl|rfl <;> rfl⟩
 clear k4 Dp hb1 hsz0 hsz1
 go_loopw [16] (fun u wr=>∃i:Nat,i≤1024∧u= .int .i64 i∧Below w.heap.size w wr∧ag wr s 106 #[.int .i64 0,.int .i64 0,.int .i64 0,.int .i64 0,.int .i64 0]∧ag wr (s+2) 192 ([Value.pointer (some ⟨s+1,0,none⟩),Value.pointer (some ⟨s+1,1,none⟩),Value.pointer (some ⟨s+1,2,none⟩),Value.pointer (some ⟨s+1,3,none⟩)]).toArray∧∃cs,sO cs (eU V i)∧ag wr (s+1) 106 cs) (fun u _=>1024 - (intOf u).toNat)
 case atStart=>exact ⟨0,by omega,rfl,B2,k20,k5,_,hint,k24⟩
 case round =>
  clear k24 k20 B2 k5 hint;obtain ⟨i,hi,rfl,hB,h0,h5,cs,hcs,h4⟩:=hrel;by_cases hlt:i<1024
  ·have hil:(i:Int)<1024:=by omega
   have hlt':decide ((i:Int)<1024)=true:=by simpa using hil
   obtain ⟨cv,A,n,cap,Gj,hcv,_⟩:=(hV'.out.call hB).ex;obtain ⟨hk0,hk3⟩:=hk'.out i hlt;have hb5:=Ml V i;have hstep:=OO V i;unfold UC at hstep;have e0:=(Gj.cell (1+i*66)).trans (hcv.kind hlt);generalize (V.pg i).kind=kd at *;obtain ⟨d,rfl⟩:∃d:Nat,kd=(d:Int):=⟨kd.toNat,by omega⟩;rw [Int.toNat_natCast] at hstep;have hd4:(d:Int)<4:=by omega
   have e1:wr.cell? ⟨s+2,d,none⟩=some (.pointer (some ⟨s+1,d,none⟩)):=by
    rw [h5.cell];rcases (show d=0∨d=1∨d=2∨d=3 by omega) with rfl|rfl|rfl|rfl <;> rfl
   have hz:=hcs.at_ d (by omega);obtain ⟨z,hz0⟩:=aj (eU V i d);have hzb:=hb5 d;have hzr:0≤z∧z≤1024:=by rw [←hz0];exact hzb
   rw [hz0] at hz;have e2:=(h4.cell d).trans hz;have f2:=h4.frozen d;have AY:=h4.aO d (.int .i64 (z+1));have hcs':=hcs.set (f:=qH (eU V i) d) d (z+1) (by simp [qH,hz0]) (fun j hj=>by simp [qH,hj]);have F4:=af.setCell (T:=fun k=>k=s+1) (p:=⟨s+1,d,none⟩) (af.refl _ wr) (fun _=>rfl) (.int .i64 (z+1));go_upto_region 9 with fail
   generalize wr.setCell ⟨s+1,d,none⟩ _=w3 at *;clear e0 e1 e2 f2 Gj hcv hcs h4 hz hzr;obtain ⟨f5,zH⟩:∃f5:Nat→Int,qH (eU V i) d=f5:=⟨_,rfl⟩;have acu:0≤f5 4∧f5 4≤2000:=by rw [←zH];have:=hb5 4;unfold qH;split <;> omega
   rw [zH] at hcs' hstep;clear zH hz0 hb5 hzb;have B3:=hB.trans (F4.below (by have:=hB.size;omega) (fun k hk e=>by omega));have h03:=F4.blk h0 (by show ¬s=s+1;omega);have h53:=F4.blk h5 (by show ¬s+2=s+1;omega);clear h0 h5 F4 hB;generalize cs.setIfInBounds d _=cs at *;obtain ⟨cv,A,n,cap,Gj,hcv,_⟩:=(hV'.out.call B3).ex;have e0:=(Gj.cell (1+i*66+1)).trans (hcv.BZ hlt);have Yb:=hcs'.at_ 4 (by omega);obtain ⟨z4,UD⟩:=aj (f5 4);have anN:0≤z4∧z4≤2000:=by rw [←UD];exact acu
   rw [UD] at Yb;have e2:=(AY.cell 4).trans Yb;have f2:=AY.frozen 4;have Yc:=AY.aO 4 (.int .i64 (z4+1));have Q0:=hcs'.set (f:=qH f5 4) 4 (z4+1) (by simp [qH,UD]) (fun j hj=>by simp [qH,hj]);have hs1:=ae hstep;clear hstep UD acu;have F4:=af.setCell (T:=fun k=>k=s+1) (p:=⟨s+1,4,none⟩) (af.refl _ w3) (fun _=>rfl) (.int .i64 (z4+1));clear Gj hcv;cases hh:(V.pg i).dz with
   | false =>
    rw [hh] at e0;have hs2:=ae (hs1.out.1 (.inl hh));clear hh;go_wp2_with fail;go_roundw
    case rel=>exact ⟨i+1,by omega,by go_num,B3,h03,h53,_,by rw [hs2.out];exact hcs',AY⟩
    case measure=>simp [intOf];omega
   | true =>
    rw [hh] at e0;have LP:=ae (HF.out (i:Int) w3);cases hf:lD (i:Int) with
    | false =>
     rw [hf] at LP;have hs2:=ae (hs1.out.1 (.inr hf));clear hf hh;go_wp2_with fail;refine LP.out.mono ?_;rintro e9 w9 ⟨rfl,bH⟩;replace bH:=bH.symm;subst bH;go_wp2_with fail;go_roundw
     case rel=>exact ⟨i+1,by omega,by go_num,B3,h03,h53,_,by rw [hs2.out];exact hcs',AY⟩
     case measure=>simp [intOf];omega
    | true =>
     rw [hf] at LP;have hs2:=ae (hs1.out.2 hh hf);clear hf hh;go_wp2_with fail;refine LP.out.mono ?_;rintro e9 w9 ⟨rfl,bH⟩;replace bH:=bH.symm;subst bH;have B4:=B3.trans (F4.below (by have:=B3.size;omega) (fun k hk e=>by omega));have h04:=F4.blk h03 (by show ¬s=s+1;omega);have h54:=F4.blk h53 (by show ¬s+2=s+1;omega);go_wp2_with fail;go_roundw
     case rel=>exact ⟨i+1,by omega,by go_num,B4,h04,h54,_,by rw [hs2.out];exact Q0,Yc⟩
     case measure=>simp [intOf];omega
  ·obtain rfl:i=1024:=by omega
   have hlt':decide (((1024:Nat):Int)<1024)=false:=by simp
   have hra:wr.rangeAt (s+1) 0 cs.toList:=fun j v hj=>by
    rw [Nat.zero_add,h4.cell];simpa using hj
   have hsz:=hcs.size;have AR:=ae (hcs.eq (RY V 1024));have ht:wr.there s 0 cs.size:=by rw [hsz];exact dP h0 0 5 (by simp)
   have mg:=ag.puts (g:=s) (t:=106) (w:=wr) (cs:=#[]) cs.toList 0 wr _ h0;rw [eB (by rw [Array.length_toList,hsz];rfl),Array.toArray_toList] at mg;have hF9:=af.puts (T:=fun k=>k=s) rfl cs.toList 0 wr wr (af.refl _ _);have hone:=Go.all_oneCell_toArray (hcs.one);rw [Array.toArray_toList] at hone;have jL:(prog.info? 106).map (·.size)=some cs.size:=by rw [hsz];exact LM
   go_wp2_with (first
    | (refine wpList_load_mid rfl 106 (.tmp 4) rfl (s+1) 0 rfl cs.toList _ hra underlying106 rfl (by rw [Array.length_toList,hsz];kernel_rfl) ?_;rw [Array.toArray_toList])
    | (refine wpList_store_mid rfl 106 (.tmp 2) (.tmp 48) rfl s 0 cs rfl rfl ht jL hone ?_))
   generalize World.setCells wr s 0 _=w9 at *;have sj:w9.rangeAt s 0 cs.toList:=fun j v hj=>by
    rw [Nat.zero_add,mg.cell];simpa using hj
   have EL:=run_loadVar_mid (P:=prog) w9 s 0 106 cs.toList _ sj underlying106 rfl (by rw [Array.length_toList,hsz];kernel_rfl);rw [Array.toArray_toList] at EL;refine bodyPost_ret (v:=.tuple #[.agg cs,.int .i64 0]) ?_ rfl ?_
   ·exact fZ results41 rfl EL
   exact ⟨by rw [AR.out],hB.trans (hF9.below (by have:=hB.size;omega) (fun k hk e=>by omega))⟩
theorem abm (a b c d e:Int) (w:World):(Op.equalIn 10000 25 (.agg #[.int .i64 a,.int .i64 b,.int .i64 c,.int .i64 d,.int .i64 e]) (.agg #[.int .i64 a,.int .i64 b,.int .i64 c,.int .i64 d,.int .i64 e])).run prog w= .ok true w:=by
 have u0:=underlying25;have u1:=underlying23;have a1:=Tryz.isAgg23;have z1:=Tryz.sizeOf23;have u3:=underlying3;have a3:=Tryz.isAgg3;have z3:=Tryz.sizeOf3;rw [show (10000:Nat)=9999+1 from rfl];go_simp;try simp
theorem Eu (r:Cr) (A B:Option Addr) (cap cap':Nat) (w:World) (hm:r.kept.length≤maxLen) (hA:RU w w.heap.size A r.kept) (hB:RU w w.heap.size B r.kept) :
  Calls prog 27 #[.agg (ai r (.slice A r.kept.length cap)),.agg (ai r (.slice B r.kept.length cap'))] w fun e w'=>e= .returned (.bool true)∧Below w.heap.size w w':=by
 obtain ⟨pg,n,f,bk,ev,node,live,K,cl⟩:=r;simp only at hm hA hB ⊢;have hb0:=below_alloc2 (aV w (.cells (ai ⟨pg,n,f,bk,ev,node,live,K,cl⟩ (.slice A K.length cap)) 43)) (.cells (ai ⟨pg,n,f,bk,ev,node,live,K,cl⟩ (.slice B K.length cap')) 43);have k0:=(ag.new w 43 (ai ⟨pg,n,f,bk,ev,node,live,K,cl⟩ (.slice A K.length cap))).dU (.cells (ai ⟨pg,n,f,bk,ev,node,live,K,cl⟩ (.slice B K.length cap')) 43);have k1:=ag.nL w (.cells (ai ⟨pg,n,f,bk,ev,node,live,K,cl⟩ (.slice A K.length cap)) 43) 43 (ai ⟨pg,n,f,bk,ev,node,live,K,cl⟩ (.slice B K.length cap'));have yA:=hA.on hb0;have hB0:=hB.on hb0;dsimp only [ai] at hb0 k0 k1 yA hB0 ⊢;have HS:=ae (fun W h1 h2=>QP A B K.length cap cap' K K W rfl hm rfl h1 h2);have heq:=fun W=>abm pg n f bk ev W
 clear hA hB;obtain ⟨m,hm0⟩:=aj (K.length);rw [hm0] at hb0 k0 k1 yA hB0 HS hm ⊢;clear hm0;go_enter func27,ntmps27;go_upto_region 1 with fail
 generalize (w.alloc _).alloc _=w0 at *;have c0:=k0.cell;have c1:=k1.cell;have d1:(node==node)=true:=by simp
 have d2:(live==live)=true:=by simp
 have d3:(cl==cl)=true:=by simp
 go_wp2_with fail;refine (HS.out w0 yA hB0).mono ?_;rintro e w1 ⟨rfl,hb1⟩;go_wp2_with fail;go_ret;exact ⟨rfl,hb0.trans (hb1.mono hb0.size)⟩
theorem OP (w:World):Calls prog 39 #[] w fun e w'=>e= .returned (eQ 0 8 1 1 0)∧Below w.heap.size w w':=by
 have hb0:=aV w (.cells (bf 0 8 1 1 0) 25);have k0:=ag.new w 25 (bf 0 8 1 1 0);unfold bf at hb0 k0;have c0:=k0.cell;go_enter func39,ntmps39;go_wp2_with fail;refine bodyPost_ret (v:=eQ 0 8 1 1 0) (by simp [results,results39,go_sem,c0,eQ]) rfl ?_;exact ⟨rfl,hb0⟩
end Go.Proofs.YtjmmgoijnhnnaaaGreat
