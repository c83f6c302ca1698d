/- Texts CWalkI, CSpecF, RWalkB, RSpecA, RWalkC, RWalkD. -/
import Derived.Test.YtlgcpjhimomiaaaGreatO10
set_option maxRecDepth 100000
set_option maxHeartbeats 12800000
namespace Go.Pol
open Go Go.RowKit Go.Proofs.Tryz
theorem Oa (V:Vm) (p k:Int):∀m:Nat,mem k (qZ V p m)=true↔(p<=k/\k<p+m)/\Fq V k=3
 | 0=>by
  rw [qZ,fT];simp;omega
 | m+1=>by
  rw [qZ];have ih:=Oa V p k m;by_cases h:Fq V (p+m)=3
  ·rw [if_pos h,mem_append,Bool.or_eq_true,ih,iY]
   simp only;constructor
   ·rintro (⟨h1,h2⟩|h1)
    ·exact ⟨zo,h2⟩
    ·have:k=p+m:=zo
     subst this;exact ⟨zo,h⟩
   ·rintro ⟨h1,h2⟩
    by_cases hk:k=p+m
    ·exact .inr zo
    ·exact .inl ⟨zo,h2⟩
  ·rw [if_neg h,ih]
   constructor
   ·rintro ⟨h1,h2⟩;exact ⟨zo,h2⟩
   ·rintro ⟨h1,h2⟩
    have:k≠p+m:=λe=>h (by rw [<-e];exact h2)
    exact ⟨zo,h2⟩
structure pE (L:List Nd):Prop where
 ch:jP L
 own:∀x∈L,0<=x.own
 all:∀i,i<L.length->(L.getD i nd0).all=iw (L.drop i)
 top:iw L<=1000000
theorem bf.sum {L:List Nd} (h:bf L):pE L:=by
 refine ⟨⟨h.pos,h.few,h.chain⟩,h.own,h.all,?_⟩;have h1:=h.all 0 h.pos;have h2:=h.get h.pos;rw [List.drop_zero] at h1;omega
theorem pE.Ze {L:List Nd} (h:pE L) {n:Nat} (hn:n<L.length):0<=(L.getD n nd0).all/\(L.getD n nd0).all<=1000000:=by
 have h1:=h.top;have e:=List.take_append_drop n L;rw [<-e,sI] at h1;have h2:=sZ (L:=L.take n) (λx hx=>h.own x (List.mem_of_mem_take hx));have h3:=sZ (L:=L.drop n) (λx hx=>h.own x (List.mem_of_mem_drop hx));rw [h.all n hn];omega
def qI (L:List Nd) (n i:Nat):Nat:=((jB n).take i).foldl (λb p=>if bX L p<bX L b then p else b) n
theorem Xp (n:Nat):(jB n).length=n+1:=by simp [jB]
theorem aaF (n:Nat) {i:Nat} (hi:i<n+1):(jB n)[i]? = some (n - i):=by
 unfold jB;rw [List.getElem?_reverse (by simpa using hi)];simp only [List.length_range];rw [List.getElem?_range zo];congr 1
theorem PU (L:List Nd) (n:Nat) {i:Nat} (hi:i<n+1):qI L n (i+1)=if bX L (n - i)<bX L (qI L n i) then n - i else qI L n i:=by
 unfold qI;rw [List.take_add_one,aaF n hi,Option.toList_some,List.foldl_append];rfl
theorem TB (L:List Nd) (n:Nat):qI L n (n+1)=jT L n:=by
 unfold qI jT;rw [List.take_of_length_le (by rw [Xp];exact Nat.le_refl _)]
def x8 (x:Nd):Nd:={ x with jk:=max x.jk x.all }
def x9 (L:List Nd) (n:Nat) (p:Int):List Nd:=L.mapIdx λi x=>{ x with own:=if i=n then x.own+p else x.own,all:=if i<=n then x.all+p else x.all }
theorem Kz (L:List Nd) (n:Nat) (p:Int):(x9 L n p).length=L.length:=by simp [x9]
theorem FD (L:List Nd) (n:Nat) (p:Int) (i:Nat):(x9 L n p)[i]? = (L[i]?).map λx=>{ x with own:=if i=n then x.own+p else x.own,all:=if i<=n then x.all+p else x.all }:=by unfold x9;rw [List.getElem?_mapIdx]
def rR (L:List Nd) (i:Nat):List Nd:=(L.take i).map x8++L.drop i
theorem nD (L:List Nd) (i:Nat):(rR L i).length=L.length:=by
 unfold rR;rw [List.length_append,List.length_map,List.length_take,List.length_drop];omega
theorem aaG (L:List Nd):rR L 0=L:=by simp [rR]
theorem aeI (L:List Nd):rR L L.length=L.map x8:=by unfold rR;rw [List.take_length,List.drop_length,List.append_nil]
theorem KA (L:List Nd) {i j:Nat} (hj:j<L.length):(rR L i).getD j nd0=if j<i then x8 (L.getD j nd0) else L.getD j nd0:=by
 have hg:L[j]? = some (L.getD j nd0):=by rw [List.getD_eq_getElem?_getD,List.getElem?_eq_getElem hj];rfl
 rw [List.getD_eq_getElem?_getD];unfold rR;by_cases h:j<i
 ·rw [if_pos h,List.getElem?_append_left (by rw [List.length_map,List.length_take];omega),List.getElem?_map,List.getElem?_take_of_lt h,hg]
  rfl
 ·rw [if_neg h,List.getElem?_append_right (by rw [List.length_map,List.length_take];omega),List.length_map,List.length_take,List.getElem?_drop,show i+(j - min i L.length)=j by omega,hg]
  rfl
theorem Oc {A B:List Nd} (hl:A.length=B.length) (h:∀i,i<A.length->A.getD i nd0=B.getD i nd0):A=B:=by
 apply List.ext_getElem?;intro i;by_cases hi:i<A.length
 ·have:=h i hi
  rw [List.getD_eq_getElem?_getD,List.getD_eq_getElem?_getD,List.getElem?_eq_getElem hi,List.getElem?_eq_getElem zo] at this;rw [List.getElem?_eq_getElem hi,List.getElem?_eq_getElem zo];exact congrArg some this
 ·rw [List.getElem?_eq_none zo,List.getElem?_eq_none zo]
theorem aaH (L:List Nd) {i:Nat} (_hi:i<L.length):rR L (i+1)=(rR L i).modify i x8:=by
 refine Oc (by rw [List.length_modify,nD,nD]) (λj hj=>?_);rw [nD] at hj;rw [KA L hj,List.getD_eq_getElem?_getD (l:=List.modify _ _ _),iT];have hg:(rR L i)[j]? = some ((rR L i).getD j nd0):=by rw [List.getD_eq_getElem?_getD,List.getElem?_eq_getElem (by rw [nD];exact hj)];rfl
 rw [hg,KA L hj];by_cases h:i=j
 ·subst h
  rw [if_pos zo,if_pos rfl,if_neg zo];rfl
 ·rw [if_neg h]
  by_cases h2:j<i
  ·rw [if_pos zo,if_pos h2];rfl
  ·rw [if_neg zo,if_neg h2];rfl
theorem vJ {A B:List Nd} (h:A.map Nd.own=B.map Nd.own):iw A=iw B:=by
 induction A generalizing B with
 | nil =>
  match B,h with
  | [],_=>rfl
 | cons x r ih =>
  match B,h with
  | y::s,h =>
   simp only [List.map_cons,List.cons.injEq] at h;rw [iw,iw,h.1,ih h.2]
theorem KC (L:List Nd) (i:Nat):(rR L i).map Nd.own=L.map Nd.own:=by
 unfold rR;rw [List.map_append,List.map_map,show (Nd.own∘x8)=Nd.own from rfl,<-List.map_append,List.take_append_drop]
theorem pE.pk {L:List Nd} (h:pE L) (i:Nat):pE (rR L i):=by
 have hg:∀j,j<L.length->((rR L i).getD j nd0).cl=(L.getD j nd0).cl/\((rR L i).getD j nd0).par=(L.getD j nd0).par/\((rR L i).getD j nd0).own=(L.getD j nd0).own/\((rR L i).getD j nd0).all=(L.getD j nd0).all:=λj hj=>by
  rw [KA L hj];split <;> exact ⟨rfl,rfl,rfl,rfl⟩
 refine ⟨⟨by rw [nD];exact h.ch.pos,by rw [nD];exact h.ch.few,λj hj=>?_⟩,λx hx=>?_,λj hj=>?_,?_⟩
 ·rw [nD] at hj
  rw [(hg j hj).1,(hg j hj).2.1];exact h.ch.chain j hj
 ·have:x.own∈(rR L i).map Nd.own:=List.mem_map.2 ⟨x,hx,rfl⟩
  rw [KC] at this;obtain ⟨y,hy,e⟩:=List.mem_map.1 this;rw [<-e];exact h.own y hy
 ·rw [nD] at hj
  rw [(hg j hj).2.2.2,h.all j hj];refine vJ ?_;rw [List.map_drop,List.map_drop,KC]
 ·rw [vJ (KC L i)];exact h.top
theorem Zf {L:List Nd} (hL:bf L) (n:Nat) (p:Int):(x9 L n p).map x8=rY (L.modify n λx=>{ x with own:=x.own+p }) n p:=by
 refine Oc (by rw [List.length_map,Kz,AJ,List.length_modify]) (λi hi=>?_);rw [List.length_map,Kz] at hi;have hg:L[i]? = some (L.getD i nd0):=by rw [List.getD_eq_getElem?_getD,List.getElem?_eq_getElem hi];rfl
 have hp:=hL.get hi;generalize L.getD i nd0=x at *;have hA:((x9 L n p).map x8)[i]? = some (x8 { x with own:=if i=n then x.own+p else x.own,all:=if i<=n then x.all+p else x.all }):=by
  rw [List.getElem?_map,FD,hg];rfl
 have hB:(rY (L.modify n λx=>{ x with own:=x.own+p }) n p)[i]? = some (if i<=n then tJ p (if n=i then { x with own:=x.own+p } else x) else x):=by
  exact aia
 rw [Dx hA,Dx hB];by_cases h1:i<=n
 ·rw [if_pos h1,if_pos h1]
  by_cases h2:n=i
  ·subst h2
   rw [if_pos rfl,if_pos rfl];rfl
  ·rw [if_neg h2,if_neg (λe=>h2 e.symm)];rfl
 ·rw [if_neg h1,if_neg h1,if_neg zo]
  unfold x8;simp only;rw [show max x.jk x.all=x.jk by omega]
theorem aaI {L:List Nd} (hL:bf L) (n:Nat) {p:Int} (hp:0<=p):(x9 L n (-p)).map iW=(rY (L.modify n λx=>{ x with own:=x.own - p }) n (-p)).map iW:=by
 have e:(L.modify n λx=>{ x with own:=x.own - p })=(L.modify n λx=>{ x with own:=x.own+(-p) }):=by
  congr 1
 rw [e,<-Zf hL n (-p),List.map_map];refine List.ext_getElem? (λi=>?_);rw [List.getElem?_map,List.getElem?_map,FD];cases hx:L[i]? with
 | none=>rfl
 | some x =>
  have hi:i<L.length:=(List.getElem?_eq_some_iff.1 hx).1;have hg:=hL.get hi;rw [List.getD_eq_getElem?_getD,hx] at hg;simp only [Option.getD_some] at hg;simp only [Option.map_some,Function.comp];congr 1;unfold iW x8;simp only;have:max x.jk (if i<=n then x.all + -p else x.all)=x.jk:=by split <;> omega
  rw [this]
def oH (N b:Nat) (L:List Nd) (w w':World):Prop:=ed w' N b L/\ag (zV N w) w w'
theorem oH.below {N b:Nat} {L:List Nd} {w w':World} (hB:ed w N b L) (h:Below w.heap.size w w'):oH N b L w w':=⟨hB.call h,ag.of_below h⟩
theorem zV.back {N:Nat} {w w':World} {T:Nat->Prop} (hF:ag T w w') (hT:∀k,T k->zV N w k) {k:Nat} (hk:k<w.heap.size) (h:zV N w' k):zV N w k\/¬T k/\zV N w k:=by
 by_cases ht:T k
 ·exact .inl (hT k ht)
 ·obtain ⟨h1,cs,h2⟩:=h
  refine .inr ⟨ht,h1,cs,?_⟩;have:=hF.block k hk ht;unfold af at h2 ⊢;rw [<-this];exact h2
theorem oH.trans {N b:Nat} {L L1:List Nd} {w w1 w2:World} (h:oH N b L1 w w1) (k:oH N b L w1 w2):oH N b L w w2 :=
 ⟨k.1,h.2.trans' k.2 (λi hi ht=>by
  rcases zV.back h.2 (λ_ h=>h) hi ht with h|h
  ·exact h
  ·exact h.2)⟩
theorem ed.same {w:World} {N b:Nat} {L M:List Nd} (h:ed w N b L) (e:L.map iW=M.map iW):ed w N b M:=by
 have hl:L.length=M.length:=by have:=congrArg List.length e;simpa using this
 obtain ⟨A,cap,k,r⟩:=h.ex;refine ⟨A,cap,by rw [<-hl];exact k,?_⟩;have hf:fl iW M=fl iW L:=by unfold fl;rw [List.flatMap_def,List.flatMap_def,e]
 rw [hf,<-hl];exact r
theorem ed.put {w:World} {N b:Nat} {L:List Nd} (h:ed w N b L) {i:Nat} (hi:i<L.length) :
  ∃(g cap:Nat),L.length<=cap/\cap<=maxLen/\af w b 180 #[.slice (some ⟨g,0,none⟩) L.length cap]/\zV N w g/\g<w.heap.size/\(∀(q:Nat) (v:Value),(iW (L.getD i nd0))[q]? = some v->w.cell? ⟨g,i*5+q,none⟩=some v) /\
   ∀(w':World),Below w.heap.size w w'->(∀o,w'.frozen? ⟨g,o,none⟩=false)/\∀(q:Nat) (v:Value) (f:Nd->Nd),q<5->iW (f (L.getD i nd0))=(iW (L.getD i nd0)).set q v->oH N b (L.modify i f) w (w'.setCell ⟨g,i*5+q,none⟩ v):=by
 obtain ⟨A,cap,k,r⟩:=h.ex;rcases r.2 with ⟨hv,h0⟩|⟨g,cap',cur,hv,hbs,hk,hn,hm,_,ht⟩
 ·omega
 ·cases hv
  have hkg:af w g 140 cur:=hk;refine ⟨g,cap,hn,hm,k,⟨hbs,cur,hk⟩,af.lt hk,λq v hq=>?_,λw' hw'=>⟨λo=>af.frozen (hkg.call hw') o,λq v f hq hf=>?_⟩⟩
  ·have yH:q<5:=by rw [<-uo (L.getD i nd0)];exact (List.getElem?_eq_some_iff.1 hq).1
   have h1:=yV uo nd0 L i hi q yH;rw [hq] at h1;have:=r.cells (g:=g) rfl (i*5+q) v h1;exact OC
  ·have r':=aI r hw'
   have k':=k.call hw';have hbg:b≠g:=λe=>af.vN k hkg zd e
   have F:ag (λk=>k=g) w' (w'.setCell ⟨g,i*5+q,none⟩ v):=ag.setCell (T:=λk=>k=g) (p:=⟨g,i*5+q,none⟩) (ag.refl _ _) (λ_=>rfl) _;have r2:=il (i:=i*5+q) (v:=v) r';rw [<-CK uo nd0 f q v L i hi hq hf] at r2;refine ⟨⟨some ⟨g,0,none⟩,cap,?_,?_⟩,((ag.of_below hw').trans F).mono (λi _ e=>by subst e;exact ⟨hbs,cur,hk⟩)⟩
   ·rw [List.length_modify];exact F.blk k' hbg
   ·rw [List.length_modify];exact r2
def PV (b g m cap i q:Nat) (x:Int) (W:World):Prop:=W.cell? ⟨b,0,none⟩=some (.slice (some ⟨g,0,none⟩) m cap)/\W.cell? ⟨g,i*5+q,none⟩=some (zI x)
theorem pE.amS {L:List Nd} (h:pE (L.map x8)):pE L:=by
 have hl:(L.map x8).length=L.length:=List.length_map _;have hg:∀j,j<L.length->(L.map x8).getD j nd0=x8 (L.getD j nd0):=λj hj=>by
  rw [List.getD_eq_getElem?_getD,List.getElem?_map,List.getElem?_eq_getElem hj,List.getD_eq_getElem?_getD,List.getElem?_eq_getElem hj];rfl
 have ho:(L.map x8).map Nd.own=L.map Nd.own:=by rw [List.map_map];rfl
 refine ⟨⟨by have:=h.ch.pos;omega,by have:=h.ch.few;omega,λi hi=>?_⟩,λx hx=>?_,λi hi=>?_,?_⟩
 ·have:=h.ch.chain i zo
  rw [hg i hi] at this;exact this
 ·exact h.own (x8 x) (List.mem_map.2 ⟨x,hx,rfl⟩)
 ·have:=h.all i zo
  rw [hg i hi] at this;refine this.trans (vJ ?_);rw [List.map_drop,List.map_drop,ho]
 ·rw [<-vJ ho];exact h.top
theorem KD (L:List Nd) (n:Nat) (p:Int):(x9 L n p).map iW=(L.modify n λx=>{ x with own:=x.own+p }).map iW:=by
 refine List.ext_getElem? (λi=>?_);rw [List.getElem?_map,List.getElem?_map,FD,iT];cases hx:L[i]? with
 | none =>
  by_cases h:n=i
  ·rw [if_pos h];rfl
  ·rw [if_neg h];rfl
 | some x =>
  by_cases h:n=i
  ·rw [if_pos h];simp [iW,h.symm]
  ·rw [if_neg h];simp [iW,Ne.symm h]
end Go.Pol
namespace Go.Proofs.YtlgcpjhimomiaaaGreat
open Go Go.Proofs Go.RowKit Go.Pol Go.Shelf Tryz
attribute [local go_sem] Oper.semAt_some aC au aB ai
theorem ajK {P:Prop} (h:P:=by
 have T9:=T5.fresh F9 (λk hk=>by subst hk;omega) (λk hk=>by subst hk;exact ⟨_,_,oL,zd,zd,zd,zd⟩);have oV:=hk5.far F9 (λg cs hg e=>by subst e;exact oL.ne hg zd);have SF:=lI.refl w.heap.size w9;rw [El.out];exact ⟨_,rfl,⟨A,cap,by rw [(hm).out],by rw [(hm).out];exact hcap,hcm,oV.soft SF⟩,T9.soft (Nat.le_refl _) SF⟩):P:=h
theorem ajL {P:Prop} (h:P:=by
 have T9:=T5.fresh F9 (λk hk=>by subst hk;omega) (λk hk=>by subst hk;exact ⟨_,_,oL,zd,zd,zd,zd⟩);have oV:=hk5.far F9 (λg cs hg e=>by subst e;exact oL.ne hg zd);have SF:=yK.soft MI;rw [El.out];exact ⟨_,rfl,⟨q,cq,by rw [(hsl).out],by rw [(hsl).out];exact Ca,Ae,oV.soft SF⟩,T9.soft (Nat.le_refl _) SF⟩):P:=h
theorem ajM {P:Prop} (h:P:=by
 subst h3;rw [if_neg zs] at dx;have JU:=ae dx;clear dx;go_wp2_with fail;go_roundw
 case rel=>exact ⟨k+1,jV,zo,by go_num,JU,T5,k15,Bu,oL,HD5,hk5,hr5⟩
 case measure=>exact zm):P:=h
theorem ajN {P:Prop} (h:P:=by
 intro mm l x W C hC;obtain ⟨xa,xb,xn⟩:=x;simp only [qX,List.setIfInBounds_toArray,List.set_cons_succ,List.set_cons_zero] at hC ⊢
 gi_wp2
 exact hC):P:=h
theorem aex {P:Prop} (h:P:=by
 rw [El.out];exact ⟨_,rfl,⟨none,0,rfl,Nat.le_refl _,by unfold maxLen;omega,KeptAt.none _ _⟩,T9.soft (Nat.le_refl _) SF⟩):P:=h
theorem Em (bs bb:Nat) (V:Vm) (L:List Nd) (r:Cr) (A:Option Addr) (cap:Nat) (w:World) (hV:aA w bs V) (uS:aO V) (hB:bz w bb L) (hO:bf L) (hnl:bq r=0->r.node.toNat<L.length) (hcap:r.kept.length<=cap) (hcm:cap<=maxLen) (hk:KeptAt w A r.kept) :
  Calls prog 23 #[zP bs,zP bb,.agg (aj r (.slice A r.kept.length cap))] w λe w'=>∃v,e= .returned (.tuple #[v,zI (dI V L r).2.1])/\Dc (dI V L r).1 w' v/\aR bs bb (dI V L r).2.2.1 (dI V L r).2.2.2 w w':=by
 have hr:=hk.ru;have HK:=ae (λW (h1:aA W bs V) (h2:bz W bb L) (h3:RU W W.heap.size A r.kept)=>Db bs bb V L r A cap W h1 uS h2 hO hcap hcm h3);obtain ⟨R,hR⟩:=ah (dI V L r);rw [hR];unfold dI at hR;have hz:=@fw r;have hZ:bq r=0->NV r:=hz.1;clear hz;generalize bq r=ck at *;obtain ⟨pg,n,f,bk,ev,node,live,K,cl⟩:=r;simp only at hcap hcm hr hk hR hZ HK hnl ⊢;obtain ⟨m,hm0⟩:=ah (K.length);rw [hm0] at hcap HK ⊢;have hm:=ae hm0;obtain ⟨w0,hw0,hsz,hb0,k1,k2,k3,k4⟩:=PN 42 43 28 28 #[zP bs] #[zP bb] (aj ⟨pg,n,f,bk,ev,node,live,K,cl⟩ (.slice A m cap)) (aj bD zN) w;have hr0:=ae (hr.on hb0);have kZ:=ae hk;dsimp only [aj,bD] at k3 k4 hw0 HK ⊢;clear hm0 hr hk;by_cases h0:ck=0
 case neg =>
  have h0':=gJ h0;rw [if_pos h0] at hR;subst hR;clear h0 hZ;refine bL func23 rfl ?_;simp only [ntmps23,List.size_toArray,List.length_cons,List.length_nil,Nat.reduceAdd,Nat.reduceSub,Array.replicate_succ,Array.replicate_zero,List.push_toArray,List.append_toArray,List.nil_append,List.cons_append];go_upto_region 1 with fail
  rw [<-hw0];obtain ⟨c1,c2,c3⟩:=mM k1 k2 k3;clear hw0;go_wp2_with fail;refine (HK.out _ (hV.call hb0) (hB.call hb0) hr0.out).zr λw1 hb1=>?_
  obtain ⟨k11,k21,mQ,jM⟩:=vO hb1 k1 k2 k3 k4;have B1:=hb0.zt hb1;obtain ⟨c11,c21,c31,PS⟩:=zL4 k11 k21 mQ jM;have f41:=jM.frozen;clear HK k1 k2 k3 k4 hb0 hr0 hb1 c1 c2 c3;go_wp2_with fail;change bodyPostM _ _ _ _ _ _ _ (aP w1 (w.heap.size+3) ⟨pg,n,f,bk,ev,node,live,K,cl⟩ (.slice A m cap));have aX:=aK jM ⟨pg,n,f,bk,ev,node,live,K,cl⟩ (.slice A m cap);have F9:=aL w1 (w.heap.size+3) ⟨pg,n,f,bk,ev,node,live,K,cl⟩ (.slice A m cap);generalize aP w1 (w.heap.size+3) ⟨pg,n,f,bk,ev,node,live,K,cl⟩ (.slice A m cap)=w9 at *;dsimp only [aj] at aX;have di:=aX.cell;refine iH (v:=.tuple #[.agg (aj ⟨pg,n,f,bk,ev,node,live,K,cl⟩ (.slice A m cap)),zI ck]) (by simp [results,results23,go_sem,di,aj]) ?_;have T9:=(aR.below hV hB B1).fresh F9 (λk hk=>by subst hk;omega) (λk hk=>by subst hk;exact ⟨_,_,jM,zd,zd,zd,zd⟩);exact Fp
 subst h0;rw [if_neg zs] at hR;have uG:=hZ rfl;have hp:=uG.plan;simp only at hp;obtain ⟨nn,rfl⟩:∃nn:Nat,n=nn:=⟨n.toNat,by have:=hp.n0;omega⟩;have hp0:=hp.Cv;have hpn:pg+(nn:Int)<=1024:=by have:=hp.n1;omega
 by_cases h1:cl=true
 case pos =>
  subst h1;rw [if_pos rfl] at hR;unfold gP at hR;simp only at hR;have HS:=ae (λW h=>BV bs V pg f bk ev nn W h hp0 hpn);unfold ek at HS;clear hZ uG hp;refine bL func23 rfl ?_;simp only [ntmps23,List.size_toArray,List.length_cons,List.length_nil,Nat.reduceAdd,Nat.reduceSub,Array.replicate_succ,Array.replicate_zero,List.push_toArray,List.append_toArray,List.nil_append,List.cons_append];go_upto_region 1 with fail
  rw [<-hw0];obtain ⟨c1,c2,c3⟩:=mM k1 k2 k3;clear hw0;go_wp2_with fail;refine (HK.out _ (hV.call hb0) (hB.call hb0) hr0.out).zr λw1 hb1=>?_
  obtain ⟨k11,k21,mQ,jM⟩:=vO hb1 k1 k2 k3 k4;have B1:=hb0.zt hb1;obtain ⟨c11,c21,c31,PS⟩:=zL4 k11 k21 mQ jM;have f41:=jM.frozen;clear HK k1 k2 k3 k4 hb0 hr0 hb1 c1 c2 c3;have T1:=aR.below hV hB B1;have HD1:l8 none w1:=l8.nil _;have hk1:=T1.kept hV kZ.out;obtain ⟨SL,Ib⟩:=ah (qG V pg nn);rw [Ib] at hR HS;obtain ⟨P,hP⟩:=ah (iP SL V);rw [hP] at hR;have hPh:=ae hP;have Xk:=ae hR.symm;obtain ⟨ln,Kr⟩:=ah (SL.length);rw [Kr] at HS;have hln:=ae Kr;clear Ib hP hR Kr;go_wp2_with fail;refine (HS.out _ (T1).sys).mono ?_;rintro e w2 ⟨A8,c8,rfl,hr8,hf8,hm8,hc8,hb2⟩;have T2:=(T1).aU hb2;have k12:=(k11).call hb2;have jv:=(mQ).call hb2;have ja:=(jM).call hb2;have HD2:=(HD1).call hb2;have hk2:=(hk1).call hb2;have aeB:=ae (λg o (e:A8=some ⟨g,o,none⟩)=>show ¬g=bs by have:=hf8 g o e;have:=(T1).sys.lt;omega);have aqx:ln<=9223372036854775807:=by unfold maxLen at hc8;omega
  clear HS hf8 hb2;go_wp2_with fail
  go_loopw [82] (λi wr=>∃(k:Nat) (U:Vm),k<=ln/\i = zI k/\Hid (iP (SL.drop k) U=P)/\aR bs bb U L w wr/\af wr w.heap.size 42 #[zP bs]/\af wr (w.heap.size+2) 28 #[zI pg,zI nn,zI f,zI bk,zI ev,zI node,zI live,.slice A m cap,.bool true]/\af wr (w.heap.size+3) 28 #[zI 0,zI 0,zI 0,zI 0,zI 0,zI 0,zI 0,zN,.bool false]/\l8 none wr/\KeptAt wr A K/\RU wr wr.heap.size A8 SL) (λi _=>ln - (intOf i).toNat)
  case atStart=>exact ⟨0,V,zo,rfl,ae (by simpa using hPh.out),T2,k12,jv,ja,HD2,hk2,hr8⟩
  case round =>
   clear T2 k12 jv ja HD2 hk2 hr8 hPh;obtain ⟨k,U,hk,rfl,hU,T3,k13,ny,uT,HD3,hk3,hr3⟩:=hrel;obtain ⟨c13,Pp⟩:=bB k13 ny;by_cases hlt:k<ln
   ·have hlt':decide ((k:Int)<(ln:Int))=true:=by simpa using hlt
    have Bt:k<SL.length:=by rw [hln.out];exact hlt
    obtain ⟨b8,o8,rfl,_,hc,hd⟩:=hr3.at_' Bt;have hst:Hid (iP (SL.getD k (0,0)::SL.drop (k+1)) U=P):=ae (by
     rw [<-hU.out,List.drop_eq_getElem_cons Bt,List.getD_eq_getElem?_getD,List.getElem?_eq_getElem Bt];rfl)
    generalize SL.getD k (0,0)=x at *;obtain ⟨xa,xb⟩:=x;dsimp only at hc hd;obtain ⟨J,hJ⟩:=ah (bK U xa xb 4 3 1);have dx:=hst.out;rw [iP] at dx;dsimp only at dx;rw [hJ] at dx;have HU:=ae (λW h=>sH bs xa xb U W h);rw [hJ] at HU;obtain ⟨je,jV⟩:=J;dsimp only at dx HU;have gN:=aQ wr (.cells #[zI xa,zI xb] 85);have kX:=af.new wr 85 #[zI xa,zI xb];have T4:=T3.aU gN;obtain ⟨k14,oJ,En,HD4,hk4⟩:=lM gN k13 ny uT HD3 hk3;have hr4:=hr3.on gN;obtain ⟨gx,hgx⟩:=ah (wr.heap.size);rw [hgx] at kX;obtain ⟨c14,cX⟩:=bB k14 kX;clear hU hst hJ;go_upto_region 22 with fail
    clear hc hd c13 Pp;generalize wr.alloc _=wa at *;go_wp2_with fail;refine (HU.out _ T4.sys).zr λw5 h5=>?_
    have S5:=aR.iX T4.sys T4.eO h5;have T5:=T4.trans S5;have k15:=S5.blk T4.sys k14 zd zd;have Bu:=S5.blk T4.sys oJ zd zd;have oL:=S5.blk T4.sys En zd zd;have HD5:=HD4.both T4.sys S5;have hk5:=S5.kept T4.sys hk4;have hr5:=(hr4.Y7 h5.2 (λg o e=>aeB.out g o e)).more h5.2.size;obtain ⟨Xl,c45⟩:=bB Bu oL;have f45:=oL.frozen;clear T3 k13 ny uT HD3 hk3 hr3 gN kX k14 oJ En HD4 hk4 hr4 c14 cX HU h5;by_cases h3:je=0
    ·exact ajM
    ·have h3':=gJ h3
     rw [if_pos h3] at dx;have El:=ae Xk.out;rw [<-dx,if_pos h3] at El;clear dx h3;go_wp2_with fail;change bodyPostM _ _ _ _ _ _ _ (aP w5 (w.heap.size+3) ⟨pg,nn,f,bk,ev,node,live,K,true⟩ (.slice A m cap));have aX:=aK oL ⟨pg,nn,f,bk,ev,node,live,K,true⟩ (.slice A m cap);have F9:=aL w5 (w.heap.size+3) ⟨pg,nn,f,bk,ev,node,live,K,true⟩ (.slice A m cap);generalize aP w5 (w.heap.size+3) ⟨pg,nn,f,bk,ev,node,live,K,true⟩ (.slice A m cap)=w9 at *;dsimp only [aj] at aX;have di:=aX.cell;refine iH (v:=.tuple #[.agg (aj ⟨pg,nn,f,bk,ev,node,live,K,true⟩ (.slice A m cap)),zI je]) (by simp [results,results23,go_sem,di,aj]) ?_;exact ajK
   ·obtain rfl:k=ln:=zo
    have hlt':decide ((k:Int)<(k:Int))=false:=by simp
    have yL:P=(0,U):=by rw [<-hU.out,List.drop_of_length_le (by rw [hln.out];omega)];rfl
    have ry:=Xk.out;rw [yL] at ry;dsimp only at ry;rw [if_neg zs] at ry;have HE:=ae (λW h=>xO bs pg nn U W h);obtain ⟨E,hE⟩:=ah (bK U pg nn 1 1 0);rw [hE] at ry HE;obtain ⟨ee,eV⟩:=E;dsimp only at ry HE;clear hU hE yL Xk;go_wp2_with fail;refine (HE.out _ T3.sys).zr λw5 h5=>?_
    have S5:=aR.iX T3.sys T3.eO h5;have T5:=T3.trans S5;have Bu:=S5.blk T3.sys ny zd zd;have oL:=S5.blk T3.sys uT zd zd;have HD5:=HD3.both T3.sys S5;have hk5:=S5.kept T3.sys hk3;obtain ⟨Xl,c45⟩:=bB Bu oL;have f45:=oL.frozen;clear T3 k13 ny uT HD3 hk3 hr3 c13 Pp h5 HE;by_cases h3:ee=0
    ·subst h3
     rw [if_neg zs] at ry;have El:=ae ry;clear ry;go_wp2_with fail;change bodyPostM _ _ _ _ _ _ _ (aP w5 (w.heap.size+3) bD zN);have aX:=aK oL bD zN;have F9:=aL w5 (w.heap.size+3) bD zN;generalize aP w5 (w.heap.size+3) bD zN=w9 at *;dsimp only [aj] at aX;have di:=aX.cell;refine iH (v:=.tuple #[.agg (aj bD zN),zI 0]) (by simp [results,results23,go_sem,di,aj]) ?_;have T9:=T5.fresh F9 (λk hk=>by subst hk;omega) (λk hk=>by subst hk;exact ⟨_,_,oL,zd,zd,zd,zd⟩);have SF:=lI.refl w.heap.size w9;exact aex
    ·have h3':=gJ h3
     rw [if_pos h3] at ry;have El:=ae ry;clear ry h3;go_wp2_with fail;change bodyPostM _ _ _ _ _ _ _ (aP w5 (w.heap.size+3) ⟨pg,nn,f,bk,ev,node,live,K,true⟩ (.slice A m cap));have aX:=aK oL ⟨pg,nn,f,bk,ev,node,live,K,true⟩ (.slice A m cap);have F9:=aL w5 (w.heap.size+3) ⟨pg,nn,f,bk,ev,node,live,K,true⟩ (.slice A m cap);generalize aP w5 (w.heap.size+3) ⟨pg,nn,f,bk,ev,node,live,K,true⟩ (.slice A m cap)=w9 at *;dsimp only [aj] at aX;have di:=aX.cell;refine iH (v:=.tuple #[.agg (aj ⟨pg,nn,f,bk,ev,node,live,K,true⟩ (.slice A m cap)),zI ee]) (by simp [results,results23,go_sem,di,aj]) ?_;exact ajK
 have h1':=QE h1;subst h1';clear h1;rw [if_neg zs] at hR;have hlv:=uG.C9;have hlv1:=Int.le_trans uG.Ff (AZ uG.plan);have jC:=uG.can;have hnd:=uG.node;simp only at hlv hlv1 jC hnd;obtain ⟨nd,rfl⟩:∃nd:Nat,node=nd:=⟨node.toNat,zo⟩;have NZ:=hnl rfl;rw [Int.toNat_natCast] at hR NZ;have Br:Go.Pol.Can (bJ 0 live):=mF zo hlv1;have Di:=nO (K++bJ 0 live);have HB:=ae (λW=>xW 0 live W zo zo);have HU:=ae (λW (A2:Option Addr) (c2:Nat) h1 h2 h3 h4=>zZ A A2 m cap (bJ 0 live).length c2 K (bJ 0 live) W hm.out hcap hcm h1 rfl h2 h3 h4 jC Br);generalize setOf (K++bJ 0 live)=all at *;generalize bJ 0 live=L2 at *;have Af:=Bb Di hp;have PT:=Di.len;obtain ⟨al,Eo⟩:=ah (all.length);have hal:=ae Eo;rw [Eo] at PT;unfold o7 at HU;rw [Eo] at HU;clear Eo jC Br hnl hZ uG;refine bL func23 rfl ?_;simp only [ntmps23,List.size_toArray,List.length_cons,List.length_nil,Nat.reduceAdd,Nat.reduceSub,Array.replicate_succ,Array.replicate_zero,List.push_toArray,List.append_toArray,List.nil_append,List.cons_append];go_upto_region 1 with fail
 rw [<-hw0];obtain ⟨c1,c2,c3⟩:=mM k1 k2 k3;clear hw0;go_wp2_with fail;refine (HK.out _ (hV.call hb0) (hB.call hb0) hr0.out).zr λw1 hb1=>?_
 obtain ⟨k11,k21,mQ,jM⟩:=vO hb1 k1 k2 k3 k4;have B1:=hb0.zt hb1;obtain ⟨c11,c21,c31,PS⟩:=zL4 k11 k21 mQ jM;have f41:=jM.frozen;clear HK k1 k2 k3 k4 hb0 hr0 hb1 c1 c2 c3;go_upto_region 5 with fail
 have hS:Fh (w.heap.size+2) live (.slice A m cap) w1:=⟨mQ.cell 6,mQ.cell 7⟩;have SK:=k11.call ((Below.refl _ w1).drew);have k2d:=k21.call ((Below.refl _ w1).drew);have k3d:=mQ.call ((Below.refl _ w1).drew);have k4d:=jM.call ((Below.refl _ w1).drew);have B1d:=B1.trans ((Below.refl w1.heap.size w1).drew.mono B1.size);have SN:=ae ((kZ.out.call B1d).ru);have hS:=hS.call ((Below.refl _ w1).drew);refine bT ?_;refine bM (Fh (w.heap.size+2) live (.slice A m cap)) [] zk ?_;generalize w1.drew=wd at *;clear k11 k21 mQ jM B1 c11 c21 c31 PS f41;refine aW 0 hS ?_;refine aW 1 hS ?_;refine aW 2 hS ?_;refine aW 3 hS ?_;refine gD 4 λK hK=>?_
 go_simp;refine (HB.out wd).mono ?_;rintro (e w2 ⟨A2,c2,rfl,tY,hl2,hc2,_,hb2⟩);refine hK.out _ _ (λ_=>hS.call hb2) (λhS=>?_);clear hK K;replace hS:=hS rfl;try simp only [Act.put,iE,iF,iG]
 obtain ⟨k12,k22,jv,ja⟩:=vO hb2 SK k2d k3d k4d;have B2:=B1d.zt hb2;have hr2:=SN.out.on hb2;refine gD 5 λK hK=>?_
 go_simp;refine (HU.out w2 A2 c2 hr2 hl2 hc2 tY).mono ?_;rintro (e w3 ⟨A3,c3,rfl,vz,hl3,hc3,hb3⟩);refine hK.out _ _ (λ_=>hS.call hb3) (λhS=>?_);clear hK K;replace hS:=hS rfl;try simp only [Act.put,iE,iF,iG]
 obtain ⟨k13,k23,ny,uT⟩:=vO hb3 k12 k22 jv ja;have B3:=B2.zt hb3;clear HB HU tY hl2 SK k2d k3d k4d B1d SN k12 k22 jv ja B2 hr2 hb2 hb3;refine aW 6 hS ?_;refine aW 7 hS ?_;refine aW 8 hS ?_;refine aW 9 hS ?_;refine aW 10 hS ?_;refine bE zk ?_ _;refine aS ?_;clear hS;have hk3:=vz;have kf:=af.new w3 37 #[zI 0];have gN:=aQ w3 (.cells #[zI 0] 37);obtain ⟨k14,k24,oJ,En,hk4⟩:=lM gN k13 k23 ny uT hk3;have B4:=B3.zt gN;have hgs:w.heap.size+4<=w3.heap.size:=by have:=uT.lt;omega
 obtain ⟨gf,hgf⟩:=ah (w3.heap.size);rw [hgf] at kf hgs;go_upto_region 7 with fail
 generalize w3.alloc _=w4 at *;clear k13 k23 ny uT hk3 vz B3 gN;have Sa:=ae (xL A3 al c3 all w4 hal.out zo hk4.ru);have N7:af w4 (w.heap.size+1+1) 28 #[zI pg,zI nn,zI f,zI bk,zI ev,zI nd,zI live,.slice A m cap,.bool false]:=oJ;go_upto_region 8 with (go_at_call 82;refine Sa.out.mono ?_;rintro e w5 ⟨v5,rfl,EK,hb5⟩;obtain ⟨A5,c5,rfl,hk5,hl5,Tn⟩:=KeptAt.own EK hal.out;have f35:=(N7.call hb5).frozen;have Xl:=(N7.call hb5).cell)
 have k16:=((k14.call hb5).far (p:=⟨w.heap.size+1+1,6,none⟩) (by show w.heap.size≠w.heap.size+1+1;omega) (zI 0)).far (p:=⟨w.heap.size+1+1,7,none⟩) (by show w.heap.size≠w.heap.size+1+1;omega) (.slice A5 al c5);have k26:=((k24.call hb5).far (p:=⟨w.heap.size+1+1,6,none⟩) (by show w.heap.size+1≠w.heap.size+1+1;omega) (zI 0)).far (p:=⟨w.heap.size+1+1,7,none⟩) (by show w.heap.size+1≠w.heap.size+1+1;omega) (.slice A5 al c5);have MJ:=((N7.call hb5).aM 6 (zI 0)).aM 7 (.slice A5 al c5);have Xm:=((En.call hb5).far (p:=⟨w.heap.size+1+1,6,none⟩) (by show w.heap.size+3≠w.heap.size+1+1;omega) (zI 0)).far (p:=⟨w.heap.size+1+1,7,none⟩) (by show w.heap.size+3≠w.heap.size+1+1;omega) (.slice A5 al c5);have kf6:=((kf.call hb5).far (p:=⟨w.heap.size+1+1,6,none⟩) (by show gf≠w.heap.size+1+1;omega) (zI 0)).far (p:=⟨w.heap.size+1+1,7,none⟩) (by show gf≠w.heap.size+1+1;omega) (.slice A5 al c5);have F6:ag (λk=>k=w.heap.size+1+1) w5 ((w5.setCell ⟨w.heap.size+1+1,6,none⟩ (zI 0)).setCell ⟨w.heap.size+1+1,7,none⟩ (.slice A5 al c5)):=ag.setCell (T:=λk=>k=w.heap.size+1+1) (p:=⟨w.heap.size+1+1,7,none⟩) (ag.setCell (T:=λk=>k=w.heap.size+1+1) (p:=⟨w.heap.size+1+1,6,none⟩) (ag.refl _ w5) (λ_=>rfl) (zI 0)) (λ_=>rfl) (.slice A5 al c5);have ajO:=hk5.far F6 (λg cs hg e=>by subst e;exact (N7.call hb5).ne hg zd);have ajP:=(hk4.call hb5).far F6 (λg cs hg e=>by subst e;exact (N7.call hb5).ne hg zd);have B6:=(B4.zt hb5).setCell (p:=⟨w.heap.size+1+1,6,none⟩) (by show w.heap.size<=w.heap.size+1+1;omega) (zI 0) |>.setCell (p:=⟨w.heap.size+1+1,7,none⟩) (by show w.heap.size<=w.heap.size+1+1;omega) (.slice A5 al c5)
 generalize (w5.setCell ⟨w.heap.size+1+1,6,none⟩ (zI 0)).setCell ⟨w.heap.size+1+1,7,none⟩ (.slice A5 al c5)=w6 at *;simp only [List.setIfInBounds_toArray,List.set_cons_zero,List.set_cons_succ] at MJ;have c36:=MJ.cell;have hg6:gf<w6.heap.size:=kf6.lt;clear k14 k24 oJ N7 En hk4 B4 hk5 EK f35 Xl F6 Sa hb5;have Dj:=below_alloc2 (aQ w6 (.cells (aj ⟨pg,nn,f,bk,ev,nd,0,all,false⟩ (.slice A5 al c5)) 28)) (.cells #[.slice A3 al c3] 26);have kB1:=(af.new w6 28 (aj ⟨pg,nn,f,bk,ev,nd,0,all,false⟩ (.slice A5 al c5))).dV (.cells #[.slice A3 al c3] 26);have kB2:=af.oG w6 (.cells (aj ⟨pg,nn,f,bk,ev,nd,0,all,false⟩ (.slice A5 al c5)) 28) 26 #[.slice A3 al c3];have wY:=ae (GG _ (.slice A5 al c5) ⟨pg,nn,f,bk,ev,nd,0,all,false⟩ w6 rfl A3 al c3);dsimp only [aj] at Dj kB1 kB2 wY
 go_wp2_with (go_at_call 73;refine wY.out.mono ?_;rintro e w7 ⟨rfl,hw7⟩)
 rw [<-hw7] at Dj kB1 kB2 ⊢;obtain ⟨B1,hB1⟩:=ah (w6.heap.size);rw [hB1] at kB1 kB2 hg6;obtain ⟨k17,k27,uR,Ie,kf7,ajQ,Zc⟩:=zC7 Dj k16 k26 MJ Xm kf6 ajO ajP;have B7:=B6.zt Dj;have hsB:w.heap.size+4<=B1:=zo;have aqz:bs<B1:=by have:=hV.lt;omega
 have Ty:=ae (Ee ⟨pg,nn,f,bk,ev,nd,0,all,false⟩ (.slice A5 al c5) B1 (B1+1) A3 al c3 all (λk=>k=B1\/k=B1+1\/(all≠[]/\∃o,A3=some ⟨k,o,none⟩)) w7 hp Di hal.out hl3 hc3 (.inl rfl) (.inr (.inl rfl)) (λhn g o e=>.inr (.inr ⟨hn,o,e⟩)) kB1 kB2 Zc.ru);have Zd:∀k,(k=B1\/k=B1+1\/(all≠[]/\∃o,A3=some ⟨k,o,none⟩))->k<w7.heap.size:=λk hk=>by
  rcases hk with rfl|rfl|⟨hn,o,e⟩
  ·exact kB1.lt
  ·exact kB2.lt
  ·obtain ⟨cs,hc⟩:=Zc.block hn e
   exact hc.lt
 clear k16 k26 MJ Xm kf6 ajO ajP B6 Dj hw7 c36 wY;simp only at Ty;obtain ⟨XS,hXS⟩:=ah (bW all 0 (ay pg (nn:Int) f bk ev));rw [hXS] at Ty hR Af;clear hXS;simp only [hB1];have ajR:mK w7 (w.heap.size+1+1) ⟨pg,nn,f,bk,ev,nd,0,all,false⟩:=⟨A5,c5,by simp only;rw [hal.out];exact uR,ajQ,by simp only;rw [hal.out];exact hl5,Tn⟩;refine Tk 12 45 159 (by rfl) yB Ty.out rfl Zd
  (λpre W=>∃S,Hid (pre.foldl (dA nd) (V,L,all,0)=S)/\aR bs bb S.1 S.2.1 w W/\af W w.heap.size 42 #[zP bs]/\af W (w.heap.size+1) 43 #[zP bb]/\mK W (w.heap.size+1+1) ⟨pg,nn,f,bk,ev,nd,0,S.2.2.1,false⟩/\af W (w.heap.size+3) 28 #[zI 0,zI 0,zI 0,zI 0,zI 0,zI 0,zI 0,zN,.bool false]/\af W gf 37 #[zI S.2.2.2]/\(∃cs,af W B1 28 cs)/\(∃cs,af W (B1+1) 26 cs)/\KeptAt W A3 all)
  (λ_ _ _=>False) ?hI (λ_ _ _ _ h _=>h.elim) ⟨_,ae rfl,.below hV hB B7,k17,k27,ajR,Ie,kf7,⟨_,kB1⟩,⟨_,kB2⟩,Zc⟩ ?assign ?body ?done (λ_ _ _ _ _ h _=>h.elim)
 case hI =>
  rintro pre WA WB ⟨S,h1,h2,h3,h4,h5,h6,h7,⟨c8,h8⟩,⟨c9,h9⟩,h10⟩ hs;have hN:w.heap.size<=w7.heap.size:=B7.size;exact ⟨S,h1,h2.soft hN hs,hs.blk h3,hs.blk h4,h5.soft hs,hs.blk h6,hs.blk h7,⟨c8,hs.blk h8⟩,⟨c9,hs.blk h9⟩,h10.soft hs⟩
 case assign =>
  exact ajN
 case body =>
  rintro mm l X pre x Bx W hs2 hX hD hE ⟨S,hS,T1,k1,k2,uH,k4,kf,⟨c8,Ep⟩,⟨c9,Er⟩,TA⟩ kx hpre;simp only [List.setIfInBounds_toArray,List.set_cons_succ,List.set_cons_zero];have kK:=Af x (hpre.subset zs);have hfo:=Eg pre (V,L,all,0) (λy hy=>Af y (hpre.subset (by simp [hy]))) hO NZ Di;rw [hS.out] at hfo;have hst:Hid ((pre++[x]).foldl (dA nd) (V,L,all,0)=dA nd S x):=ae (by rw [List.foldl_append,hS.out];rfl);unfold dA at hst;obtain ⟨xa,xb,xn⟩:=x;obtain ⟨SV,SL,Sk,Sf⟩:=S;simp only at T1 uH kf hfo hst kK;obtain ⟨q,cq,k3,hk3,Ca,Ae⟩:=uH.ex;simp only at k3 hk3 Ca;obtain ⟨sl,hsl0⟩:=ah (Sk.length);have hsl:=ae hsl0;rw [hsl0] at k3 Ca;have Ej:∀k t cs,af W k t cs->t≠85->t≠26->(t=28->k≠B1)->¬((k=B1\/k=B1+1\/(all≠[]/\∃o,A3=some ⟨k,o,none⟩))\/X k\/k=w7.heap.size\/k=w7.heap.size+1):=by
   intro k t cs hb h1 h2 h3 hz;rcases hz with (h|h|⟨hn,o,h⟩)|h|h|h
   ·by_cases e:t=28
    ·exact h3 e h
    ·subst h;exact hb.ne Ep e
   ·subst h;exact hb.ne Er h2
   ·obtain ⟨cs',hc'⟩:=TA.block hn h;exact hb.ne hc' h1
   ·obtain ⟨cs',hc'⟩:=hX k h;exact hb.ne hc' h1
   ·subst h;exact hD _ _ hb
   ·subst h;exact hE _ _ hb
  have noT:∀k,(mJ W bs bb k\/k=w.heap.size+1+1\/k=gf)->¬((k=B1\/k=B1+1\/(all≠[]/\∃o,A3=some ⟨k,o,none⟩))\/X k\/k=w7.heap.size\/k=w7.heap.size+1):=by
   rintro k ((rfl|⟨_,cs,hc⟩)|rfl|rfl)
   ·obtain ⟨cs,hc⟩:=T1.sys.typed
    exact Ej _ _ _ hc zd zd (λh=>absurd h zd)
   ·exact Ej _ _ _ hc zd zd (λh=>absurd h zd)
   ·exact Ej _ _ _ k3 zd zd (λ_=>by omega)
   ·exact Ej _ _ _ kf zd zd (λh=>absurd h zd)
  have N8:=ae noT;have aqA:=ae TA;clear Ej noT hD hE hX hsl0 hS uH;have Xn:=ae (λW h=>vT bs xa xb SV W h);obtain ⟨J,hJ⟩:=ah (bK SV xa xb 3 2 1);rw [hJ] at Xn hst;obtain ⟨je,jV⟩:=J;simp only at Xn hst;obtain ⟨c1,cx⟩:=bB k1 kx;clear hJ
  gi_wp2_with fail
  refine (callsIn_wide.2 (Xn.out _ T1.sys)).zr λw1 h1=>?_
  have S1:=aR.iX T1.sys T1.eO h1;have k12:=S1.blk T1.sys k1 zd zd;have k22:=S1.blk T1.sys k2 zd zd;have jv:=S1.blk T1.sys k3 zd zd;have ja:=S1.blk T1.sys k4 zd zd;have Fz:=S1.blk T1.sys kf zd zd;have gY:=S1.blk T1.sys kx zd zd;have BH:=S1.blk T1.sys Ep zd zd;have zn:=S1.blk T1.sys Er zd zd;have Ku:=S1.kept T1.sys hk3;have N9:=S1.kept T1.sys aqA.out;by_cases hj0:je=0
  ·subst hj0
   rw [if_pos rfl] at hst;have dx:=ae hst.out;have HG:=ae (λW h=>CP bb nd xb SL W h hfo.1 hfo.2.1);have HM:=ae (λW A2 h h2=>vI q A2 sl cq 1 1 Sk [(xn,xb)] W hsl.out Ca Ae h rfl (Nat.le_refl _) (by unfold maxLen;omega) h2 hfo.2.2 (Can.one kK));unfold o7 at HM;generalize az Sk (aZ [(xn,xb)] (0,1024))=MK at *;generalize jb SL nd xb=G at *;obtain ⟨c22,c32,U3⟩:=mM k22 jv gY;clear c1 cx k1 k2 k3 k4 kf kx Ep Er TA hk3 hst Xn
   gi_wp2_with fail
   refine (callsIn_wide.2 (HG.out _ S1.eO)).zr λw2 h2=>?_
   have S2:=S1.trans (aR.mU S1.sys h2);have S2':=aR.mU S1.sys h2;have k13:=S2'.blk S1.sys k12 zd zd;have k23:=S2'.blk S1.sys k22 zd zd;have ny:=S2'.blk S1.sys jv zd zd;have uT:=S2'.blk S1.sys ja zd zd;have kf3:=S2'.blk S1.sys Fz zd zd;have lH:=S2'.blk S1.sys gY zd zd;have wL:=S2'.blk S1.sys BH zd zd;have YP:=S2'.blk S1.sys zn zd zd;have ajS:=S2'.kept S1.sys Ku;have ajT:=S2'.kept S1.sys N9;clear k12 k22 jv ja Fz gY BH zn Ku N9 c22 c32 U3 S2' h1 h2 S1 HG
   gi_upto_region 13 with fail
   have hS:PO (w.heap.size+1+1) (.slice q sl cq) Bx (zI xa) (zI xb) (zI xn) w2:=⟨ny.cell 7,lH.cell 0,lH.cell 1,lH.cell 2⟩;have hbd:=(Below.refl w2.heap.size w2).drew;have S3:=S2.aU hbd;obtain ⟨k14,k24,oJ,En,SG,RX,ajU,ajV,ajW,hS⟩:=an6 hbd k13 k23 ny uT kf3 wL YP ajS ajT hS;refine Md ?_;refine Ji (PO (w.heap.size+1+1) (.slice q sl cq) Bx (zI xa) (zI xb) (zI xn)) [6,7,8,9] zk zk ?hlo ?_
   case hlo=>rintro ⟨a,w,h⟩;exact h
   generalize w2.drew=wd at *;clear k13 k23 ny uT kf3 lH wL YP ajS ajT S2 hbd;refine aW 0 hS ?_;refine aW 1 hS ?_;refine aW 2 hS ?_;refine gD 3 λK hK=>?_
   go_simp;refine ((Ec xa xb xn wd)).mono ?_;rintro (e w4 ⟨g4,rfl,Tg,hg4,hb4⟩);refine hK.out _ _ (λ_=>hS.call hb4) (λhS=>?_);clear hK K;replace hS:=hS rfl;try simp only [Act.put,iE,iF,iG]
   have HM4:=ae (HM.out w4 _ (ajV.call hb4).ru Tg);rw [show sl=sl from rfl] at HM4;refine gD 4 λK hK=>?_
   go_simp;refine (HM4.out).mono ?_;rintro (e w5 ⟨Kv,FC,rfl,aqC,aqD,amQ,ajX⟩);refine hK.out _ _ (λ_=>hS.call ajX) (λhS=>?_);clear hK K;replace hS:=hS rfl;try simp only [Act.put,iE,iF,iG]
   have Tp:=hb4.zt ajX;have S5:=S3.aU Tp;obtain ⟨k15,k25,Bu,oL,PL,ajY,ajZ,aj0⟩:=zC8 Tp k14 k24 oJ En SG RX ajU ajW;refine aW 5 hS ?_;refine ig 6 ?_;refine ig 7 ?_;refine ig 8 ?_;have Xl:=Bu.cell;have f35:=Bu.frozen;refine gD 9 λK hK=>?_
   go_simp;refine hK.out _ _ (λh=>absurd h zd) (λ_=>?_);clear hK K;refine bE zk ?_ _;refine aS ?_;have FS:=ag.setCell (T:=λk=>k=w.heap.size+1+1) (p:=⟨w.heap.size+1+1,7,none⟩) (ag.refl _ w5) (λ_=>rfl) (.slice Kv MK.length FC);have T6:=(T1.trans S5).fresh FS (λk hk=>by rw [hk];omega) (λk hk=>by rw [hk];exact ⟨_,_,Bu,zd,zd,zd,zd⟩);have FF:ag (λk=>mJ W bs bb k\/k=w.heap.size+1+1\/k=gf) W (w5.setCell ⟨w.heap.size+1+1,7,none⟩ (.slice Kv MK.length FC)):=(S5.far.mono (λ_ _ h=>.inl h)).trans' FS (λ_ _ h=>.inr (.inl h));have k16:=k15.far (p:=⟨w.heap.size+1+1,7,none⟩) (by show w.heap.size≠w.heap.size+1+1;omega) (.slice Kv MK.length FC);have k26:=k25.far (p:=⟨w.heap.size+1+1,7,none⟩) (by show w.heap.size+1≠w.heap.size+1+1;omega) (.slice Kv MK.length FC);have MJ:=Bu.aM 7 (.slice Kv MK.length FC);have Xm:=oL.far (p:=⟨w.heap.size+1+1,7,none⟩) (by show w.heap.size+3≠w.heap.size+1+1;omega) (.slice Kv MK.length FC);have kf6:=PL.far (p:=⟨w.heap.size+1+1,7,none⟩) (by show gf≠w.heap.size+1+1;omega) (.slice Kv MK.length FC);have aqE:=ajY.far (p:=⟨w.heap.size+1+1,7,none⟩) (by show B1≠w.heap.size+1+1;omega) (.slice Kv MK.length FC);have aqF:=ajZ.far (p:=⟨w.heap.size+1+1,7,none⟩) (by show B1+1≠w.heap.size+1+1;omega) (.slice Kv MK.length FC);have wZ:=aqC.far FS (λg cs hg e=>by subst e;exact Bu.ne hg zd);have aqG:=aj0.far FS (λg cs hg e=>by subst e;exact Bu.ne hg zd);generalize w5.setCell ⟨w.heap.size+1+1,7,none⟩ (.slice Kv MK.length FC)=w6' at *;simp only [List.setIfInBounds_toArray,List.set_cons_zero,List.set_cons_succ] at MJ;clear k14 k24 oJ En SG RX ajU ajV ajW k15 k25 Bu oL PL ajY ajZ aj0 Xl f35 HM HM4 hS FS
   gi_wp2_with fail
   exact ⟨FF.mono (λk _ h=>N8.out k h),_,dx,T6,k16,k26,⟨Kv,FC,MJ,wZ,aqD,amQ⟩,Xm,kf6,⟨_,aqE⟩,⟨_,aqF⟩,aqG⟩
  ·have aqH:=lV hj0
   rw [if_neg hj0] at hst;have cf2:=Fz.cell;have ff2:=Fz.frozen;have FFs:=S1.far.mono (λ_ _ h=>.inl h:∀k,k<W.heap.size->mJ W bs bb k->(mJ W bs bb k\/k=w.heap.size+1+1\/k=gf));clear c1 cx k1 k2 k3 k4 kf kx Ep Er TA hk3 Xn h1;by_cases qN:Sf=0
   ·subst qN
    rw [if_pos rfl] at hst;have dx:=ae hst.out;clear hst
    gi_wp2_with fail
    have FS:=ag.setCell (T:=λk=>k=gf) (p:=⟨gf,0,none⟩) (ag.refl _ w1) (λ_=>rfl) (zI je);have T6:=(T1.trans S1).fresh FS (λk hk=>by rw [hk];omega) (λk hk=>by rw [hk];exact ⟨_,_,Fz,zd,zd,zd,zd⟩);refine ⟨(FFs.trans' FS (λ_ _ h=>.inr (.inr h))).mono (λk _ h=>N8.out k h),_,dx,T6,k12.far (by show w.heap.size≠gf;omega) _,k22.far (by show w.heap.size+1≠gf;omega) _,⟨q,cq,?_,Ku.far FS (λg cs hg e=>by subst e;exact Fz.ne hg zd),by simp only;rw [hsl.out];exact Ca,Ae⟩,ja.far (by show w.heap.size+3≠gf;omega) _,Fz.aM 0 (zI je),⟨_,BH.far (by show B1≠gf;omega) _⟩,⟨_,zn.far (by show B1+1≠gf;omega) _⟩,N9.far FS (λg cs hg e=>by subst e;exact Fz.ne hg zd)⟩;simp only;rw [hsl.out];exact jv.far (by show w.heap.size+1+1≠gf;omega) _
   ·have ab4:=lV qN
    rw [if_neg qN] at hst;have dx:=ae hst.out;clear hst qN
    gi_wp2_with fail
    exact ⟨FFs.mono (λk _ h=>N8.out k h),_,dx,T1.trans S1,k12,k22,⟨q,cq,by simp only;rw [hsl.out];exact jv,Ku,by simp only;rw [hsl.out];exact Ca,Ae⟩,ja,Fz,⟨_,BH⟩,⟨_,zn⟩,N9⟩
 case done =>
  rintro W hs2 ⟨S,hS,T1,k1,k2,uH,k4,kf,_,_,_⟩ hd;rw [hS.out] at hR;obtain ⟨SV,SLx,Sk,Sf⟩:=S;simp only at T1 uH kf hR;obtain ⟨q,cq,k3,hk3,Ca,Ae⟩:=uH.ex;simp only at k3 hk3 Ca;obtain ⟨sl,hsl0⟩:=ah (Sk.length);have hsl:=ae hsl0;rw [hsl0] at k3 Ca;have MI:w.heap.size<=w7.heap.size:=B7.size;have HD0:l8 (some w7.heap.size) W:=λD e=>by cases e;exact hd
  generalize w7.heap.size=D at *;clear hsl0 hS uH Ty Zd k17 k27 uR Ie kf7 ajQ Zc B7 ajR hd hs2;have cf:=kf.cell;by_cases qN:Sf=0
  case neg =>
   have ab4:=gJ qN;rw [if_pos qN] at hR;have El:=ae hR.symm;clear hR qN;have f4:=k4.frozen;go_upto_region 17 with fail
   have hbd:=(Below.refl W.heap.size W).drew;have T2:=T1.aU hbd;obtain ⟨jv,ja,Fz,Ku,HD2⟩:=lM hbd k3 k4 kf hk3 HD0;refine bT ?_;refine bM (Xe (w.heap.size+1+1) ⟨pg,nn,f,bk,ev,nd,0,Sk,false⟩ (.slice q sl cq) gf Sf) [3] zk ?_;generalize W.drew=wd at *;have hS:Xe (w.heap.size+1+1) ⟨pg,nn,f,bk,ev,nd,0,Sk,false⟩ (.slice q sl cq) gf Sf wd:=Xe.of jv Fz;dsimp only [Xe] at hS ⊢;clear k3 k4 kf hk3 HD0 f4 cf T1;refine aW 0 hS ?_;refine aW 1 hS ?_;have c42:=ja.cell;have f42:=ja.frozen;have aX:=aK ja ⟨pg,nn,f,bk,ev,nd,0,Sk,false⟩ (.slice q sl cq);have F9:=aL wd (w.heap.size+3) ⟨pg,nn,f,bk,ev,nd,0,Sk,false⟩ (.slice q sl cq);have yI:=F9.blk jv (by show ¬w.heap.size+1+1=w.heap.size+3;omega);have kf9:=F9.blk Fz (by show ¬gf=w.heap.size+3;omega);have yK:=HD2.far F9 (λk hk=>by rw [hk];exact ⟨_,_,ja⟩);have T9:=T2.fresh F9 (λk hk=>by rw [hk];omega) (λk hk=>by rw [hk];exact ⟨_,_,ja,zd,zd,zd,zd⟩);have oV:=Ku.far F9 (λg cs hg e=>by subst e;exact ja.ne hg zd);refine gD 2 λK hK=>?_
   go_simp;refine hK.out _ (aP wd (w.heap.size+3) ⟨pg,nn,f,bk,ev,nd,0,Sk,false⟩ (.slice q sl cq)) (λ_=>Xe.of yI kf9) (λ_=>?_);clear hK K hS c42 f42 jv ja Fz Ku HD2;generalize aP wd (w.heap.size+3) ⟨pg,nn,f,bk,ev,nd,0,Sk,false⟩ (.slice q sl cq)=w9 at *;try simp only [Act.put,iE,iF,iG]
   refine ig 3 ?_;refine bE zk ?_ _;refine aS ?_;go_wp2_with fail;have Kw:=(ag.putObj (T:=λk=>k=D) (ag.refl _ w9) (λ_=>rfl) (.deferred none)).blk aX (λe=>l7 (yK _ rfl) (λ_ _ _ h=>by cases h) _ _ (e ▸ aX));dsimp only [aj] at Kw;have Xo:=Kw.cell;refine dF (v:=.tuple #[.agg (aj ⟨pg,nn,f,bk,ev,nd,0,Sk,false⟩ (.slice q sl cq)),zI Sf]) (yK _ rfl) (by simp [results,results23,go_sem,Xo,aj]) ?_;have SF:=yK.soft MI;rw [El.out];exact ⟨_,rfl,⟨q,cq,by rw [hsl.out],by rw [hsl.out];exact Ca,Ae,oV.soft SF⟩,T9.soft (Nat.le_refl _) SF⟩
  subst qN;rw [if_neg zs] at hR;unfold gP at hR;simp only at hR;have HS:=ae (λW h=>BV bs SV pg f bk ev nn W h hp0 hpn);unfold ek at HS;obtain ⟨c3,c1⟩:=bB k3 k1;have f3:=k3.frozen;go_upto_region 19 with fail
  have FS:=ag.setCell (T:=λk=>k=w.heap.size+1+1) (p:=⟨w.heap.size+1+1,8,none⟩) (ag.refl _ W) (λ_=>rfl) (.bool true);have Tt:=T1.fresh FS (λk hk=>by rw [hk];omega) (λk hk=>by rw [hk];exact ⟨_,_,k3,zd,zd,zd,zd⟩);have kt1:=k1.far (p:=⟨w.heap.size+1+1,8,none⟩) (by show w.heap.size≠w.heap.size+1+1;omega) (.bool true);have kt3:af (W.setCell ⟨w.heap.size+1+1,8,none⟩ (.bool true)) (w.heap.size+2) 28 _:=k3.aM 8 (.bool true);have kt4:=k4.far (p:=⟨w.heap.size+1+1,8,none⟩) (by show w.heap.size+3≠w.heap.size+1+1;omega) (.bool true);have HDt:=HD0.far FS (λk hk=>by rw [hk];exact ⟨_,_,k3⟩);have hkt:=hk3.far FS (λg cs hg e=>by subst e;exact k3.ne hg zd);generalize W.setCell ⟨w.heap.size+1+1,8,none⟩ (.bool true)=wt at *;simp only [List.setIfInBounds_toArray,List.set_cons_zero,List.set_cons_succ] at kt3;obtain ⟨ct1,ct3⟩:=bB kt1 kt3;clear T1 k1 k3 k4 kf hk3 HD0 FS c1 c3 f3 cf;obtain ⟨SL,Ib⟩:=ah (qG SV pg nn);rw [Ib] at hR HS;obtain ⟨P,hP⟩:=ah (iP SL SV);rw [hP] at hR;have hPh:=ae hP;have Xk:=ae hR.symm;obtain ⟨ln,Kr⟩:=ah (SL.length);rw [Kr] at HS;have hln:=ae Kr;clear Ib hP hR Kr;go_wp2_with fail;refine (HS.out _ (Tt).sys).mono ?_;rintro e w2 ⟨A8,c8,rfl,hr8,hf8,hm8,hc8,hb2⟩;have T2:=(Tt).aU hb2;have k12:=(kt1).call hb2;have jv:=(kt3).call hb2;have ja:=(kt4).call hb2;have HD2:=(HDt).call hb2;have hk2:=(hkt).call hb2;have aeB:=ae (λg o (e:A8=some ⟨g,o,none⟩)=>show ¬g=bs by have:=hf8 g o e;have:=(Tt).sys.lt;omega);have aqx:ln<=9223372036854775807:=by unfold maxLen at hc8;omega
  clear HS hf8 hb2;go_wp2_with fail
  go_loopw [82] (λi wr=>∃(k:Nat) (U:Vm),k<=ln/\i = zI k/\Hid (iP (SL.drop k) U=P)/\aR bs bb U SLx w wr/\af wr w.heap.size 42 #[zP bs]/\af wr (w.heap.size+2) 28 #[zI pg,zI nn,zI f,zI bk,zI ev,zI (nd:Int),zI 0,.slice q sl cq,.bool true]/\af wr (w.heap.size+3) 28 #[zI 0,zI 0,zI 0,zI 0,zI 0,zI 0,zI 0,zN,.bool false]/\l8 (some D) wr/\KeptAt wr q Sk/\RU wr wr.heap.size A8 SL) (λi _=>ln - (intOf i).toNat)
  case atStart=>exact ⟨0,SV,zo,rfl,ae (by simpa using hPh.out),T2,k12,jv,ja,HD2,hk2,hr8⟩
  case round =>
   clear T2 k12 jv ja HD2 hk2 hr8 hPh;obtain ⟨k,U,hk,rfl,hU,T3,k13,ny,uT,HD3,hk3,hr3⟩:=hrel;obtain ⟨c13,Pp⟩:=bB k13 ny;by_cases hlt:k<ln
   ·have hlt':decide ((k:Int)<(ln:Int))=true:=by simpa using hlt
    have Bt:k<SL.length:=by rw [hln.out];exact hlt
    obtain ⟨b8,o8,rfl,_,hc,hd⟩:=hr3.at_' Bt;have hst:Hid (iP (SL.getD k (0,0)::SL.drop (k+1)) U=P):=ae (by
     rw [<-hU.out,List.drop_eq_getElem_cons Bt,List.getD_eq_getElem?_getD,List.getElem?_eq_getElem Bt];rfl)
    generalize SL.getD k (0,0)=x at *;obtain ⟨xa,xb⟩:=x;dsimp only at hc hd;obtain ⟨J,hJ⟩:=ah (bK U xa xb 4 3 1);have dx:=hst.out;rw [iP] at dx;dsimp only at dx;rw [hJ] at dx;have HU:=ae (λW h=>sH bs xa xb U W h);rw [hJ] at HU;obtain ⟨je,jV⟩:=J;dsimp only at dx HU;have gN:=aQ wr (.cells #[zI xa,zI xb] 85);have kX:=af.new wr 85 #[zI xa,zI xb];have T4:=T3.aU gN;obtain ⟨k14,oJ,En,HD4,hk4⟩:=lM gN k13 ny uT HD3 hk3;have hr4:=hr3.on gN;obtain ⟨gx,hgx⟩:=ah (wr.heap.size);rw [hgx] at kX;obtain ⟨c14,cX⟩:=bB k14 kX;clear hU hst hJ;go_upto_region 22 with fail
    clear hc hd c13 Pp;generalize wr.alloc _=wa at *;go_wp2_with fail;refine (HU.out _ T4.sys).zr λw5 h5=>?_
    have S5:=aR.iX T4.sys T4.eO h5;have T5:=T4.trans S5;have k15:=S5.blk T4.sys k14 zd zd;have Bu:=S5.blk T4.sys oJ zd zd;have oL:=S5.blk T4.sys En zd zd;have HD5:=HD4.both T4.sys S5;have hk5:=S5.kept T4.sys hk4;have hr5:=(hr4.Y7 h5.2 (λg o e=>aeB.out g o e)).more h5.2.size;obtain ⟨Xl,c45⟩:=bB Bu oL;have f45:=oL.frozen;clear T3 k13 ny uT HD3 hk3 hr3 gN kX k14 oJ En HD4 hk4 hr4 c14 cX HU h5;by_cases h3:je=0
    ·exact ajM
    ·have h3':=gJ h3
     rw [if_pos h3] at dx;have El:=ae Xk.out;rw [<-dx,if_pos h3] at El;clear dx h3;go_wp2_with fail;change bodyPostM _ _ _ _ _ _ _ (aP w5 (w.heap.size+3) ⟨pg,nn,f,bk,ev,(nd:Int),0,Sk,true⟩ (.slice q sl cq));have aX:=aK oL ⟨pg,nn,f,bk,ev,(nd:Int),0,Sk,true⟩ (.slice q sl cq);have F9:=aL w5 (w.heap.size+3) ⟨pg,nn,f,bk,ev,(nd:Int),0,Sk,true⟩ (.slice q sl cq);have yK:=HD5.far F9 (λk hk=>by rw [hk];exact ⟨_,_,oL⟩);generalize aP w5 (w.heap.size+3) ⟨pg,nn,f,bk,ev,(nd:Int),0,Sk,true⟩ (.slice q sl cq)=w9 at *;have Kw:=(ag.putObj (T:=λk=>k=D) (ag.refl _ w9) (λ_=>rfl) (.deferred none)).blk aX (λe=>l7 (yK _ rfl) (λ_ _ _ h=>by cases h) _ _ (e ▸ aX));dsimp only [aj] at Kw;have Xo:=Kw.cell;refine dF (v:=.tuple #[.agg (aj ⟨pg,nn,f,bk,ev,(nd:Int),0,Sk,true⟩ (.slice q sl cq)),zI je]) (yK _ rfl) (by simp [results,results23,go_sem,Xo,aj]) ?_;exact ajL
   ·obtain rfl:k=ln:=zo
    have hlt':decide ((k:Int)<(k:Int))=false:=by simp
    have yL:P=(0,U):=by rw [<-hU.out,List.drop_of_length_le (by rw [hln.out];omega)];rfl
    have ry:=Xk.out;rw [yL] at ry;dsimp only at ry;rw [if_neg zs] at ry;have HE:=ae (λW h=>xO bs pg nn U W h);obtain ⟨E,hE⟩:=ah (bK U pg nn 1 1 0);rw [hE] at ry HE;obtain ⟨ee,eV⟩:=E;dsimp only at ry HE;clear hU hE yL Xk;go_wp2_with fail;refine (HE.out _ T3.sys).zr λw5 h5=>?_
    have S5:=aR.iX T3.sys T3.eO h5;have T5:=T3.trans S5;have Bu:=S5.blk T3.sys ny zd zd;have oL:=S5.blk T3.sys uT zd zd;have HD5:=HD3.both T3.sys S5;have hk5:=S5.kept T3.sys hk3;obtain ⟨Xl,c45⟩:=bB Bu oL;have f45:=oL.frozen;clear T3 k13 ny uT HD3 hk3 hr3 c13 Pp h5 HE;by_cases h3:ee=0
    ·subst h3
     rw [if_neg zs] at ry;have El:=ae ry;clear ry;go_wp2_with fail;change bodyPostM _ _ _ _ _ _ _ (aP w5 (w.heap.size+3) bD zN);have aX:=aK oL bD zN;have F9:=aL w5 (w.heap.size+3) bD zN;have yK:=HD5.far F9 (λk hk=>by rw [hk];exact ⟨_,_,oL⟩);generalize aP w5 (w.heap.size+3) bD zN=w9 at *;have Kw:=(ag.putObj (T:=λk=>k=D) (ag.refl _ w9) (λ_=>rfl) (.deferred none)).blk aX (λe=>l7 (yK _ rfl) (λ_ _ _ h=>by cases h) _ _ (e ▸ aX));dsimp only [aj] at Kw;have Xo:=Kw.cell;refine dF (v:=.tuple #[.agg (aj bD zN),zI 0]) (yK _ rfl) (by simp [results,results23,go_sem,Xo,aj]) ?_;have T9:=T5.fresh F9 (λk hk=>by subst hk;omega) (λk hk=>by subst hk;exact ⟨_,_,oL,zd,zd,zd,zd⟩);have SF:=yK.soft MI;exact aex
    ·have h3':=gJ h3
     rw [if_pos h3] at ry;have El:=ae ry;clear ry h3;go_wp2_with fail;change bodyPostM _ _ _ _ _ _ _ (aP w5 (w.heap.size+3) ⟨pg,nn,f,bk,ev,(nd:Int),0,Sk,true⟩ (.slice q sl cq));have aX:=aK oL ⟨pg,nn,f,bk,ev,(nd:Int),0,Sk,true⟩ (.slice q sl cq);have F9:=aL w5 (w.heap.size+3) ⟨pg,nn,f,bk,ev,(nd:Int),0,Sk,true⟩ (.slice q sl cq);have yK:=HD5.far F9 (λk hk=>by rw [hk];exact ⟨_,_,oL⟩);generalize aP w5 (w.heap.size+3) ⟨pg,nn,f,bk,ev,(nd:Int),0,Sk,true⟩ (.slice q sl cq)=w9 at *;have Kw:=(ag.putObj (T:=λk=>k=D) (ag.refl _ w9) (λ_=>rfl) (.deferred none)).blk aX (λe=>l7 (yK _ rfl) (λ_ _ _ h=>by cases h) _ _ (e ▸ aX));dsimp only [aj] at Kw;have Xo:=Kw.cell;refine dF (v:=.tuple #[.agg (aj ⟨pg,nn,f,bk,ev,(nd:Int),0,Sk,true⟩ (.slice q sl cq)),zI ee]) (yK _ rfl) (by simp [results,results23,go_sem,Xo,aj]) ?_;exact ajL
theorem Bc {L:List Nd} (h:bf L):jP L:=⟨h.pos,h.few,h.chain⟩
theorem Ob (N b n:Nat) (L:List Nd) (w:World) (hB:ed w N b L) (hO:pE L) (hn:n<L.length) :
  zK 196 #[zP b,zI n] w (zI (L.getD n nd0).all):=by
 have hall:=hO.all n hn;have hbd:=ae (λi=>Sq hO.own n i);have hal:0<=iw (L.drop n)/\iw (L.drop n)<=1000000:=by rw [<-hall];exact hO.Ze hn
 rw [hall];have hfin:=ae (aau L n);have qV:=ae hB;have hCH:=ae hO.ch;have hmm:=hO.ch.few;obtain ⟨m,hm⟩:=ah (L.length);have qi:=ae hm;rw [hm] at hn hmm;obtain ⟨T,hT⟩:=ah (iw (L.drop n));rw [hT] at hal hbd ⊢;have yM:=ae hT;clear hB hO hm hall hT;go_enter func196,ntmps196;go_upto_region 3 with fail
 go_loopw [5,6] (λu5 u6 wr=>∃(i:Nat) (x:Int),u5 = zI x/\x=yz L n i/\u6 = zI i/\i<=m/\Below w.heap.size w wr) (λ_ u6 _=>m - (intOf u6).toNat)
 case atStart=>exact ⟨0,0,rfl,by simp [yz,iw],rfl,zo,Below.refl _ _⟩
 case round =>
  obtain ⟨i,x,rfl,hx,rfl,hi,hB⟩:=hrel;have Es:=ae hx;have hxb:=hbd.out i;rw [<-hx] at hxb;clear hx;have Mr:=qV.out.call hB;obtain ⟨g,c',hc1,hc2,kb,_,hgl,hcell,_⟩:=Mr.node (i:=0) (by rw [qi.out];omega);rw [qi.out] at kb hc1;have cb:=kb.cell;have hc1':m<=9223372036854775807:=zo;by_cases hlt:i<m
  ·have d1:decide ((i:Int)<(m:Int))=true:=by simpa using hlt
   have HO:=ae (l6 N b i L wr Mr hCH.out);rw [qi.out,show decide (0<=(i:Int)/\(i:Int)<(m:Int))=true by simp;omega] at HO;have HP:=ae (JO N b i L wr Mr hCH.out (by rw [qi.out];exact hlt));have HN:=ae (λA cap W h=>adV A (i+1) cap (mR i (i+1)) n W (uq _ _) zo h);have hst:=WR L n (i:=i) (by rw [qi.out];exact hlt);have aj1:=hbd.out (i+1);rw [hst,<-Es.out] at aj1;have dx:=ae hst;clear hst;go_wp2_with fail;refine HO.out.zr λw2 hw2=>?_
   replace hw2:=hw2.symm;subst hw2;go_wp2_with fail;refine HP.out.mono ?_;rintro e w3 ⟨A3,c3,rfl,vz,hb3⟩;have B3:=hB.zt hb3;go_wp2_with fail;refine (HN.out A3 c3 w3 vz).zr λw4 hw4=>?_
   replace hw4:=hw4.symm;subst hw4;obtain ⟨g3,c3',_,_,rP,_,apD,AX,_⟩:=(qV.out.call B3).node (i:=i) (by rw [qi.out];exact hlt);have q3:=AX i (by rw [qi.out];exact hlt) 2 (zI (L.getD i nd0).own) rfl;rw [qi.out] at rP;have cb3:=rP.cell;by_cases hni:n<=i
   ·rw [show decide ((n:Int)∈mR i (i+1))=true by rw [decide_eq_true_eq];exact JN.2 zo]
    rw [if_pos hni] at aj1 dx;have hx2:Hid (x+(L.getD i nd0).own=yz L n (i+1)):=ae (by rw [dx.out,<-Es.out]);generalize (L.getD i nd0).own=o at *;clear hcell AX kb rP hni dx cb;go_wp2_with fail;go_roundw
    case rel=>exact ⟨i+1,x+o,by go_num,hx2.out,by go_num,zo,B3⟩
    case measure=>exact zm
   ·rw [show decide ((n:Int)∈mR i (i+1))=false by rw [decide_eq_false_iff_not];intro h;have:=(JN.1 h).1;omega]
    rw [if_neg hni] at dx;have hx2:Hid (x=yz L n (i+1)):=ae (by rw [dx.out,<-Es.out];omega);clear hcell AX kb rP hni dx cb;go_wp2_with fail;go_roundw
    case rel=>exact ⟨i+1,x,rfl,hx2.out,by go_num,zo,B3⟩
    case measure=>exact zm
  ·obtain rfl:i=m:=zo
   have d1:decide ((i:Int)<(i:Int))=false:=by simp
   have hxT:x=T:=by rw [Es.out,<-yM.out,<-hfin.out,qi.out]
   subst hxT;go_wp2_with fail;go_ret;exact ⟨rfl,hB⟩
theorem Dk (N b n:Nat) (L:List Nd) (w:World) (hB:ed w N b L) (hO:bf L) (hn:n<L.length) :
  zK 195 #[zP b,zI n] w (zI (bX L n)):=by
 have HA:=ae (λz:Ext w=>Ext.call (Ob N b n L z.w (hB.call z.le) hO.sum hn));obtain ⟨g,c',hc1,hc2,kb,_,hgl,hcell,_⟩:=hB.node hn;have q0:=λz:Ext w=>z.cell (kb.cell 0)
 have q1:=λz:Ext w=>z.cell (hcell n hn 1 (zI (L.getD n nd0).lim) rfl)
 have hg:=hO.get hn;have hal:0<=(L.getD n nd0).all:=by rw [hO.all n hn];exact sZ (λx hx=>hO.own x (List.mem_of_mem_drop hx))
 have hmm:=hO.few;unfold bX;generalize L.getD n nd0=x at *;obtain ⟨lim,hl⟩:∃l,x.lim=l:=⟨_,rfl⟩;obtain ⟨al,ha⟩:∃l,x.all=l:=⟨_,rfl⟩;rw [hl,ha] at hg;rw [ha] at hal HA;rw [hl] at q1;rw [hl,ha];obtain ⟨m,hm⟩:=ah (L.length);rw [hm] at hn hmm hc1 q0;clear hcell kb hB hO hl ha hm;go_enter func195,ntmps195;go_upto_region 1 with fail
 refine aD zk zk ?_
 repeat (go_big_quiet_step ((go_at_call 196;exact HA.out _)))
 refine wpQuiet_nil ?_;rintro w1 ⟨⟨_,hw1⟩,rfl⟩;go_wp2_with fail;go_ret;exact ⟨rfl,hw1⟩
theorem TC (N b n:Nat) (L:List Nd) (w:World) (hB:ed w N b L) (hO:bf L) (hn:n<L.length) :
  zK 194 #[zP b,zI n] w (.tuple #[zI (jT L n),zI 0]):=by
 have HO:=ae (l6 N b n L w hB (Bc hO));have HP:=ae (JO N b n L w hB (Bc hO) hn);have qV:=ae hB;have JP:=ae hO;have hmm:=hO.few;rw [<-TB L n];obtain ⟨T,hT⟩:=ah (qI L n (n+1));rw [hT];have yM:=ae hT;obtain ⟨m,hm⟩:=ah (L.length);have qi:=ae hm;rw [hm,show decide (0<=(n:Int)/\(n:Int)<(m:Int))=true by rw [hm] at hn;simp;omega] at HO;rw [hm] at hn hmm;clear hB hO hT hm;go_enter func194,ntmps194;go_wp2_with fail;refine HO.out.zr λw1 hw1=>?_
 replace hw1:=hw1.symm;subst hw1;go_wp2_with fail;refine HP.out.mono ?_;rintro e w2 ⟨A,cap,rfl,dR,hb2⟩;have aqK:=ae dR;obtain ⟨b0,o0,e0,hb0,hc0⟩:=dR.el (k:=0) (by rw [uq];omega);rw [NT (n:Int) (show 0<n+1 by omega)] at hc0;simp only [Nat.add_zero] at hc0;rw [show (n:Int) - ((0:Nat):Int)=n by omega] at hc0;subst e0;clear HO HP dR;go_upto_region 6 with fail
 clear hc0
 go_loopw [7,8] (λu7 u8 wr=>∃(i Ky:Nat),u7 = zI Ky/\Ky=qI L n i/\Ky<=n/\u8 = zI i/\i<=n+1/\Below w2.heap.size w2 wr) (λ_ u8 _=>n+1 - (intOf u8).toNat)
 case atStart=>exact ⟨0,n,rfl,rfl,Nat.le_refl _,rfl,zo,Below.refl _ _⟩
 case round =>
  obtain ⟨i,Ky,rfl,aj2,hbn,rfl,hi,hB⟩:=hrel;have aeH:=ae aj2;clear aj2;by_cases hlt:i<n+1
  ·have d1:decide ((i:Int)<((n+1:Nat):Int))=true:=by simp;omega
   have d1':decide ((i:Int)<(n:Int)+1)=true:=by simp;omega
   obtain ⟨b1,o1,e1,hb1,hc1⟩:=aqK.out.el (k:=i) (by rw [uq];exact hlt);cases e1;rw [NT (n:Int) hlt] at hc1;obtain ⟨j,hj⟩:∃j:Nat,(n:Int) - i=j:=⟨n - i,zo⟩;have hjn:n - i=j:=zo;rw [hj] at hc1;have q1:=(hB.cell (p:=⟨b0,o0+i,none⟩) hb0).trans hc1;have hB1:=qV.out.call (hb2.zt hB);have HR1:=ae (λW h=>Dk N b j L W h JP.out (by rw [qi.out];omega));have HR2:=ae (λW h=>Dk N b Ky L W h JP.out (by rw [qi.out];omega));have hst:=PU L n hlt;rw [hjn,<-aeH.out] at hst;have j5:=ae hst;clear hst;go_wp2_with fail;refine (HR1.out wr hB1).zr λw3 hb3=>?_
   have B3:=hB.zt hb3;have hB3:=hB1.call hb3;have q3:=(hb3.cell (p:=⟨b0,o0+i,none⟩) (Nat.lt_of_lt_of_le hb0 hB.size)).trans q1;clear q1 hB1;go_wp2_with fail;refine (HR2.out w3 hB3).zr λw4 hb4=>?_
   have B4:=B3.zt hb4;have q4:=(hb4.cell (p:=⟨b0,o0+i,none⟩) (Nat.lt_of_lt_of_le hb0 B3.size)).trans q3;clear q3 hB3;by_cases hr:bX L j<bX L Ky
   ·have d2:=bU hr
    have hs2:Hid (j=qI L n (i+1)):=ae (by rw [j5.out,if_pos hr]);generalize bX L j=r1 at *;generalize bX L Ky=r2 at *;clear hr j5;go_wp2_with fail;go_roundw
    case rel=>exact ⟨i+1,j,rfl,hs2.out,zo,by go_num,zo,B4⟩
    case measure=>exact zm
   ·have d2:=bV hr
    have hs2:Hid (Ky=qI L n (i+1)):=ae (by rw [j5.out,if_neg hr]);generalize bX L j=r1 at *;generalize bX L Ky=r2 at *;clear hr j5;go_wp2_with fail;go_roundw
    case rel=>exact ⟨i+1,Ky,rfl,hs2.out,hbn,by go_num,zo,B4⟩
    case measure=>exact zm
  ·obtain rfl:i=n+1:=zo
   have d1:decide (((n+1:Nat):Int)<((n+1:Nat):Int))=false:=by simp
   have d1':decide ((n:Int)+1<(n:Int)+1)=false:=by simp
   have hbT:Ky=T:=by rw [aeH.out,yM.out]
   subst hbT;go_wp2_with fail;go_ret2;exact ⟨rfl,hb2.zt hB⟩
theorem Xq (N b n:Nat) (L:List Nd) (w:World) (hB:ed w N b L) (hO:bf L) (hn:n<L.length) :
  zK 165 #[zP b,zI n] w (.tuple #[zI (rC L n),zI 0]):=by
 have HO:=ae (l6 N b n L w hB (Bc hO));have HT:=ae (TC N b n L w hB hO hn);have hti:=IE L n;have HR:=ae (λW h=>Dk N b (jT L n) L W h hO zo);rw [show decide (0<=(n:Int)/\(n:Int)<(L.length:Int))=true by simp;omega] at HO;have qV:=ae hB;unfold rC;generalize bX L (jT L n)=rm at *;generalize jT L n=ti at *;clear hB hO hn hti;go_enter func165,ntmps165;go_wp2_with fail;refine HO.out.zr λw1 hw1=>?_
 replace hw1:=hw1.symm;subst hw1;go_wp2_with fail;refine HT.out.zr λw2 hb2=>?_
 go_wp2_with fail;refine (HR.out w2 (qV.out.call hb2)).zr λw3 hb3=>?_
 go_wp2_with fail;go_ret2;exact ⟨rfl,hb2.zt hb3⟩
theorem TD (N b:Nat) (L:List Nd) (w:World) (hB:ed w N b L) (hO:pE L) :
  Calls prog 166 #[zP b] w λe w'=>e= .returned (.tuple #[])/\oH N b (L.map x8) w w':=by
 have JP:=ae hO;have hmm:=hO.ch.few;have hpos:=hO.ch.pos;rw [<-aeI];obtain ⟨m,hm⟩:=ah (L.length);have qi:=ae hm;rw [hm] at hmm hpos ⊢;clear hO hm;go_enter func166,ntmps166;go_upto_region 1 with fail
 go_loopw [2] (λu2 wr=>∃i:Nat,u2 = zI i/\i<=m/\oH N b (rR L i) w wr) (λu2 _=>m - (intOf u2).toNat)
 case atStart=>exact ⟨0,rfl,zo,by rw [aaG];exact oH.below hB (Below.refl _ _)⟩
 case round =>
  obtain ⟨i,rfl,hi,hT⟩:=hrel;have yM:=ae hT;obtain ⟨A,c',kb,_⟩:=hT.1.ex;rw [nD,qi.out] at kb;have cb:=kb.cell;clear hT hB;by_cases hlt:i<m
  ·have d1:decide ((i:Int)<(m:Int))=true:=by simpa using hlt
   have hl:(rR L i).length=m:=by rw [nD,qi.out]
   have HO:=ae (l6 N b i (rR L i) wr yM.out.1 (JP.out.pk i).ch);rw [hl,show decide (0<=(i:Int)/\(i:Int)<(m:Int))=true by simp;omega] at HO;obtain ⟨g,c2,hc1,hc2,qg,hgT,hgl,hcell,hput⟩:=yM.out.1.put (i:=i) (by rw [hl];exact hlt);have hx:=(JP.out.pk i).Ze (n:=i) (by rw [hl];exact hlt);have HA:=ae (λW h=>Ob N b i (rR L i) W h (JP.out.pk i) (by rw [hl];exact hlt));have hgi:=aaH L (i:=i) (by rw [qi.out];exact hlt);rw [hl] at hc1 qg;generalize (rR L i).getD i nd0=x at *;obtain ⟨pkx,hpk⟩:∃l,x.jk=l:=⟨_,rfl⟩;obtain ⟨al,ha⟩:∃l,x.all=l:=⟨_,rfl⟩;have q3:=hcell 3 (zI pkx) (by rw [<-hpk];rfl);rw [ha] at HA hx;clear hcell;go_wp2_with fail;refine HO.out.zr λw2 hw2=>?_
   replace hw2:=hw2.symm;subst hw2;go_upto_region 4 with fail
   have hbd:=(Below.refl wr.heap.size wr).drew;have hB1:=yM.out.1.call hbd;have wV:=qg.call hbd;have q3':wr.drew.cell? ⟨g,i*5+3,none⟩=some (zI pkx):=q3;refine bT ?_;refine bM (PV b g m c2 i 3 pkx) [19] zk ?_;generalize wr.drew=wd at *;have hS:PV b g m c2 i 3 pkx wd:=⟨wV.cell 0,q3'⟩;dsimp only [PV] at hS ⊢;clear cb kb;refine aW 0 hS ?_;refine aW 1 hS ?_;refine aW 2 hS ?_;refine aW 3 hS ?_;refine aW 4 hS ?_;refine aW 5 hS ?_;refine aW 6 hS ?_;refine aW 7 hS ?_;refine aW 8 hS ?_;refine aW 9 hS ?_;refine aW 10 hS ?_;refine aW 11 hS ?_;refine aW 12 hS ?_;refine aW 13 hS ?_;refine aW 14 hS ?_;refine gD 15 λK hK=>?_
   go_simp;refine ((HA.out wd hB1)).mono ?_;rintro (e wS ⟨rfl,hb5⟩);refine hK.out _ _ (λ_=>⟨(wV.call hb5).cell 0,(hb5.cell (p:=⟨g,i*5+3,none⟩) (Nat.lt_of_lt_of_le hgl hbd.size)).trans q3'⟩) (λhS=>?_);clear hK K;replace hS:=hS rfl;refine aW 16 hS ?_;refine aW 17 hS ?_;refine aW 18 hS ?_;have Va:=hbd.zt hb5;have Dl:=hput wS Va;have fz:=Dl.1;have hP:=ae (Dl.2 3 (zI (max pkx al)) x8 zo (by unfold iW x8;simp only;rw [hpk,ha];rfl));clear hput Dl HA;refine gD 19 λK hK=>?_
   have hS2:=hS.2;go_simp;refine hK.out _ _ (λh=>absurd h zd) (λ_=>?_);clear hK K hS;refine bE zk ?_ _;refine aS ?_;go_wp2_with fail;go_roundw
   case rel=>exact ⟨i+1,by go_num,zo,by rw [hgi];exact yM.out.trans hP.out⟩
   case measure=>exact zm
  ·obtain rfl:i=m:=zo
   have d1:decide ((i:Int)<(i:Int))=false:=by simp
   have hl:=qi.out;go_wp2_with fail
   (try simp only [Exit.inBlock,Exit.then])
   refine bodyPost_end (results_none rfl _ _ _) rfl ?_;exact ⟨rfl,yM.out⟩
theorem PW (N b n:Nat) (p:Int) (L:List Nd) (w:World) (hB:ed w N b L) (hO:bf L) (hn:n<L.length) :
  Calls prog 109 #[zP b,zI n,zI p] w λe w'=>e= .returned (zI (iZ L n p).1)/\oH N b (iZ L n p).2 w w':=by
 have HH:=ae (Xq N b n L w hB hO hn);have qV:=ae hB;have JP:=ae hO;have hfr:=uu p 0 4096;have hok:=uX hO hn p;have hadd:=Zf hO n p;have hbo:=KD L n p;have hcb:iZ L n p=if p<0\/4096<p then (7,L) else if rC L n<p then (5,L) else (0,rY (L.modify n λx=>{ x with own:=x.own+p }) n p):=rfl
 obtain ⟨h,hh0⟩:=ah (rC L n);obtain ⟨C,hC⟩:=ah (iZ L n p);rw [hC,hh0] at hcb;rw [hC] at hok;rw [hh0] at HH;rw [hC];clear hC hh0;clear hB;go_enter func109,ntmps109;go_wp2_with fail;refine HH.out.zr λw1 hb1=>?_
 have hB1:=qV.out.call hb1;go_wp2_with fail;refine (hfr w1).zr λw2 hw2=>?_
 replace hw2:=hw2.symm;subst hw2;clear hfr;by_cases hp:p<0\/4096<p
 ·have d1:decide (0<=p/\p<=4096)=false:=by rw [decide_eq_false_iff_not];omega
  rw [if_pos hp] at hcb;subst hcb;rw [d1];clear d1;go_wp2_with fail;go_ret;exact ⟨rfl,oH.below qV.out hb1⟩
 ·have d1:decide (0<=p/\p<=4096)=true:=by rw [decide_eq_true_eq];omega
  rw [if_neg hp] at hcb;rw [d1];clear d1;by_cases hh:h<p
  ·have d2:=bU hh
   rw [if_pos hh] at hcb;subst hcb;go_wp2_with fail;go_ret;exact ⟨rfl,oH.below qV.out hb1⟩
  ·have d2:=bV hh
   rw [if_neg hh,<-hadd] at hcb;subst hcb;replace hok:=hok.sum.amS;have hp2:0<=p/\p<=4096:=zo;obtain ⟨g,c2,hc1,hc2,qg,hgT,hgl,hcell,hput⟩:=hB1.put hn;have hg:=hO.get hn;have aqL:=ae (λW h=>TD N b (x9 L n p) W h hok);generalize hx:L.getD n nd0=x at *;obtain ⟨ow,ho⟩:∃l,x.own=l:=⟨_,rfl⟩;have q2:=hcell 2 (zI ow) (by rw [<-ho];rfl);clear hcell hO hB1;go_upto_region 8 with fail
   have hbd:=(Below.refl w1.heap.size w1).drew;have wV:=qg.call hbd;have q2':w1.drew.cell? ⟨g,n*5+2,none⟩=some (zI ow):=q2;have Dl:=hput w1.drew hbd;have fz:=Dl.1;have hP:=ae (Dl.2 2 (zI (ow+p)) (λx=>{ x with own:=x.own+p }) zo (by unfold iW;simp only;rw [ho];rfl));have hwr:IntKind.i64.wrap (ow+p)=ow+p:=by rw [IntKind.wrap_i64];omega
   refine bT ?_;refine bM (PV b g L.length c2 n 2 ow) [17] zk ?_;generalize w1.drew=wd at *;have hS:PV b g L.length c2 n 2 ow wd:=⟨wV.cell 0,q2'⟩;have hS2:=hS.2;dsimp only [PV] at hS ⊢;clear hput Dl q2 q2';refine aW 0 hS ?_;refine aW 1 hS ?_;refine aW 2 hS ?_;refine aW 3 hS ?_;refine aW 4 hS ?_;refine aW 5 hS ?_;refine aW 6 hS ?_;refine aW 7 hS ?_;refine aW 8 hS ?_;refine aW 9 hS ?_;refine aW 10 hS ?_;refine aW 11 hS ?_;refine aW 12 hS ?_;refine aW 13 hS ?_;refine aW 14 hS ?_;refine aW 15 hS ?_;refine aW 16 hS ?_;refine gD 17 λK hK=>?_
   go_simp;refine hK.out _ _ (λh=>absurd h zd) (λ_=>?_);clear hK K hS hS2;refine bE zk ?_ _;refine aS ?_;have hT2:=(oH.below qV.out hb1).trans hP.out;generalize wd.setCell ⟨g,n*5+2,none⟩ (zI (ow+p))=w2 at *;have hB2:=hT2.1.same hbo.symm;go_wp2_with fail;refine (aqL.out w2 hB2).zr λw3 hT3=>?_
   go_wp2_with fail;go_ret;rw [hadd] at hT3;exact ⟨rfl,oH.trans ⟨hB2,hT2.2⟩ hT3⟩
theorem aj3 {P:Prop} (h:P:=by
 have d1:decide (0<=p/\p<=4096)=false:=by rw [decide_eq_false_iff_not];omega
 rw [if_pos hp] at hcb;subst hcb;rw [d1];clear d1;go_wp2_with fail;go_ret;exact ⟨rfl,oH.below qV.out (Below.refl _ _)⟩):P:=h
theorem Dm (N b n:Nat) (p:Int) (L:List Nd) (w:World) (hB:ed w N b L) (hO:bf L) (hn:n<L.length) :
  Calls prog 114 #[zP b,zI n,zI p] w λe w'=>e= .returned (zI (jb L n p).1)/\oH N b (jb L n p).2 w w':=by
 have HO:=ae (l6 N b n L w hB (Bc hO));rw [show decide (0<=(n:Int)/\(n:Int)<(L.length:Int))=true by simp;omega] at HO;have qV:=ae hB;have hfr:=uu p 0 4096;have hbo:0<=p->(L.modify n λx=>{ x with own:=x.own - p }).map iW=(rY (L.modify n λx=>{ x with own:=x.own - p }) n (-p)).map iW:=λh=>by
  rw [<-aaI hO n h,KD L n (-p)];congr 1
 obtain ⟨g,c2,hc1,hc2,qg,hgT,hgl,hcell,hput⟩:=hB.put hn;have hg:=hO.get hn;have hcb:jb L n p=if p<0\/4096<p then (7,L) else if (L.getD n nd0).own<p then (9,L) else (0,rY (L.modify n λx=>{ x with own:=x.own - p }) n (-p)):=rfl
 obtain ⟨C,hC⟩:=ah (jb L n p);rw [hC] at hcb;rw [hC];clear hC;generalize hx:L.getD n nd0=x at *;obtain ⟨ow,ho⟩:∃l,x.own=l:=⟨_,rfl⟩;have q2:=hcell 2 (zI ow) (by rw [<-ho];rfl);rw [ho] at hcb hg;have cb:=qg.cell 0;clear hcell hB hO;go_enter func114,ntmps114;go_wp2_with fail;refine HO.out.zr λw1 hw1=>?_
 replace hw1:=hw1.symm;subst hw1;go_wp2_with fail;refine (hfr w).zr λw2 hw2=>?_
 replace hw2:=hw2.symm;subst hw2;clear hfr;by_cases hp:p<0\/4096<p
 ·exact aj3
 ·have d1:decide (0<=p/\p<=4096)=true:=by rw [decide_eq_true_eq];omega
  rw [if_neg hp] at hcb;rw [d1];clear d1;by_cases hh:ow<p
  ·have d2:=bU hh
   rw [if_pos hh] at hcb;subst hcb;go_wp2_with fail;go_ret;exact ⟨rfl,oH.below qV.out (Below.refl _ _)⟩
  ·have d2:=bV hh
   rw [if_neg hh] at hcb;subst hcb;have hp2:0<=p/\p<=4096:=zo;go_wp2_with fail;have hbd:=(Below.refl w.heap.size w).drew;have wV:=qg.call hbd;have q2':w.drew.cell? ⟨g,n*5+2,none⟩=some (zI ow):=q2;have Dl:=hput w.drew hbd;have fz:=Dl.1;have hP:=ae (Dl.2 2 (zI (ow - p)) (λx=>{ x with own:=x.own - p }) zo (by unfold iW;simp only;rw [ho];rfl));have hwr:IntKind.i64.wrap (ow - p)=ow - p:=by rw [IntKind.wrap_i64];omega
   refine bT ?_;refine bM (PV b g L.length c2 n 2 ow) [17] zk ?_;generalize w.drew=wd at *;have hS:PV b g L.length c2 n 2 ow wd:=⟨wV.cell 0,q2'⟩;have hS2:=hS.2;dsimp only [PV] at hS ⊢;clear hput Dl q2 q2' cb;refine aW 0 hS ?_;refine aW 1 hS ?_;refine aW 2 hS ?_;refine aW 3 hS ?_;refine aW 4 hS ?_;refine aW 5 hS ?_;refine aW 6 hS ?_;refine aW 7 hS ?_;refine aW 8 hS ?_;refine aW 9 hS ?_;refine aW 10 hS ?_;refine aW 11 hS ?_;refine aW 12 hS ?_;refine aW 13 hS ?_;refine aW 14 hS ?_;refine aW 15 hS ?_;refine aW 16 hS ?_;refine gD 17 λK hK=>?_
   go_simp;refine hK.out _ _ (λh=>absurd h zd) (λ_=>?_);clear hK K hS hS2;refine bE zk ?_ _;refine aS ?_;have hT2:=hP.out;generalize wd.setCell ⟨g,n*5+2,none⟩ (zI (ow - p))=w2 at *;go_wp2_with fail;go_ret;exact ⟨rfl,hT2.1.same (hbo hp2.1),hT2.2⟩
theorem TE (N b n:Nat) (p:Int) (L:List Nd) (w:World) (hB:ed w N b L) (hO:bf L) (hn:n<L.length) :
  Calls prog 46 #[zP b,zI n,zI p] w λe w'=>e= .returned (zI (jX L n p).1)/\oH N b (jX L n p).2 w w':=by
 have HO:=ae (l6 N b n L w hB (Bc hO));rw [show decide (0<=(n:Int)/\(n:Int)<(L.length:Int))=true by simp;omega] at HO;have qV:=ae hB;have hfr:=uu p 0 4096;obtain ⟨g,c2,hc1,hc2,qg,hgT,hgl,hcell,hput⟩:=hB.put hn;have hcb:jX L n p=if p<0\/4096<p then (7,L) else (0,L.modify n λx=>{ x with lim:=p }):=rfl
 obtain ⟨C,hC⟩:=ah (jX L n p);rw [hC] at hcb;rw [hC];clear hC;generalize hx:L.getD n nd0=x at *;obtain ⟨li,ho⟩:∃l,x.lim=l:=⟨_,rfl⟩;have q2:=hcell 1 (zI li) (by rw [<-ho];rfl);have cb:=qg.cell 0;clear hcell hB hO;go_enter func46,ntmps46;go_wp2_with fail;refine HO.out.zr λw1 hw1=>?_
 replace hw1:=hw1.symm;subst hw1;go_wp2_with fail;refine (hfr w).zr λw2 hw2=>?_
 replace hw2:=hw2.symm;subst hw2;clear hfr;by_cases hp:p<0\/4096<p
 ·exact aj3
 ·have d1:decide (0<=p/\p<=4096)=true:=by rw [decide_eq_true_eq];omega
  rw [if_neg hp] at hcb;rw [d1];clear d1;subst hcb;have Dl:=hput w (Below.refl _ _);have fz:=Dl.1;have hP:=ae (Dl.2 1 (zI p) (λx=>{ x with lim:=p }) zo rfl);clear hput Dl;go_wp2_with fail;go_ret;exact ⟨rfl,hP.out⟩
end Go.Proofs.YtlgcpjhimomiaaaGreat
