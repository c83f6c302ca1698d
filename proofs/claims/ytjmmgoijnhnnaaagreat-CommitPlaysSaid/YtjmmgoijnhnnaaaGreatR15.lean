/- Texts: QWalkE, QWalkF, QWalkU, CWalkY, RWalkA, ZWalkT, QWalkO, QWalkX. -/
import Derived.Laws.AppendOwnNone
import Derived.Deep.CutRange
import Derived.OwnWalk
import Derived.Test.YtjmmgoijnhnnaaaGreatR14
set_option maxRecDepth 100000
set_option maxHeartbeats 12800000
namespace Go.Pol
open Go Go.RowKit Go.Proofs.Tryz
def dZ (B b:Nat) (V:Vm) (w w':World):Prop:=bq w' B b V∧af (fun k=>k=b) w w'
theorem fK.join {V:Vm} (h:fK V) (p:Int):fK (Go.Pol.eO V p).2:=by
 unfold Go.Pol.eO;split
 ·exact h
 ·split
  ·exact h
  ·refine h.make _ _ _ _ _ (fun q hq hk=>?_)
   have h2:(V.pg q).kind=2:=by simpa using hk
   have hg:((V.pg q).jh true).kind=2:=h2;rw [hg];exact ⟨by omega,by omega,fun _=>rfl,fun h=>absurd rfl h⟩
def iL (x:Nd):List Value:=[.int .i64 x.par,.int .i64 x.lim,.int .i64 x.own,.int .i64 x.iZ,.bool x.cl]
theorem tF (x:Nd):(iL x).length=5:=rfl
theorem CR (L:List Nd) (i:Nat) (hi:i<L.length):L.take (i+1)=L.take i++[L.getD i nd0]:=by
 rw [List.take_add_one,List.getElem?_eq_getElem hi,Option.toList_some,List.getD_eq_getElem?_getD,List.getElem?_eq_getElem hi];rfl
structure eP (w:World) (N b:Nat) (L:List Nd):Prop where
 ex:∃(A:Option Addr) (cap:Nat),ag w b 227 #[.slice A L.length cap]∧w.ownsRow N 120 5 (.slice A L.length cap) L.length (fl iL L)
def yZ (N:Nat) (w:World) (k:Nat):Prop:=N≤k∧∃cs,ag w k 120 cs
theorem eP.lt {w:World} {N b:Nat} {L:List Nd} (h:eP w N b L):b<w.heap.size:=by
 obtain ⟨A,cap,k,_⟩:=h.ex;exact k.lt
theorem eP.far {w w':World} {N b:Nat} {L:List Nd} {T:Nat→Prop} (h:eP w N b L) (hF:af T w w') (hb:¬T b) (hN:∀k,yZ N w k→¬T k):eP w' N b L:=by
 obtain ⟨A,cap,k,r⟩:=h.ex;refine ⟨A,cap,hF.blk k hb,aK r hF (fun g hg ht=>?_)⟩;rcases r.2 with ⟨hv,_⟩|⟨g',cap',cur,hv,hbs,hk,_⟩
 ·rw [hv] at hg;cases hg
 ·rw [hv] at hg
  have e:g'=g:=by injection hg
  subst e;exact hN g' ⟨hbs,cur,hk⟩ ht
theorem eP.call {w w':World} {N b:Nat} {L:List Nd} (h:eP w N b L) (hb:Below w.heap.size w w'):eP w' N b L :=
 h.far (T:=fun _=>False) (af.of_below hb) id (fun _ _ h=>h)
theorem eP.node {w:World} {N b:Nat} {L:List Nd} (h:eP w N b L) {i:Nat} (hi:i<L.length) :
  ∃(g cap:Nat),L.length≤cap∧cap≤maxLen∧ag w b 227 #[.slice (some ⟨g,0,none⟩) L.length cap]∧yZ N w g∧g<w.heap.size∧(∀j,j<L.length→∀(q:Nat) (v:Value),(iL (L.getD j nd0))[q]? = some v→w.cell? ⟨g,j*5+q,none⟩=some v)∧(∀o,w.frozen? ⟨g,o,none⟩=false):=by
 obtain ⟨A,cap,k,r⟩:=h.ex;rcases r.2 with ⟨hv,h0⟩|⟨g,cap',cur,hv,hbs,hk,hn,hm,_,ht⟩
 ·omega
 ·cases hv
  refine ⟨g,cap,hn,hm,k,⟨hbs,cur,hk⟩,ag.lt hk,fun j hj q v hq=>?_,fun o=>ag.frozen hk o⟩;have rZ:q<5:=by rw [←tF (L.getD j nd0)];exact (List.getElem?_eq_some_iff.1 hq).1
  have h1:=yj tF nd0 L j hj q rZ;rw [hq] at h1;have:=r.cells (g:=g) rfl (j*5+q) v h1;rw [dh,Nat.zero_add] at this;exact this
def mE (i:Int) (k:Nat):List Int:=(List.range k).map fun (j:Nat)=>i - j
theorem PN (i:Int) (k:Nat):mE i (k+1)=mE i k++[i - k]:=by simp [mE,List.range_succ]
theorem tH (i:Int) (k:Nat):(mE i k).length=k:=by simp [mE]
theorem KY (i:Int) {k j:Nat} (h:j<k):(mE i k).getD j 0=i - j:=by
 rw [List.getD_eq_getElem?_getD,List.getElem?_eq_getElem (by rw [tH];exact h)];simp [mE]
theorem IA {i k:Nat} {n:Int}:n∈mE i k↔n≤i∧(i:Int) - n<k:=by
 unfold mE;rw [List.mem_map];constructor
 ·rintro ⟨j,hj,rfl⟩
  have:=List.mem_range.1 hj;omega
 ·rintro ⟨h1,h2⟩
  exact ⟨((i:Int) - n).toNat,List.mem_range.2 (by omega),by omega⟩
theorem rG:∀(a b:List Nd),ig (a++b)=ig a+ig b
 | [],b=>by simp [ig]
 | x::a,b=>by rw [List.cons_append,ig,ig,rG a b];omega
def xP (L:List Nd) (n i:Nat):Int:=ig ((L.take i).drop n)
theorem Te (L:List Nd) (n:Nat) {i:Nat} (hi:i<L.length):xP L n (i+1)=xP L n i+if n≤i then (L.getD i nd0).own else 0:=by
 unfold xP;rw [CR L i hi,List.drop_append];have hl:(L.take i).length=i:=by rw [List.length_take];omega
 rw [hl,rG];by_cases h:n≤i
 ·rw [if_pos h,show n - i=0 by omega];simp [ig]
 ·rw [if_neg h,List.drop_of_length_le (l:=[L.getD i nd0]) (by simp;omega)];rfl
theorem WM (L:List Nd) (n:Nat):xP L n L.length=ig (L.drop n):=by unfold xP;rw [List.take_length]
theorem rR:∀{L:List Nd},(∀x∈L,0≤x.own)→0≤ig L
 | [],_=>by simp [ig]
 | x::r,h=>by
  have h1:=h x (by simp);have h2:=rR (L:=r) (fun y hy=>h y (by simp [hy]));rw [ig];omega
theorem PO {L:List Nd} (hL:∀x∈L,0≤x.own) (n i:Nat):0≤xP L n i∧xP L n i≤ig (L.drop n):=by
 have h1:∀x∈(L.take i).drop n,0≤x.own:=fun x hx=>hL x (List.mem_of_mem_take (List.mem_of_mem_drop hx))
 have h2:∀x∈(L.drop i).drop (n - (L.take i).length),0≤x.own:=fun x hx=>hL x (List.mem_of_mem_drop (List.mem_of_mem_drop hx))
 refine ⟨rR h1,?_⟩;have e:L.drop n=(L.take i).drop n++(L.drop i).drop (n - (L.take i).length):=by
  conv=>lhs;rw [←List.take_append_drop i L]
  rw [List.drop_append]
 rw [e,rG];have:=rR h2;unfold xP;omega
theorem RI.el {w:World} {B:Nat} {A:Option Addr} {xs:List Int} (h:RI w B A xs) {k:Nat} (hk:k<xs.length):∃b o,A=some ⟨b,o,none⟩∧b<B∧w.cell? ⟨b,o+k,none⟩=some (.int .i64 (xs.getD k 0)):=by
 obtain ⟨b,o,e,hb,hc⟩:=h k (by rw [List.length_map];exact hk);refine ⟨b,o,e,hb,?_⟩;rw [hc,List.getElem_map,List.getD_eq_getElem?_getD,List.getElem?_eq_getElem hk];rfl
open Go.Proofs Tryz
theorem Vm.IE (V:Vm) (call:Nat):(V.ref call).rf.rules=V.rf.rules:=by
 show (X8 V.rf call).rules=V.rf.rules;unfold X8 fe
 repeat (first|rfl|split)
theorem xA (V:Vm) (a n:Int) (call:Nat) (pr:Pg→Bool) (f:Pg→Pg):(gT V a n call pr f).2.rf.rules=V.rf.rules:=by
 unfold gT;split
 ·rfl
 ·split
  ·rfl
  ·split
   ·exact V.IE call
   ·exact V.IE call
end Go.Pol
namespace Go.Proofs.YtjmmgoijnhnnaaaGreat
open Go Go.Proofs Go.RowKit Go.Pol Go.Shelf Tryz
attribute [local go_sem] Oper.semAt_some aC au az ah
theorem qJ (B b k:Nat) (V:Vm) (w:World) (hV:bq w B b V) (hk:k<7) :
  Calls prog 162 #[.pointer (some ⟨b,0,none⟩),.int .i64 k] w fun e w'=>e= .returned (.bool (qO V.rf k))∧dZ B b (V.ref k) w w':=by
 have hV':=ae hV;obtain ⟨cs,A,n,cap,hk0,hc,hn,hr,hB,hok⟩:=hV.ex;have hbl:=hk0.lt;have HN:=ae (PD A n cap V.rf k w hok hk hn.1 (hr.more (by omega)));have oK:w.rangeAt b 66624 (aM (.slice A n cap) V.rf.calls V.rf.hits):=fun j v hj=>by
  have Gh:j<15:=(List.getElem?_eq_some_iff.1 hj).1;rw [hk0.cell,hc.rf j Gh];exact hj
 have hok':=ae hok;have hr':=ae hr;have hn':=ae hn;have hrl:=ae (show qO V.rf k=if V.rf.calls k=1000000 then false else qC V.rf k from rfl);have hrs:=ae (show V.ref k={ V with rf:=if V.rf.calls k=1000000 then V.rf else fe V.rf k } from rfl);unfold MN at HN;generalize qO V.rf k=R at *;generalize V.ref k=V2 at *;clear hc hr hn hok hV;go_enter func162,ntmps162
 go_wp2_with (first
  | (refine wpList_load_mid rfl 69 (.tmp 11) rfl b 66624 rfl (aM (.slice A n cap) V.rf.calls V.rf.hits) _ oK underlying69 rfl dM ?_))
 clear oK;refine HN.out.mono ?_;rintro e w1 hN;rcases hN with ⟨hc,rfl,hb1⟩|⟨hc,rfl,hb1⟩
 ·rw [if_pos hc] at hrl hrs
  have hV1:=hV'.out.call hb1;have hE:=ae (And.intro hrl.out hrs.out);clear hrl hrs hc HN hk0 hok';unfold gK aM;go_wp2_with fail;go_ret;obtain ⟨e1,e2⟩:=hE.out;rw [e1,e2];have hbz:=aV w1 (.cells (aM (.slice none 0 0) (fun _=>0) (fun _=>0)).toArray 69);unfold aM at hbz;exact ⟨rfl,hV1.call hbz,.of_below (hb1.trans (hbz.mono hb1.size))⟩
 ·rw [if_neg hc] at hrl hrs
  have hS2:uC (fe V.rf k):=Kq hok'.out hk hc;have hbz:=aV w1 (.cells (aM (.slice A n cap) (fe V.rf k).calls (fe V.rf k).hits).toArray 69);have hb2:=hb1.trans (hbz.mono hb1.size);have hput:=hV'.out.AX (fe V.rf k) A n cap hb2 hn'.out.1 hn'.out.2 (hr'.out.uX (T:=fun _=>False) (af.of_below hb2) (fun _ h=>h.elim)) hS2;have k9:=hk0.call hb2;have X9:cs.size=66639:=by
   obtain ⟨cs9,_,_,_,k8,h8,_⟩:=hV'.out.ex;have e:cs9=cs:=by unfold ag at k8 hk0;rw [k8] at hk0;injection hk0 with h;injection h with h
   rw [←e];exact h8.size
  have hE:=ae (And.intro hrl.out hrs.out);have kz:=ag.new w1 69 (aM (.slice A n cap) (fe V.rf k).calls (fe V.rf k).hits).toArray;clear hrl hrs hc HN hk0 hok' hS2 hb2 hb1 hr' hn';generalize (fe V.rf k).calls=cs2 at *;generalize (fe V.rf k).hits=hs2 at *;have j6:=ae hput;clear hput;rw [←hE.out.1];rw [←hE.out.2] at j6;clear hE hV';unfold aM at hbz k9 j6 kz;unfold gK aM;obtain ⟨s,hs⟩:=aj (w1.heap.size);rw [hs] at kz;go_upto_region 2 with fail
  generalize w1.alloc _=w2 at *;clear hs hbz;have cz:=kz.cell;have ht:w2.there b 66624 (aM (.slice A n cap) cs2 hs2).toArray.size:=dP k9 66624 15 (by omega);have hone:=Go.all_oneCell_toArray (jK (v:=.slice A n cap) rfl cs2 hs2);clear X9 k9 kz;have uT:Hid (bq (w2.setCells b 66624 (aM (.slice A n cap) cs2 hs2)) B b V2∧af (fun k=>k=b) w (w2.setCells b 66624 (aM (.slice A n cap) cs2 hs2))):=j6;clear j6
  go_wp2_with (refine wpList_store_mid rfl 69 (.tmp 23) (.tmp 21) rfl b 66624 (aM (.slice A n cap) cs2 hs2).toArray ?hxx ?hyy ht dM hone ?_)
  case hxx=>rfl
  case hyy=>rfl
  generalize w2.setCells b 66624 _=w4 at *;go_ret;exact ⟨rfl,uT.out.1,uT.out.2⟩
theorem nO (B b:Nat) (a n fr tk:Int) (call:Nat) (V:Vm) (w:World) (hV:bq w B b V) (hk:call<7) :
  Calls prog 194 #[.pointer (some ⟨b,0,none⟩),.int .i64 a,.int .i64 n,.int .i64 fr,.int .i64 tk,.int .i64 call] w fun e w'=>e= .returned (.int .i64 (bJ V a n call fr tk).1)∧dZ B b (bJ V a n call fr tk).2 w w':=by
 have hV':=ae hV;obtain ⟨R,hR⟩:=aj (bJ V a n call fr tk);rw [hR];unfold bJ gT at hR;have HP:=ae (fun W=>DK a W);by_cases c1:n<1
 ·have d1:decide (n<1)=true:=by simpa using c1
  rw [if_pos (.inl c1)] at hR;subst hR;clear HP hV;go_enter func194,ntmps194;go_wp2_with fail;go_ret;exact ⟨rfl,hV'.out,af.refl _ _⟩
 have d1:decide (n<1)=false:=by simpa using c1
 by_cases c2:0≤a∧a<1024
 ·rw [uN.2 c2] at HP
  have w1:IntKind.i64.wrap (1024 - a)=1024 - a:=by rw [IntKind.wrap_i64];omega
  by_cases c3:1024 - a<n
  ·have d3:decide (1024 - a<n)=true:=by simpa using c3
   rw [if_pos (by omega)] at hR;subst hR;clear hV;go_enter func194,ntmps194;go_wp2_with fail;refine (HP.out _).mono ?_;rintro e9 w9 ⟨rfl,rfl⟩;go_wp2_with fail;go_ret;exact ⟨rfl,hV'.out,af.refl _ _⟩
  ·have d3:decide (1024 - a<n)=false:=by simpa using c3
   rw [if_neg (by omega)] at hR;obtain ⟨aa,rfl⟩:∃aa:Nat,a=(aa:Int):=⟨a.toNat,by omega⟩;obtain ⟨nn,rfl⟩:∃nn:Nat,n=(nn:Int):=⟨n.toNat,by omega⟩;simp only [Int.toNat_natCast] at hR;have hsum:aa+nn≤1024:=by omega
   have HK:=ae (Ir B b aa nn fr V w hV hsum);have WI:=ae (qJ B b call V w hV hk);have SS:=ae (fun (hh:∀q,aa≤q→q<aa+nn→(V.pg q).dz=false) W (h:bq W B b (V.ref call))=>ZO B b aa nn tk (V.ref call) W h hsum hh);obtain ⟨cs,A,m,cap,hkb,hc,_⟩:=hV.ex;have WJ:=ae (fun p (h:p<1024)=>(hkb.cell (1024+p / 16)).trans (hc.dz p h));clear hkb hc hV;cases hkd:qN V aa nn (fun g=>g.kind==fr) with
   | false =>
    rw [hkd] at HK;have hf:qN V aa nn (fun g=>g.kind==fr&&!g.dz)=false:=by
     rw [Bool.eq_false_iff];intro h;rw [Bool.eq_false_iff] at hkd;exact hkd (jb.2 fun q h1 h2=>by have:=jb.1 h q h1 h2;rw [Bool.and_eq_true] at this;exact this.1)
    rw [if_pos hf] at hR;subst hR;clear WI SS WJ hf hkd c3;go_enter func194,ntmps194;go_wp2_with fail;refine (HP.out _).mono ?_;rintro e9 w9 ⟨rfl,rfl⟩;go_wp2_with fail;refine HK.out.mono ?_;rintro e9 w9 ⟨rfl,rfl⟩;go_wp2_with fail;go_ret;exact ⟨rfl,hV'.out,af.refl _ _⟩
   | true =>
    rw [hkd] at HK;have Zd:=ae hkd;have hR':=ae hR;clear hkd hR c3;go_enter func194,ntmps194;go_wp2_with fail;refine (HP.out _).mono ?_;rintro e9 w9 ⟨rfl,rfl⟩;go_wp2_with fail;refine HK.out.mono ?_;rintro e9 w9 ⟨rfl,rfl⟩;go_wp2_with fail
    go_loopw [13] (fun u wr=>∃i:Nat,i≤nn∧u= .int .i64 ((aa+i:Nat):Int)∧Hid (∀q,aa≤q→q<aa+i→(V.pg q).dz=false)∧wr=w) (fun u _=>aa+nn - (intOf u).toNat)
    case atStart=>exact ⟨0,by omega,rfl,ae (fun _ _ _=>by omega),rfl⟩
    case round =>
     obtain ⟨i,hi,rfl,hA,hw⟩:=hrel;have hw':=hw.symm;clear hw;subst hw';by_cases hlt:i<nn
     ·obtain ⟨p,hp⟩:=aj (aa+i)
      have hlt':decide ((p:Int)<(aa:Int)+(nn:Int))=true:=by rw [decide_eq_true_eq];omega
      have hpl:(p:Int)<1024:=by omega
      have hdv:Int.tdiv (p:Int) 16=((p / 16:Nat):Int):=by rw [Int.tdiv_eq_ediv_of_nonneg (by omega)];omega
      have hdl:((p / 16:Nat):Int)<64:=by omega
      have hcell:=WJ.out p (by omega);rw [hp];have hp':=ae hp;clear hp;cases hv:(V.pg p).dz with
      | false =>
       rw [hv] at hcell;have hA2:Hid (∀q,aa≤q→q<aa+(i+1)→(V.pg q).dz=false):=ae (fun q h1 h2=>by
        by_cases e:q=p
        ·subst e;exact hv
        ·exact hA.out q h1 (by have:=hp'.out;omega))
       clear hA hv;go_wp2_with fail;go_roundw
       case rel=>exact ⟨i+1,by omega,by rw [show ((p:Int)+1)=((aa+(i+1):Nat):Int) by have:=hp'.out;omega],hA2,trivial⟩
       case measure=>have:=hp'.out;simp [intOf];omega
      | true =>
       rw [hv] at hcell;have hRf:Hid ((9,V)=R):=ae (by
        have hr:=hR'.out;rw [if_pos (by
         rw [Bool.eq_false_iff];intro h;have:=jb.1 h p (by have:=hp'.out;omega) (by have:=hp'.out;omega);rw [hv] at this;simp at this)] at hr
        exact hr)
       clear hA hv;go_wp2_with fail;go_ret;rw [←hRf.out];exact ⟨rfl,hV'.out,af.refl _ _⟩
     ·obtain rfl:i=nn:=by omega
      have hlt':decide (((aa+i:Nat):Int)<(aa:Int)+(i:Int))=false:=by simp
      have hR2:Hid ((if qO V.rf call=true then (60,V.ref call) else (0,(V.ref call).gH aa i (fun _=>iB tk)))=R):=ae (by
       have hr:=hR'.out;rw [if_neg (by
        rw [Bool.not_eq_false];exact jb.2 fun q h1 h2=>by
         rw [hA.out q h1 h2,jb.1 Zd.out q h1 h2];rfl)] at hr
       exact hr)
      have HS2:=ae (SS.out hA.out);generalize qO V.rf call=rb at *;generalize V.ref call=V2 at *;clear hA SS hR' Zd;go_wp2_with fail;refine WI.out.mono ?_;rintro e1 w1 ⟨rfl,V1,F1⟩;cases rb with
      | true =>
       have jH:=hR2.out;rw [if_pos rfl] at jH;subst jH;clear HS2 hR2;go_wp2_with fail;go_ret;exact ⟨rfl,V1,F1⟩
      | false =>
       have jH:=hR2.out;rw [if_neg (by decide)] at jH;subst jH;clear hR2;go_wp2_with fail;refine (HS2.out _ V1).mono ?_;rintro e2 w2 ⟨rfl,V3,F3⟩;go_wp2_with fail;go_ret;exact ⟨rfl,V3,F1.trans F3⟩
 ·rw [xy.2 c2] at HP
  rw [if_pos (by omega)] at hR;subst hR;clear hV;go_enter func194,ntmps194;go_wp2_with fail;refine (HP.out _).mono ?_;rintro e9 w9 ⟨rfl,rfl⟩;go_wp2_with fail;go_ret;exact ⟨rfl,hV'.out,af.refl _ _⟩
theorem JS (B b:Nat) (a n:Int) (V:Vm) (w:World) (hV:bq w B b V) :
  Calls prog 143 #[.pointer (some ⟨b,0,none⟩),.int .i64 a,.int .i64 n] w fun e w'=>e= .returned (.int .i64 (bJ V a n 0 0 1).1)∧dZ B b (bJ V a n 0 0 1).2 w w':=by
 have HC:=ae (nO B b a n 0 1 0 V w hV (by decide));clear hV;generalize bJ V a n 0 0 1=R at *;go_enter func143,ntmps143;go_wp2_with fail;refine HC.out.mono ?_;rintro e w1 ⟨rfl,h1,h2⟩;go_wp2_with fail;go_ret;exact ⟨rfl,h1,h2⟩
theorem MO (B b:Nat) (a n:Int) (V:Vm) (w:World) (hV:bq w B b V) :
  Calls prog 152 #[.pointer (some ⟨b,0,none⟩),.int .i64 a,.int .i64 n] w fun e w'=>e= .returned (.int .i64 (bJ V a n 2 1 2).1)∧dZ B b (bJ V a n 2 1 2).2 w w':=by
 have HC:=ae (nO B b a n 1 2 2 V w hV (by decide));clear hV;generalize bJ V a n 2 1 2=R at *;go_enter func152,ntmps152;go_wp2_with fail;refine HC.out.mono ?_;rintro e w1 ⟨rfl,h1,h2⟩;go_wp2_with fail;go_ret;exact ⟨rfl,h1,h2⟩
theorem tC (B b:Nat) (a n:Int) (V:Vm) (w:World) (hV:bq w B b V) :
  Calls prog 153 #[.pointer (some ⟨b,0,none⟩),.int .i64 a,.int .i64 n] w fun e w'=>e= .returned (.int .i64 (bJ V a n 3 2 1).1)∧dZ B b (bJ V a n 3 2 1).2 w w':=by
 have HC:=ae (nO B b a n 2 1 3 V w hV (by decide));clear hV;generalize bJ V a n 3 2 1=R at *;go_enter func153,ntmps153;go_wp2_with fail;refine HC.out.mono ?_;rintro e w1 ⟨rfl,h1,h2⟩;go_wp2_with fail;go_ret;exact ⟨rfl,h1,h2⟩
theorem PE (B b:Nat) (a:Int) (V:Vm) (w:World) (hV:bq w B b V) :
  Calls prog 157 #[.pointer (some ⟨b,0,none⟩),.int .i64 a] w fun e w'=>e= .returned (.tuple #[.int .i64 (if xq V a=0 then a / 64 else 0),.int .i64 (if xq V a=0 then a % 64 else 0),.int .i64 (xq V a)])∧w=w':=by
 obtain ⟨R,hR⟩:=aj (xq V a);rw [hR];unfold xq at hR;by_cases c1:a<0
 ·have d1:decide (a<0)=true:=by simpa using c1
  rw [if_pos (.inl c1)] at hR;subst hR;simp only [show ¬(7:Int)=0 by omega,if_false];go_enter func157,ntmps157;go_wp2_with fail
  (try simp only [Exit.inBlock,Exit.then]);refine bodyPost_ret (results_tmp3 rfl _ _ _) rfl ?_
  exact ⟨rfl,rfl⟩
 have d1:decide (a<0)=false:=by simpa using c1
 by_cases c2:65536≤a
 ·have d2:decide (65536≤a)=true:=by simpa using c2
  rw [if_pos (.inr c2)] at hR;subst hR;simp only [show ¬(7:Int)=0 by omega,if_false];go_enter func157,ntmps157;go_wp2_with fail
  (try simp only [Exit.inBlock,Exit.then]);refine bodyPost_ret (results_tmp3 rfl _ _ _) rfl ?_
  exact ⟨rfl,rfl⟩
 have d2:decide (65536≤a)=false:=by simpa using c2
 rw [if_neg (by omega)] at hR;obtain ⟨q,k,hqa,hq,hk⟩:∃q k:Nat,a=((q*64+k:Nat):Int)∧q<1024∧k<64:=⟨(a / 64).toNat,(a % 64).toNat,by omega,by omega,by omega⟩;have e1:a / 64=(q:Int):=by omega
 have e2:a % 64=(k:Int):=by omega
 rw [e1,Int.toNat_natCast] at hR;rw [e1,e2];have hdv:Int.tdiv a 64=(q:Int):=by rw [Int.tdiv_eq_ediv_of_nonneg (by omega)];exact e1
 have hmd:Int.tmod a 64=(k:Int):=by rw [Int.tmod_eq_emod_of_nonneg (by omega)];exact e2
 have hql:(q:Int)<1024:=by omega
 have hwq:wrap64 (q:Int)=(q:Int):=by unfold wrap64;omega
 obtain ⟨cs,A,n,cap,hkb,hc,_⟩:=hV.ex;have c0:=(hkb.cell q).trans (hc.kind q hq);clear hkb hc hV e1 e2 hqa c1 c2;by_cases hkd:(V.pg q).kind=2
 ·rw [if_neg (by simp [hkd])] at hR
  subst hR;have dk:((V.pg q).kind != 2)=false:=by simpa using hkd
  simp only [if_true];clear hkd;go_enter func157,ntmps157;go_wp2_with fail
  (try simp only [Exit.inBlock,Exit.then]);refine bodyPost_ret (results_tmp3 rfl _ _ _) rfl ?_
  exact ⟨rfl,rfl⟩
 ·rw [if_pos hkd] at hR
  subst hR;have dk:((V.pg q).kind != 2)=true:=by simpa using hkd
  simp only [show ¬(61:Int)=0 by omega,if_false];clear hkd;go_enter func157,ntmps157;go_wp2_with fail
  (try simp only [Exit.inBlock,Exit.then]);refine bodyPost_ret (results_tmp3 rfl _ _ _) rfl ?_
  exact ⟨rfl,rfl⟩
theorem PG (B b:Nat) (a v:Int) (V:Vm) (w:World) (hV:bq w B b V) :
  Calls prog 91 #[.pointer (some ⟨b,0,none⟩),.int .i64 a,.int .u8 v] w fun e w'=>e= .returned (.int .i64 (xq V a))∧dZ B b (om V a v) w w':=by
 have HW:=ae (PE B b a V w hV);have hV':=ae hV;unfold dZ;obtain ⟨P,hP⟩:=aj (om V a v);rw [hP];unfold om at hP;obtain ⟨R,hR⟩:=aj (xq V a);rw [hR] at hP HW ⊢;by_cases c0:R=0
 ·subst c0
  rw [if_pos rfl] at hP;simp only [if_true] at HW;have ha:¬(a<0∨65536≤a):=fun hc=>by unfold xq at hR;rw [if_pos hc] at hR;omega
  obtain ⟨q,hq1⟩:∃q:Nat,a / 64=(q:Int):=⟨(a / 64).toNat,by omega⟩;obtain ⟨k,hk1⟩:∃k:Nat,a % 64=(k:Int):=⟨(a % 64).toNat,by omega⟩;rw [hq1,hk1] at hP HW;simp only [Int.toNat_natCast] at hP;have hq:q<1024:=by omega
  have hk:k<64:=by omega
  have hq2:(q:Int)<1024:=by omega
  have hk2:(k:Int)<64:=by omega
  have hset:=hV.Io hq hk v;rw [hP] at hset;have hset':=ae hset;obtain ⟨cs,A,n,cap,hkb,hc,_⟩:=hV.ex;have e1:=(hkb.cell (1088+q*64+k)).trans (hc.iJ q hq k hk);have f1:=hkb.frozen;clear hkb hc hV hP hset hR ha hq1 hk1;go_enter func91,ntmps91;go_wp2_with fail;refine HW.out.mono ?_;rintro e9 w9 ⟨rfl,rfl⟩;go_wp2_with fail;go_ret;exact ⟨rfl,hset'.out.1,hset'.out.2⟩
 ·rw [if_neg c0] at hP
  simp only [if_neg c0] at HW;subst hP;have d0:(R==0)=false:=by simpa using c0
  clear hR hV;go_enter func91,ntmps91;go_wp2_with fail;refine HW.out.mono ?_;rintro e9 w9 ⟨rfl,rfl⟩;go_wp2_with fail;go_ret;exact ⟨rfl,hV'.out,af.refl _ _⟩
theorem PH {q:Nat} (h:lD (q:Int)=false) (hq:q<1024):(Int.tmod (q:Int) 16 != 0)=true:=by
 unfold lD at h;rw [bne_iff_ne,Int.tmod_eq_emod_of_nonneg (by omega)];simp at h;omega
theorem KX {q:Nat} (h:lD (q:Int)=true):(Int.tmod (q:Int) 16 != 0)=false∧q<1024∧∃g,q=g*16∧g<64:=by
 unfold lD at h;simp at h;refine ⟨?_,by omega,q / 16,by omega,by omega⟩;rw [Bool.eq_false_iff];intro hc;rw [bne_iff_ne,Int.tmod_eq_emod_of_nonneg (by omega)] at hc;omega
theorem SX (B b:Nat) (p:Int) (V:Vm) (w:World) (hV:bq w B b V) (hG:fK V) :
  Calls prog 93 #[.pointer (some ⟨b,0,none⟩),.int .i64 p] w fun e w'=>e= .returned (.int .i64 (Go.Pol.eO V p).1)∧dZ B b (Go.Pol.eO V p).2 w w':=by
 have hV':=ae hV;have HP:=ae (fun W=>DK p W);obtain ⟨R,hR⟩:=aj (Go.Pol.eO V p);rw [hR];unfold Go.Pol.eO at hR;by_cases c2:0≤p∧p<1024
 ·rw [uN.2 c2] at HP
  obtain ⟨q,rfl⟩:∃q:Nat,p=(q:Int):=⟨p.toNat,by omega⟩;simp only [Int.toNat_natCast] at hR;have hq:q<1024:=by omega
  cases hf:lD (q:Int) with
  | false =>
   rw [if_pos hf] at hR;subst hR;have d2:=PH hf hq;obtain ⟨rm,hrm⟩:=aj (Int.tmod (q:Int) 16);rw [hrm] at d2;clear hf hV;go_enter func93,ntmps93;go_wp2_with fail;refine (HP.out _).mono ?_;rintro e9 w9 ⟨rfl,rfl⟩;go_wp2_with fail;go_ret;exact ⟨rfl,hV'.out,af.refl _ _⟩
  | true =>
   rw [if_neg (by simp [hf])] at hR;obtain ⟨d2,_,g,hqg,hg⟩:=KX hf;obtain ⟨rm,hrm⟩:=aj (Int.tmod (q:Int) 16);rw [hrm] at d2;have hdv:Int.tdiv (q:Int) 16=(g:Int):=by rw [Int.tdiv_eq_ediv_of_nonneg (by omega)];omega
   have hwg:wrap64 (g:Int)=(g:Int):=by unfold wrap64;omega
   have hgl:(g:Int)<64:=by omega
   have HK:=ae (Ir B b q 16 2 V w hV (by omega));have WI:=ae (qJ B b 5 V w hV (by decide));obtain ⟨cs,A,n,cap,hkb,hc,_⟩:=hV.ex;have hch:=hc.dz q hq;rw [show q / 16=g by omega] at hch;have c1:=(hkb.cell (1024+g)).trans hch;have hR':=ae hR;have hmk:gT V (q:Int) 16 5 (fun g=>g.kind==2) (fun g=>g.jh true)=if qN V q 16 (fun g=>g.kind==2)=false then (9,V) else if qO V.rf 5=true then (60,V.ref 5) else (0,(V.ref 5).gH q 16 (fun g=>g.jh true)):=by
    unfold gT;rw [if_neg (by omega)];simp only [Int.toNat_natCast];rfl
   cases hh:(V.pg q).dz with
   | true =>
    -- a dz page's group is afR as a whole
    have hall:qN V q 16 (fun g=>g.kind==2)=true:=jb.2 fun r h1 h2=>by
     have hr:=hc.dz r (by omega);rw [show r / 16=g by omega,hch,hh] at hr;have:(V.pg r).dz=true:=by injection hr with hr;injection hr with hr;exact hr.symm
     simpa using hG.BZ r (by omega) this
    rw [hall] at HK;rw [hh] at c1;have hR2:=hR'.out;rw [if_pos hh] at hR2;subst hR2;clear hf hV hkb hc hch hmk hall hR hqg;go_enter func93,ntmps93;go_wp2_with fail;refine (HP.out _).mono ?_;rintro e9 w9 ⟨rfl,rfl⟩;go_wp2_with fail;refine HK.out.mono ?_;rintro e9 w9 ⟨rfl,rfl⟩;go_wp2_with fail;go_ret;exact ⟨rfl,hV'.out,af.refl _ _⟩
   | false =>
    rw [hh] at c1;have hR2:=hR'.out;rw [if_neg (by simp [hh]),hmk] at hR2;have jH:=ae hR2;clear hf hV hkb hc hch hmk hR hR2 hR' hh;have PI:=ae hqg;clear hqg;generalize qN V q 16 (fun g=>g.kind==2)=al at *;cases al with
    | false =>
     have zP:=jH.out;rw [if_pos rfl] at zP;subst zP;go_enter func93,ntmps93;go_wp2_with fail;refine (HP.out _).mono ?_;rintro e9 w9 ⟨rfl,rfl⟩;go_wp2_with fail;refine HK.out.mono ?_;rintro e9 w9 ⟨rfl,rfl⟩;go_wp2_with fail;go_ret;exact ⟨rfl,hV'.out,af.refl _ _⟩
    | true =>
     have zP:=jH.out;rw [if_neg (by decide)] at zP;have ZP:=ae zP;clear jH zP;generalize qO V.rf 5=rb at *;generalize V.ref 5=V2 at *;go_enter func93,ntmps93;go_wp2_with fail;refine (HP.out _).mono ?_;rintro e9 w9 ⟨rfl,rfl⟩;go_wp2_with fail;refine HK.out.mono ?_;rintro e9 w9 ⟨rfl,rfl⟩;go_wp2_with fail;refine WI.out.mono ?_;rintro e9 w1 ⟨rfl,V1,F1⟩;cases rb with
     | true =>
      have Iu:=ZP.out;rw [if_pos rfl] at Iu;subst Iu;go_wp2_with fail;go_ret;exact ⟨rfl,V1,F1⟩
     | false =>
      have Iu:=ZP.out;rw [if_neg (by decide)] at Iu;have hput:=V1.UU hg true;rw [←PI.out] at hput;obtain rfl:=Iu;have j6:=ae hput;obtain ⟨cs1,A1,n1,jQ,Iw,hc1,_⟩:=V1.ex;have Iy:=hc1.dz q hq;rw [show q / 16=g by have:=PI.out;omega] at Iy;have c2:=(Iw.cell (1024+g)).trans Iy;have f2:=Iw.frozen;clear Iw hc1 Iy hput c1;go_wp2_with fail;go_ret;exact ⟨rfl,j6.out.1,F1.trans j6.out.2⟩
 ·rw [xy.2 c2] at HP
  have hf:lD p=false:=by
   unfold lD;rw [Bool.eq_false_iff];intro h;simp at h;omega
  rw [if_pos hf] at hR;subst hR;clear hf hV;go_enter func93,ntmps93;go_wp2_with fail;refine (HP.out _).mono ?_;rintro e9 w9 ⟨rfl,rfl⟩;go_wp2_with fail;go_ret;exact ⟨rfl,hV'.out,af.refl _ _⟩
theorem PK (B b:Nat) (p:Int) (V:Vm) (w:World) (hV:bq w B b V) :
  Calls prog 95 #[.pointer (some ⟨b,0,none⟩),.int .i64 p] w fun e w'=>e= .returned (.int .i64 (Go.Pol.lF V p).1)∧dZ B b (Go.Pol.lF V p).2 w w':=by
 have hV':=ae hV;have HP:=ae (fun W=>DK p W);obtain ⟨R,hR⟩:=aj (Go.Pol.lF V p);rw [hR];unfold Go.Pol.lF at hR;by_cases c2:0≤p∧p<1024
 ·rw [uN.2 c2] at HP
  obtain ⟨q,rfl⟩:∃q:Nat,p=(q:Int):=⟨p.toNat,by omega⟩;have hq:q<1024:=by omega
  cases hf:lD (q:Int) with
  | false =>
   rw [if_pos hf] at hR;subst hR;have d2:=PH hf hq;obtain ⟨rm,hrm⟩:=aj (Int.tmod (q:Int) 16);rw [hrm] at d2;clear hf hV;go_enter func95,ntmps95;go_wp2_with fail;refine (HP.out _).mono ?_;rintro e9 w9 ⟨rfl,rfl⟩;go_wp2_with fail;go_ret;exact ⟨rfl,hV'.out,af.refl _ _⟩
  | true =>
   rw [if_neg (by simp [hf])] at hR;obtain ⟨d2,_,g,hqg,hg⟩:=KX hf;obtain ⟨rm,hrm⟩:=aj (Int.tmod (q:Int) 16);rw [hrm] at d2;have hdv:Int.tdiv (q:Int) 16=(g:Int):=by rw [Int.tdiv_eq_ediv_of_nonneg (by omega)];omega
   have hwg:wrap64 (g:Int)=(g:Int):=by unfold wrap64;omega
   have hgl:(g:Int)<64:=by omega
   have WI:=ae (qJ B b 6 V w hV (by decide));obtain ⟨cs,A,n,cap,hkb,hc,_⟩:=hV.ex;have hch:=hc.dz q hq;rw [show q / 16=g by omega] at hch;have c1:=(hkb.cell (1024+g)).trans hch;have hall:qN V q 16 (fun g=>g.dz)=(V.pg q).dz:=by
    rw [Bool.eq_iff_iff,jb];constructor
    ·intro h;exact h q (by omega) (by omega)
    ·intro h r h1 h2
     have hr:=hc.dz r (by omega);rw [show r / 16=g by omega,hch,h] at hr
     injection hr with hr;injection hr with hr;exact hr.symm
   have hmk:gT V (q:Int) 16 6 (fun g=>g.dz) (fun g=>g.jh false)=if qN V q 16 (fun g=>g.dz)=false then (9,V) else if qO V.rf 6=true then (60,V.ref 6) else (0,(V.ref 6).gH q 16 (fun g=>g.jh false)):=by
    unfold gT;rw [if_neg (by omega)];simp only [Int.toNat_natCast];rfl
   have hR2:Hid ((if (V.pg q).dz=false then (9,V) else if qO V.rf 6=true then (60,V.ref 6) else (0,(V.ref 6).gH q 16 (fun g=>g.jh false)))=R):=ae (by rw [←hall,←hmk];exact hR);have PI:=ae hqg;clear hf hV hkb hc hch hall hR hqg hmk;generalize (V.pg q).dz=hh at *;cases hh with
   | false =>
    have jH:=hR2.out;rw [if_pos rfl] at jH;subst jH;go_enter func95,ntmps95;go_wp2_with fail;refine (HP.out _).mono ?_;rintro e9 w9 ⟨rfl,rfl⟩;go_wp2_with fail;go_ret;exact ⟨rfl,hV'.out,af.refl _ _⟩
   | true =>
    have jH:=hR2.out;rw [if_neg (by decide)] at jH;have ZP:=ae jH;clear hR2 jH;generalize qO V.rf 6=rb at *;generalize V.ref 6=V2 at *;go_enter func95,ntmps95;go_wp2_with fail;refine (HP.out _).mono ?_;rintro e9 w9 ⟨rfl,rfl⟩;go_wp2_with fail;refine WI.out.mono ?_;rintro e9 w1 ⟨rfl,V1,F1⟩;cases rb with
    | true =>
     have Iu:=ZP.out;rw [if_pos rfl] at Iu;subst Iu;go_wp2_with fail;go_ret;exact ⟨rfl,V1,F1⟩
    | false =>
     have Iu:=ZP.out;rw [if_neg (by decide)] at Iu;have hput:=V1.UU hg false;rw [←PI.out] at hput;obtain rfl:=Iu;have j6:=ae hput;obtain ⟨cs1,A1,n1,jQ,Iw,hc1,_⟩:=V1.ex;have Iy:=hc1.dz q hq;rw [show q / 16=g by have:=PI.out;omega] at Iy;have c2:=(Iw.cell (1024+g)).trans Iy;have f2:=Iw.frozen;clear Iw hc1 Iy hput c1;go_wp2_with fail;go_ret;exact ⟨rfl,j6.out.1,F1.trans j6.out.2⟩
 ·rw [xy.2 c2] at HP
  have hf:lD p=false:=by
   unfold lD;rw [Bool.eq_false_iff];intro h;simp at h;omega
  rw [if_pos hf] at hR;subst hR;clear hf hV;go_enter func95,ntmps95;go_wp2_with fail;refine (HP.out _).mono ?_;rintro e9 w9 ⟨rfl,rfl⟩;go_wp2_with fail;go_ret;exact ⟨rfl,hV'.out,af.refl _ _⟩
theorem WK {w:World} {base n sz g i cap:Nat} {e:TypeId} {xs:List Value} {v:Value} (h:w.ownsRow base e sz (.slice (some ⟨g,0,none⟩) n cap) n xs) (_:i<n*sz) :
  (w.setCell ⟨g,i,none⟩ v).ownsRow base e sz (.slice (some ⟨g,0,none⟩) n cap) n (xs.set i v):=by
 refine ⟨by rw [List.length_set];exact h.1,?_⟩;rcases h.2 with ⟨hn,_⟩|⟨g',cap',cur,hv,hb,hk,hc,hm,hs,ht⟩
 ·cases hn
 ·cases hv
  have hk':ag w g e cur:=hk;refine .inr ⟨g,cap,cur.setIfInBounds i v,rfl,hb,hk'.aO i v,hc,hm,by rw [Array.size_setIfInBounds];exact hs,?_⟩;rw [Array.toList_setIfInBounds,List.take_set,ht]
theorem ZQ (l:List Rn) (x:Rn):fl qj (l++[(x.1,x.2.1+1,x.2.2)])=(fl qj (l++[x])).set (l.length*3+1) (.int .i64 (x.2.1+1)):=by
 rw [jd,jd,List.set_append_right _ _ (by rw [lT wh];omega),lT wh,show l.length*3+1 - l.length*3=1 by omega];rfl
theorem WL (x:Rn):∀u∈qj x,u.oneCell'=true:=fun u hu=>ZK [x] u (by simpa [fl] using hu)
theorem xz {w:World} {g:Nat} {t:TypeId} {l:List Value} (h:ag w g t l.toArray):∀(j:Nat) (u:Value),l[j]? = some u→w.cell? ((⟨g,0,none⟩:Addr).add j)=some u:=fun j u hu=>by
 rw [dh,Nat.zero_add,h.cell];simpa using hu
theorem Fe {P:Program} {ops:Array Oper} {S:World→Prop} {op:Oper} {a:Act} (hw:Region.wanted op (yielded ops a.tmps)=true) (t:TypeId) (parts:List (Nat×Operand)) (ho:op.op= .build t parts.toArray)
  (vals:List (Nat×Value)) (hv:parts.map (fun x=>(x.1,a.eval x.2))=vals) (cells:Array Value) (hb:P.built t vals=some cells):YieldsIf P ops S op (.agg cells) a :=
 .inl ⟨hw,fun w _=>by
  have hb':P.built t (parts.toArray.map fun (i,x)=>(i,a.eval x)).toList=some cells:=by
   rw [←hb,←hv];simp
  unfold execOp;simp only [ho,Sem.run_bind,run_build w t _ cells hb',Result.andThen_ok];rfl⟩
theorem Ff {P:Program} {o:Oper} {a:Act} {w:World} {K:Act→World→Prop} {Q:Exit→Act→World→Prop} (t e:TypeId) (len:Nat) (parts:List (Nat×Operand)) (ho:o.op= .buildSlice t len parts.toArray)
  (vals:List (Nat×Value)) (hv:parts.map (fun x=>(x.1,a.eval x.2))=vals) (cells:Array Value) (ie:TypeInfo) (z:Value)
  (hu:P.underlying t=some (.slice e)) (hie:P.info? e=some ie) (hz:ie.zero=some z) (hsmall:¬len*ie.size > 2 ^ 24) (hpos:¬len*ie.size=0)
  (hf:Instr.fill (fun i=>some (i*ie.size,ie.size)) ((Array.range (len*ie.size)).map (z.cells[· % z.cells.size]!)) vals=some cells)
  (h:K (a.put o.dst (.slice (some ⟨w.heap.size,0,none⟩) len len)) (w.alloc (.cells cells e))):o.wp P a w K Q :=
 wp_buildSlice t e len parts.toArray ho cells ie z hu hie hz hsmall hpos (by rw [←hf,←hv];simp) h
theorem uO {P:Program} {ops:Array Oper} {rest:List Oper} {op:Oper} {a:Act} {w:World} {Q:Exit→Act→World→Prop} (ty:TypeId) (x:Operand) (ho:op.op= .load ty x) (hw:Region.wanted op (yielded ops a.tmps)=true)
  (b o:Nat) (hx:a.eval x= .pointer (some ⟨b,o,none⟩)) (cs:List Value) (d:TypeDesc) (hc:w.rangeAt b o cs)
  (hu:P.underlying ty=some d) (hd:d.isRow=true) (hi:(P.info? ty).map (·.size)=some cs.length)
  (h:wpList P ops Q rest (a.put op.dst (.agg cs.toArray)) w):wpList P ops Q (op::rest) a w :=
 wpList_step fun K hK=>by
  simp only [hw,if_true];exact wp_load_mid ty x ho b o hx cs d hc hu hd hi (hK _ _ h)
theorem PL {w:World} {afS afT n1 n2 sz1 sz2 g:Nat} {e1 e2:TypeId} {v1 v2:Value} {xs1 xs2:List Value} (h1:w.ownsRow afS e1 sz1 v1 n1 xs1) (h2:w.ownsRow afT e2 sz2 v2 n2 xs2) (hne:e1≠e2)
  (hg1:v1.ownBlock=some g) (hg2:v2.ownBlock=some g):False:=by
 rcases h2.2 with ⟨hx,_⟩|⟨g',cap',cur,hx,_,hkx,_⟩
 ·rw [hx] at hg2;cases hg2
 ·rw [hx] at hg2
  have e':g'=g:=by injection hg2
  subst e';exact di h1 hg1 (show ag w g' e2 cur from hkx) hne
theorem kT {w w':World} {NB n1 n2 sz1 sz2 s:Nat} {e1 e2:TypeId} {v1 v2:Value} {xs1 xs2:List Value} (h1:w.ownsRow NB e1 sz1 v1 n1 xs1) (h2:w.ownsRow NB e2 sz2 v2 n2 xs2) (hne:e1≠e2) (hs:s<NB)
  (F:af (fun g=>g=s∨v2.ownBlock=some g) w w'):w'.ownsRow NB e1 sz1 v1 n1 xs1 :=
 aK h1 F (fun g hg h=>h.elim (fun h=>by have:=(h1.lt g hg).1;omega) (fun h=>PL h1 h2 hne hg h))
theorem EB {V:Vm}:∀k,k≤1024→∀x∈aP V k,0≤x.2.1∧x.2.1≤(k:Int)
 | 0,_,x,hx=>by cases hx
 | k+1,hk,x,hx=>by
  have ih:=EB (V:=V) k (by omega);rw [jA] at hx;split at hx
  ·have:=ih x hx;omega
  ·split at hx
   ·rcases List.eq_nil_or_concat (aP V k) with h|⟨l,y,h⟩
    ·rw [h] at hx;cases hx
    ·rw [h,List.concat_eq_append,qx] at hx
     rw [List.mem_append,List.mem_singleton] at hx;rcases hx with hx|rfl
     ·have:=ih x (by rw [h,List.concat_eq_append];exact List.mem_append_left _ hx);omega
     ·have:=ih y (by rw [h,List.concat_eq_append];simp)
      show 0≤y.2.1+1∧y.2.1+1≤_;omega
   ·rw [List.mem_append,List.mem_singleton] at hx
    rcases hx with hx|rfl
    ·have:=ih x hx;omega
    ·show (0:Int)≤1∧(1:Int)≤_
     omega
noncomputable def abO:Array Oper:=(Tryz.f37.body.bind (mO 10)).getD #[]
noncomputable def abP:Array Oper:=(Tryz.f37.body.bind (mO 14)).getD #[]
theorem Iz {Q:Exit→Act→World→Prop} {u1 u2 u5 u6 u7 u8 u9 u10 u11 u12 u13 u14 u15 u16 u17 u18 u19 u20 u21 u22 u23 u24 u25 u26 u27 u28 u29 u30 u31 u32 u33 u34 u35 u36 u37 u38 u39 u40 u41 u42 u43 u44 u45 u46 u47 u48 u49 u50 u51 u52 u53 u54 u55 u56 u57 u58 u59 u60 u61 u62 u63 u64 u65 u66 u67 u68 u69 u70 u71 u72 u73 u74 u75 u76 u77 u78 u79 u80 u81 u82 u83 u84 u85 u86 u87 u88 u89 u90 u91 u92 u93 u94 u95 u96 u97 u98 u99 u100 u101 u102 u103 u104 u105 u106 u107 u108 u109 u110 u111 u112 u113 u114 u115 u116 u117 u118 u119 u120 u121 u122 u123 u124 u125:Value} {D:List Deferred} (b s k NB N1 jQ:Nat) (A1:Option Addr) (kd:Int) (cs:Array Value) (xs:List Value) (w:World)
  (hk:(k:Int)<1024) (hN:N1≤1024) (hb:b<w.heap.size) (hs:s<w.heap.size) (Zz:NB≤w.heap.size) (hbN:b<NB) (hbs:¬b=s) (hcK:w.cell? ⟨b,k,none⟩=some (.int .i64 kd))
  (k3:ag w s 87 cs) (h3:w.cell? ⟨s,0,none⟩=some (.slice A1 N1 jQ)) (ro:w.ownsRow NB 158 3 (.slice A1 N1 jQ) N1 xs)
  (hQ:∀(x64 x65 x66 x67 x68 x69 x70 x71 x72 x73 x74 x75 x76:Value) (w':World) (PM:Option Addr) (yY:Nat),w.heap.size≤w'.heap.size→ag w' s 87 (cs.setIfInBounds 0 (.slice PM (N1+1) yY))→w'.ownsRow NB 158 3 (.slice PM (N1+1) yY) (N1+1) (xs++qj ((k:Int),1,kd)) →
   af (fun g=>g=s∨(Value.slice A1 N1 jQ).ownBlock=some g) w w'→Q .normal ⟨#[(.pointer (some ⟨b,0,none⟩)),u1,u2,(.pointer (some ⟨s,0,none⟩)),(.int .i64 (k:Int)),u5,u6,u7,u8,u9,u10,u11,u12,u13,u14,u15,u16,u17,u18,u19,u20,u21,u22,u23,u24,u25,u26,u27,u28,u29,u30,u31,u32,u33,u34,u35,u36,u37,u38,u39,u40,u41,u42,u43,u44,u45,u46,u47,u48,u49,u50,u51,u52,u53,u54,u55,u56,u57,u58,u59,u60,u61,u62,u63,x64,x65,x66,x67,x68,x69,x70,x71,x72,x73,x74,x75,x76,u77,u78,u79,u80,u81,u82,u83,u84,u85,u86,u87,u88,u89,u90,u91,u92,u93,u94,u95,u96,u97,u98,u99,u100,u101,u102,u103,u104,u105,u106,u107,u108,u109,u110,u111,u112,u113,u114,u115,u116,u117,u118,u119,u120,u121,u122,u123,u124,u125],D⟩ w') :
  (Code.region 10 abO true).wp prog Q ⟨#[(.pointer (some ⟨b,0,none⟩)),u1,u2,(.pointer (some ⟨s,0,none⟩)),(.int .i64 (k:Int)),u5,u6,u7,u8,u9,u10,u11,u12,u13,u14,u15,u16,u17,u18,u19,u20,u21,u22,u23,u24,u25,u26,u27,u28,u29,u30,u31,u32,u33,u34,u35,u36,u37,u38,u39,u40,u41,u42,u43,u44,u45,u46,u47,u48,u49,u50,u51,u52,u53,u54,u55,u56,u57,u58,u59,u60,u61,u62,u63,u64,u65,u66,u67,u68,u69,u70,u71,u72,u73,u74,u75,u76,u77,u78,u79,u80,u81,u82,u83,u84,u85,u86,u87,u88,u89,u90,u91,u92,u93,u94,u95,u96,u97,u98,u99,u100,u101,u102,u103,u104,u105,u106,u107,u108,u109,u110,u111,u112,u113,u114,u115,u116,u117,u118,u119,u120,u121,u122,u123,u124,u125],D⟩ w:=by
 conv=>arg 2;arg 2;whnf
 obtain ⟨i0,hi,hz0,hz1,hz2⟩:=Ae;refine bO ?_;refine bD (KC b s k (.slice A1 N1 jQ) kd) [13] (by kernel_rfl) ?_;have hS0:KC b s k (.slice A1 N1 jQ) kd w:=⟨h3,hcK⟩;have hB0:Below w.heap.size w w.drew:=(Below.refl _ w).drew;have hS:KC b s k (.slice A1 N1 jQ) kd w.drew:=hS0;clear h3 hcK;refine aX 0 hS ?_;refine aX 1 hS ?_;refine aX 2 hS ?_;refine aX 3 hS ?_;refine aX 4 hS ?_;refine aX 5 hS ?_;refine aX 6 hS ?_;refine aX 7 hS ?_;refine aX 8 hS ?_;refine aX 9 hS ?_;refine fu 10 fun K hK=>?_
 go_simp;have hB1:=hB0.alloc hB0.size (.cells #[.int .i64 (k:Int),.int .i64 1,.int .i64 kd] 158);refine hK.out _ _ (fun _=>hS0.later hB1 hb hs) (fun hS=>?_);clear hK K;replace hS:=hS rfl;try simp only [Act.put,gM,gN,gP]
 have kN:=ag.new w.drew 158 #[.int .i64 (k:Int),.int .i64 1,.int .i64 kd];have lh:ag (w.drew.alloc (.cells #[.int .i64 (k:Int),.int .i64 1,.int .i64 kd] 158)) s 87 cs:=k3.call hB1;have wm:(w.drew.alloc (.cells #[.int .i64 (k:Int),.int .i64 1,.int .i64 kd] 158)).ownsRow NB 158 3 (.slice A1 N1 jQ) N1 xs:=aB ro hB1;refine fu 11 fun K hK=>?_
 rw [if_pos (by simp [Region.wanted])];refine wp_append_own _ (.tmp 65) (.tmp 74) 83 rfl NB 158 i0 (.agg #[.int .i64 0,.int .i64 0,.int .i64 0]) 3 24 underlying83 hi hz0 hz1 hz2 rfl (by decide) _ N1 xs rfl wm ⟨w.heap.size,0,none⟩ 1 1 [.int .i64 (k:Int),.int .i64 1,.int .i64 kd] rfl rfl (xz kN) (WL ((k:Int),1,kd)) (by unfold maxLen;omega) (by omega) (Nat.le_trans Zz hB1.size) ?_;intro v' w4 hown' hgrow _;obtain ⟨PM,yY,rfl,_⟩:=dC hown';have F4:af (fun g=>g=s∨(Value.slice A1 N1 jQ).ownBlock=some g) w w4:=(af.of_below hB1).grown hgrow (fun g hg _=>.inr hg);have nQ:=lh.grown hgrow (fun h=>di wm h.symm lh (by decide));have f34:=nQ.frozen;have c34:w4.cell? ⟨s,0,none⟩=some (.slice A1 N1 jQ):=(nQ.cell 0).trans ((k3.cell 0).symm.trans hS0.1);have hbr:(Value.slice A1 N1 jQ).ownBlock≠some b:=fun h=>by have:=(ro.lt b h).1;omega
 refine hK.out _ _ (fun _=>?later) (fun hS=>?_)
 case later=>exact ⟨c34,F4.cell hS0.2 (fun h=>h.elim (fun h=>hbs h) hbr)⟩
 clear hK K;replace hS:=hS rfl;try simp only [Act.put,gM,gN,gP]
 refine fu 12 fun K hK=>?_
 go_simp;refine hK.out _ _ (fun _=>hS) (fun hS=>?_);clear hK K;replace hS:=hS rfl;try simp only [Act.put,gM,gN,gP]
 refine fu 13 fun K hK=>?_
 go_simp;refine hK.out _ _ (fun h=>absurd h (by decide)) (fun _=>?_);clear hK K;refine bz (by kernel_rfl) ?_ _;refine aT ?_;have F5:af (fun g=>g=s∨(Value.slice A1 N1 jQ).ownBlock=some g) w (w4.setCell ⟨s,0,none⟩ (.slice PM (N1+1) yY)):=F4.setCell (p:=⟨s,0,none⟩) (fun _=>.inl rfl) _;have F6:af (fun g=>g=s) w4 (w4.setCell ⟨s,0,none⟩ (.slice PM (N1+1) yY)):=af.setCell (T:=fun g=>g=s) (p:=⟨s,0,none⟩) (af.refl _ _) (fun _=>rfl) _;exact hQ _ _ _ _ _ _ _ _ _ _ _ _ _ _ PM yY F5.size (nQ.aO 0 _) (aK hown' F6 (fun g hg h=>di hown' (hg.trans (congrArg some h)) nQ (by decide))) F5
theorem SY {Q:Exit→Act→World→Prop} {u1 u2 u5 u6 u7 u8 u9 u10 u11 u12 u13 u14 u15 u16 u17 u18 u19 u20 u21 u22 u23 u24 u25 u26 u27 u28 u29 u30 u31 u32 u33 u34 u35 u36 u37 u38 u39 u40 u41 u42 u43 u44 u45 u46 u47 u48 u49 u50 u51 u52 u53 u54 u55 u56 u57 u58 u59 u60 u61 u62 u63 u64 u65 u66 u67 u68 u69 u70 u71 u72 u73 u74 u75 u76 u77 u78 u79 u80 u81 u82 u83 u84 u85 u86 u87 u88 u89 u90 u91 u92 u93 u94 u95 u96 u97 u98 u99 u100 u101 u102 u103 u104 u105 u106 u107 u108 u109 u110 u111 u112 u113 u114 u115 u116 u117 u118 u119 u120 u121 u122 u123 u124 u125:Value} {D:List Deferred} (b s k NB N3 nK:Nat) (A3:Option Addr) (f:Nat→Int) (cs:Array Value) (xs:List Value) (w:World)
  (hk:(k:Int)<1024) (hN:N3≤1024) (hb:b<w.heap.size) (hs:s<w.heap.size) (Zz:NB≤w.heap.size) (hbN:b<NB) (hbs:¬b=s) (hcX:w.rangeAt b (1088+k*64) (fq .u8 64 f).toList)
  (k3:ag w s 87 cs) (h3:w.cell? ⟨s,2,none⟩=some (.slice A3 N3 nK)) (ro:w.ownsRow NB 167 65 (.slice A3 N3 nK) N3 xs)
  (hQ:∀(x112 x113 x114 x115 adq adr ads adt adu adv adw adx ady:Value) (w':World) (Ta:Option Addr) (BG:Nat),w.heap.size≤w'.heap.size→ag w' s 87 (cs.setIfInBounds 2 (.slice Ta (N3+1) BG))→w'.ownsRow NB 167 65 (.slice Ta (N3+1) BG) (N3+1) (xs++(jP (k:Int) f).toList) →
   af (fun g=>g=s∨(Value.slice A3 N3 nK).ownBlock=some g) w w'→Q .normal ⟨#[(.pointer (some ⟨b,0,none⟩)),u1,u2,(.pointer (some ⟨s,0,none⟩)),(.int .i64 (k:Int)),u5,u6,u7,u8,u9,u10,u11,u12,u13,u14,u15,u16,u17,u18,u19,u20,u21,u22,u23,u24,u25,u26,u27,u28,u29,u30,u31,u32,u33,u34,u35,u36,u37,u38,u39,u40,u41,u42,u43,u44,u45,u46,u47,u48,u49,u50,u51,u52,u53,u54,u55,u56,u57,u58,u59,u60,u61,u62,u63,u64,u65,u66,u67,u68,u69,u70,u71,u72,u73,u74,u75,u76,u77,u78,u79,u80,u81,u82,u83,u84,u85,u86,u87,u88,u89,u90,u91,u92,u93,u94,u95,u96,u97,u98,u99,u100,u101,u102,u103,u104,u105,u106,u107,u108,u109,u110,u111,x112,x113,x114,x115,adq,adr,ads,adt,adu,adv,adw,adx,ady,u125],D⟩ w') :
  (Code.region 14 abP true).wp prog Q ⟨#[(.pointer (some ⟨b,0,none⟩)),u1,u2,(.pointer (some ⟨s,0,none⟩)),(.int .i64 (k:Int)),u5,u6,u7,u8,u9,u10,u11,u12,u13,u14,u15,u16,u17,u18,u19,u20,u21,u22,u23,u24,u25,u26,u27,u28,u29,u30,u31,u32,u33,u34,u35,u36,u37,u38,u39,u40,u41,u42,u43,u44,u45,u46,u47,u48,u49,u50,u51,u52,u53,u54,u55,u56,u57,u58,u59,u60,u61,u62,u63,u64,u65,u66,u67,u68,u69,u70,u71,u72,u73,u74,u75,u76,u77,u78,u79,u80,u81,u82,u83,u84,u85,u86,u87,u88,u89,u90,u91,u92,u93,u94,u95,u96,u97,u98,u99,u100,u101,u102,u103,u104,u105,u106,u107,u108,u109,u110,u111,u112,u113,u114,u115,u116,u117,u118,u119,u120,u121,u122,u123,u124,u125],D⟩ w:=by
 conv=>arg 2;arg 2;whnf
 obtain ⟨iD,hi,hz0,hz1,hz2⟩:=info_parts UR;have hbt:=zy (k:Int) f;have hfl:=CP (k:Int) f;obtain ⟨E,hE⟩:=aj (jP (k:Int) f);have hEs:E.toList.length=65:=by rw [←hE];simp [jP]
 have hEo:∀u∈E.toList,u.oneCell'=true:=by
  intro u hu;rw [←hE] at hu;unfold jP at hu;rw [List.mem_cons] at hu;rcases hu with rfl|hu
  ·rfl
  ·rw [List.mem_map] at hu
   obtain ⟨i,_,rfl⟩:=hu;rfl
 obtain ⟨X,hX⟩:=aj (fq .u8 64 f);have kF:(prog.info? 63).map (·.size)=some X.toList.length:=by rw [←hX];exact pI
 rw [hX] at hbt hcX;rw [hE] at hfl hbt hQ;clear hX hE;have ajz:Instr.fill (fun i=>some (i*iD.size,iD.size)) ((Array.range (1*iD.size)).map ((Value.agg (jP 0 (fun _=>0))).cells[· % (Value.agg (jP 0 (fun _=>0))).cells.size]!)) [(0,.agg E)]=some E:=by rw [hz1];exact hfl
 have hs1:¬1*iD.size > 2 ^ 24:=by rw [hz1];decide
 have hs2:¬1*iD.size=0:=by rw [hz1];decide
 refine bO ?_;refine bD (KD b s k (.slice A3 N3 nK) X.toList) [13] (by kernel_rfl) ?_;have hS0:KD b s k (.slice A3 N3 nK) X.toList w:=⟨h3,hcX⟩;have hB0:Below w.heap.size w w.drew:=(Below.refl _ w).drew;have hS:KD b s k (.slice A3 N3 nK) X.toList w.drew:=hS0;clear h3 hcX hfl;refine aX 0 hS ?_;refine aX 1 hS ?_;refine aX 2 hS ?_;refine aX 3 hS ?_;refine aX 4 hS ?_;refine aX 5 hS ?_;refine aX 6 hS ?_;refine aX 7 hS ?_;refine' wJ (i:=8) (v:=.agg X.toList.toArray) ?ajA (by kernel_rfl) ?ajB ?ajC hS ?anY
 case ajA=>(simp only [List.getElem?_toArray,List.getElem?_cons_succ,List.getElem?_cons_zero];rfl)
 case ajB=>exact fun _ _ _ h=>h
 case ajC=>exact yieldsIf_load_mid rfl 63 (.tmp 119) rfl b (1088+k*64) rfl X.toList _ (fun _ h=>h.2) underlying63 rfl kF
 try simp only [Act.put,gM,gN,gP]
 rw [Array.toArray_toList];refine' wJ (i:=9) (v:=.agg E) ?ajD (by kernel_rfl) ?ajE ?ajF hS ?anZ
 case ajD=>(simp only [List.getElem?_toArray,List.getElem?_cons_succ,List.getElem?_cons_zero];rfl)
 case ajE=>exact fun _ _ _ h=>h
 case ajF=>exact Fe rfl 167 [(0,.tmp 114),(1,.tmp 120)] rfl _ rfl E hbt
 try simp only [Act.put,gM,gN,gP]
 have hB1:=hB0.alloc hB0.size (.cells E 167);have kN:=ag.new w.drew 167 E;have lh:ag (w.drew.alloc (.cells E 167)) s 87 cs:=k3.call hB1;have wm:(w.drew.alloc (.cells E 167)).ownsRow NB 167 65 (.slice A3 N3 nK) N3 xs:=aB ro hB1;refine fu 10 fun K hK=>?_
 rw [if_pos (by simp [Region.wanted])];refine Ff 85 167 1 [(0,.tmp 121)] rfl _ rfl E iD _ underlying85 hi hz0 hs1 hs2 ajz ?_;refine hK.out _ _ (fun _=>hS0.later hB1 hb hs) (fun hS=>?_);clear hK K;replace hS:=hS rfl;try simp only [Act.put,gM,gN,gP]
 refine fu 11 fun K hK=>?_
 rw [if_pos (by simp [Region.wanted])];refine wp_append_own _ (.tmp 113) (.tmp 122) 85 rfl NB 167 iD (.agg (jP 0 (fun _=>0))) 65 72 underlying85 hi hz0 hz1 hz2 rfl (by decide) _ N3 xs rfl wm ⟨w.heap.size,0,none⟩ 1 1 E.toList rfl hEs (xz (l:=E.toList) kN) hEo (by unfold maxLen;omega) (by omega) (Nat.le_trans Zz hB1.size) ?_;intro v' w4 hown' hgrow _;obtain ⟨Ta,BG,rfl,_⟩:=dC hown';have F4:af (fun g=>g=s∨(Value.slice A3 N3 nK).ownBlock=some g) w w4:=(af.of_below hB1).grown hgrow (fun g hg _=>.inr hg);have nQ:=lh.grown hgrow (fun h=>di wm h.symm lh (by decide));have f34:=nQ.frozen;have c34:w4.cell? ⟨s,2,none⟩=some (.slice A3 N3 nK):=(nQ.cell 2).trans ((k3.cell 2).symm.trans hS0.1);have hbr:(Value.slice A3 N3 nK).ownBlock≠some b:=fun h=>by have:=(ro.lt b h).1;omega
 refine hK.out _ _ (fun _=>?later) (fun hS=>?_)
 case later=>exact ⟨c34,fun j u hj=>F4.cell (hS0.2 j u hj) (fun h=>h.elim (fun h=>hbs h) hbr)⟩
 clear hK K;replace hS:=hS rfl;try simp only [Act.put,gM,gN,gP]
 refine fu 12 fun K hK=>?_
 go_simp;refine hK.out _ _ (fun _=>hS) (fun hS=>?_);clear hK K;replace hS:=hS rfl;try simp only [Act.put,gM,gN,gP]
 refine fu 13 fun K hK=>?_
 go_simp;refine hK.out _ _ (fun h=>absurd h (by decide)) (fun _=>?_);clear hK K;refine bz (by kernel_rfl) ?_ _;refine aT ?_;have F5:af (fun g=>g=s∨(Value.slice A3 N3 nK).ownBlock=some g) w (w4.setCell ⟨s,2,none⟩ (.slice Ta (N3+1) BG)):=F4.setCell (p:=⟨s,2,none⟩) (fun _=>.inl rfl) _;have F6:af (fun g=>g=s) w4 (w4.setCell ⟨s,2,none⟩ (.slice Ta (N3+1) BG)):=af.setCell (T:=fun g=>g=s) (p:=⟨s,2,none⟩) (af.refl _ _) (fun _=>rfl) _;exact hQ _ _ _ _ _ _ _ _ _ _ _ _ _ _ Ta BG F5.size (nQ.aO 2 _) (aK hown' F6 (fun g hg h=>di hown' (hg.trans (congrArg some h)) nQ (by decide))) F5
theorem abQ:(prog.info? 120).map (fun i=>(i.zero,i.size,i.bytes))=some (some (.agg #[.int .i64 0,.int .i64 0,.int .i64 0,.int .i64 0,.bool false]),5,40):=by kernel_rfl
theorem qa:∃i0,prog.info? 120=some i0∧i0.zero=some (.agg #[.int .i64 0,.int .i64 0,.int .i64 0,.int .i64 0,.bool false])∧i0.size=5∧i0.bytes=40:=by
 have h:=abQ;cases hi:prog.info? 120 with
 | none=>rw [hi] at h;cases h
 | some i0 =>
  rw [hi] at h;simp only [Option.map_some,Option.some.injEq,Prod.mk.injEq] at h;exact ⟨i0,rfl,h.1,h.2.1,h.2.2⟩
theorem Td (b:Nat) (L:List Nd) (w:World) (hB:bA w b L) (hO:L.length≤64) :
  Calls prog 32 #[.pointer (some ⟨b,0,none⟩)] w fun e w'=>(∃(A:Option Addr) (cap:Nat),e= .returned (.agg #[.slice A L.length cap])∧Rd w' w'.heap.size A (fl iL L)∧L.length≤cap∧cap≤maxLen)∧Below w.heap.size w w':=by
 obtain ⟨s,hs⟩:=aj (w.heap.size);have hb0:=aV w (.cells #[.slice none 0 0] 94);have k0:=ag.new w 94 #[.slice none 0 0];have hz1:(w.alloc (.cells #[.slice none 0 0] 94)).heap.size=s+1:=by simp [hs]
 rw [hs] at k0;go_enter func32,ntmps32;go_upto_region 1 with fail
 generalize w.alloc _=w0 at *;try simp only [hs]
 have hb1:=aV w0 (.cells #[.slice none 0 0] 94);have k1:=ag.new w0 94 #[.slice none 0 0];rw [hz1] at k1;have B1:=hb0.trans (hb1.mono hb0.size);have Dp:=k0.call hb1;have hz2:(w0.alloc (.cells #[.slice none 0 0] 94)).heap.size=s+2:=by simp [hz1]
 go_upto_region 2 with fail
 generalize w0.alloc _=w1 at *;try simp only [hz1]
 have pM:=ae hB;have hB1:=hB.call B1;clear k0 hb0 hb1 hB;obtain ⟨A0,cap0,EP,row⟩:=pM.out.ex;have kbH:=ae EP;have kb:=EP.call B1;have cb:=kb.cell;have yA:∀{i:Nat},i<L.length→∃g,A0=some ⟨g,0,none⟩:=fun {i} hi=>by
  obtain ⟨g,c',_,_,kg,_⟩:=hB1.node hi;have:=(kg.cell 1).symm.trans (kb.cell 1);simp at this;exact ⟨g,this.1.symm⟩
 obtain ⟨n,hn0⟩:=aj (L.length);have hn:=ae hn0;rw [hn0] at cb hO yA;clear hn0 row EP;obtain ⟨i0,hi0,hi1,hi2,hi3⟩:=qa;have an0:n≤64:=hO;go_upto_region 4 with fail
 go_loopw [13] (fun u wr=>∃(i:Nat) (v:Value),u= .int .i64 i∧i≤n∧ag wr s 94 #[.slice none 0 0]∧ag wr (s+1) 94 #[v]∧wr.ownsRow (s+2) 120 5 v i (fl iL (L.take i))∧Below w.heap.size w wr∧s+2≤wr.heap.size) (fun u _=>n - (intOf u).toNat)
 case atStart=>exact ⟨0,_,rfl,by omega,Dp,k1,World.ownsRow_nil _ _ _ _,B1,by omega⟩
 case round =>
  clear Dp k1 hB1 kb B1 cb;obtain ⟨i,v,rfl,hi,k0,k1,hrow,hB,hsz⟩:=hrel;by_cases hlt:i<n
  ·have d1:decide ((i:Int)<(n:Int))=true:=by simpa using hlt
   obtain ⟨g,rfl⟩:=yA hlt;have JU:=pM.out.call hB;obtain ⟨g',c',_,_,kg,_,hgl,hcell,_⟩:=JU.node (i:=i) (by rw [hn.out];exact hlt);have hgg:g'=g:=by
    have:=(kg.cell 1).symm.trans ((kbH.out.call hB).cell 1);simp at this;exact this.1
   subst hgg;have hst:=CR L i (by rw [hn.out];exact hlt);have hq:∀(q:Nat) (v:Value),(Rc (L.getD i nd0))[q]? = some v→wr.cell? ⟨g',i*6+q,none⟩=some v:=hcell i (by rw [hn.out];exact hlt);generalize L.getD i nd0=x at *;have q0:=hq 0 _ rfl;have q1:=hq 1 _ rfl;have q2:=hq 2 _ rfl;have q3:=hq 3 _ rfl;have q4:=hq 4 _ rfl;have q5:=hq 5 _ rfl;simp only [Nat.add_zero] at q0;have ck1:=k1.cell;clear hq hcell kg JU;go_upto_region 6 with fail
   have dJ:=aV wr (.cells #[.int .i64 x.par,.int .i64 x.lim,.int .i64 x.own,.int .i64 x.iZ,.bool x.cl,.int .i64 x.all] 122);have kx:=ag.new wr 122 #[.int .i64 x.par,.int .i64 x.lim,.int .i64 x.own,.int .i64 x.iZ,.bool x.cl,.int .i64 x.all];have k02:=k0.call dJ;have k12:=k1.call dJ;have hrow2:=aB hrow dJ;have B2:=hB.trans (dJ.mono hB.size);have hz2:=dJ.size;obtain ⟨gx,hgx⟩:=aj (wr.heap.size);rw [hgx] at kx;generalize wr.alloc _=w2 at *;try simp only [hgx]
   have cx:=kx.cell;have ck2:=k12.cell;have kN:=ag.new w2 120 (iL x).toArray;clear q0 q1 q2 q3 q4 q5 ck1 k0 k1 hrow hB dJ;go_upto_region 7 with (at_builtin;refine wpList_append_own _ rfl (.tmp 18) (.tmp 21) 92 rfl (s+2) 120 i0 (.agg #[.int .i64 0,.int .i64 0,.int .i64 0,.int .i64 0,.bool false]) 5 40 underlying92 hi0 hi1 hi2 hi3 rfl (by decide) v i (fl iL (L.take i)) rfl (hrow2.alloc _) ⟨w2.heap.size,0,none⟩ 1 1 (iL x) rfl rfl (xz kN) (fun u hu=>by simp only [iL,List.mem_cons,List.not_mem_nil,or_false] at hu;rcases hu with rfl|rfl|rfl|rfl|rfl <;> rfl) (by unfold maxLen;omega) (by omega) (by simp;omega) ?_;intro v' w3 hown' hgrow _;rw [←Po,←hst] at hown';obtain ⟨A',cap',rfl,ZR,hn',hm',_,_⟩:=dC hown';have ZT:=(k02.alloc (.cells (iL x).toArray 120)).grown hgrow (fun e=>by have:=(hrow2.lt s e.symm).1;omega);have k13:=(k12.alloc (.cells (iL x).toArray 120)).grown hgrow (fun e=>by have:=(hrow2.lt (s+1) e.symm).1;omega);have ck3:=k13.cell;have fk3:=k13.frozen)
   have F3:af (fun k=>k=s+1) w3 (w3.setCell ⟨s+1,0,none⟩ (.slice A' (i+1) cap')):=af.setCell (T:=fun k=>k=s+1) (p:=⟨s+1,0,none⟩) (af.refl _ w3) (fun _=>rfl) _;have B3:=(B2.alloc B2.size (.cells (iL x).toArray 120)).grown hgrow (by rw [World.size_alloc];omega) (fun k hk=>by have:=(hrow2.lt k hk).1;omega);have k14:=k13.aO 0 (.slice A' (i+1) cap');have k04:=F3.blk ZT (by omega);have Cb:=aK hown' F3 (fun g hg=>by have:=(hown'.lt g hg).1;omega);have B4:=B3.trans (F3.below B3.size (fun k hk e=>by omega));have hz3:=hgrow.size;rw [World.size_alloc] at hz3;have Yb:=F3.size;generalize w3.setCell _ _=w4 at *;go_wp2_with fail;go_roundw
   case rel=>exact ⟨i+1,_,by go_num,by omega,k04,k14,Cb,B4,by omega⟩
   case measure=>simp [intOf];omega
  ·obtain rfl:i=n:=by omega
   have d1:decide ((i:Int)<(i:Int))=false:=by simp
   obtain ⟨A',cap',rfl,ZR,hn',hm',_,_⟩:=dC hrow;have c1:=k1.cell;have c0:=k0.cell;have f0:=k0.frozen;have k05:=k0.aO 0 (.slice A' i cap');have F5:af (fun k=>k=s) wr (wr.setCell ⟨s,0,none⟩ (.slice A' i cap')):=af.setCell (T:=fun k=>k=s) (p:=⟨s,0,none⟩) (af.refl _ wr) (fun _=>rfl) _;have B5:=hB.trans (F5.below hB.size (fun k hk e=>by omega));have ZU:=aK hrow F5 (fun g hg=>by have:=(hrow.lt g hg).1;omega);go_wp2_with fail;generalize wr.setCell _ _=w5 at *;have c5:=k05.cell;refine bodyPost_ret (v:=.agg #[.slice A' i cap']) (by simp [results,results32,go_sem,c5]) rfl ?_;obtain ⟨A2,cap2,he,UW,hn2,hm2,_,_⟩:=dC ZU;cases he;rw [List.take_of_length_le (by rw [hn.out];exact Nat.le_refl _)] at UW;refine ⟨⟨A',cap',by rw [hn.out],UW,by rw [hn.out];exact hn2,hm2⟩,B5⟩
theorem tJ (n lo hi:Int) (w:World):Calls prog 141 #[.int .i64 n,.int .i64 lo,.int .i64 hi] w fun e w'=>e= .returned (.bool (decide (lo≤n∧n≤hi)))∧w'=w:=by
 by_cases h:lo≤n
 ·have d1:decide (lo≤n)=true:=by simpa using h
  have h':decide (lo≤n∧n≤hi)=decide (n≤hi):=by simp [h]
  rw [h'];go_enter func141,ntmps141;go_wp2_with fail;go_ret;exact ⟨rfl,rfl⟩
 ·have d1:decide (lo≤n)=false:=by simpa using h
  have h':decide (lo≤n∧n≤hi)=false:=by simp [h]
  rw [h'];go_enter func141,ntmps141;go_wp2_with fail;go_ret;exact ⟨rfl,rfl⟩
theorem lM (N b:Nat) (n:Int) (L:List Nd) (w:World) (hB:eP w N b L) (hO:jE L) :
  Calls prog 142 #[.pointer (some ⟨b,0,none⟩),.int .i64 n] w fun e w'=>e= .returned (.bool (decide (0≤n∧n<(L.length:Int))))∧w'=w:=by
 obtain ⟨g,cap,hc1,hc2,kb,hg,hgl,hcell,hfz⟩:=hB.node hO.pos;have cb:=kb.cell;obtain ⟨m,hm⟩:=aj (L.length);have hmm:=hO.few;rw [hm] at cb hmm ⊢;by_cases h1:0≤n
 ·have d1:decide (0≤n)=true:=by simpa using h1
  by_cases h2:n<(m:Int)
  ·have d2:decide (n<(m:Int))=true:=by simpa using h2
   have h':decide (0≤n∧n<(m:Int))=true:=by simp [h1,h2]
   obtain ⟨i,rfl⟩:∃i:Nat,n=(i:Int):=⟨n.toNat,by omega⟩;have hi:i<L.length:=by omega
   have c4:=hcell i hi 4 (.bool (L.getD i nd0).cl) rfl;rw [(hO.chain i hi).1] at c4;rw [h'];clear h1 h2 h';have h2:i<m:=by omega
   go_enter func142,ntmps142;go_wp2_with fail;go_ret;exact ⟨rfl,rfl⟩
  ·have d2:decide (n<(m:Int))=false:=by simpa using h2
   have h':decide (0≤n∧n<(m:Int))=false:=by simp [h2]
   rw [h'];go_enter func142,ntmps142;go_wp2_with fail;go_ret;exact ⟨rfl,rfl⟩
 ·have d1:decide (0≤n)=false:=by simpa using h1
  have h':decide (0≤n∧n<(m:Int))=false:=by simp [h1]
  rw [h'];go_enter func142,ntmps142;go_wp2_with fail;go_ret;exact ⟨rfl,rfl⟩
theorem IB (N b i:Nat) (L:List Nd) (w:World) (hB:eP w N b L) (hO:jE L) (hi:i<L.length) :
  Calls prog 233 #[.pointer (some ⟨b,0,none⟩),.int .i64 i] w fun e w'=>∃(A:Option Addr) (cap:Nat),e= .returned (.slice A (i+1) cap)∧RI w' w'.heap.size A (mE i (i+1))∧Below w.heap.size w w':=by
 obtain ⟨i0,hi0,hz0,hz1,hz2⟩:=yz;have pM:=ae hB;have IC:=ae hO;have hmm:=hO.few;obtain ⟨m,hm⟩:=aj (L.length);have pO:=ae hm;rw [hm] at hi hmm;clear hB hO hm;go_enter func233,ntmps233;go_upto_region 2 with fail
 go_loopw [1,5] (fun u1 u5 wr=>∃k:Nat,u1= .int .i64 ((i:Int) - k)∧k≤i+1∧wr.ownsRow w.heap.size 3 1 u5 k ((mE i k).map (Value.int .i64))∧Below w.heap.size w wr) (fun u1 _ _=>(intOf u1+1).toNat)
 case atStart=>exact ⟨0,by simp,by omega,World.ownsRow_nil _ _ _ _,Below.refl _ _⟩
 case round =>
  obtain ⟨k,rfl,hk,hrow,hB⟩:=hrel;have JU:=pM.out.call hB;have HO:=ae (lM N b ((i:Int) - k) L wr JU IC.out);rw [pO.out] at HO;have oV:=hB.size;obtain ⟨A,cap,hv,hnk,hcm⟩:∃(A:Option Addr) (cap:Nat),u5= .slice A k cap∧k≤cap∧cap≤maxLen:=by
   obtain ⟨A,cap,hv,_,h1,h2,_⟩:=dC hrow;exact ⟨A,cap,hv,h1,h2⟩
  by_cases hlt:k<i+1
  ·rw [show decide (0≤(i:Int) - k∧(i:Int) - k<(m:Int))=true by simp;omega] at HO
   have d2:decide ((k:Int)≤(m:Int))=true:=by simp;omega
   obtain ⟨g,c',hc1,hc2,kb,_,hgl,hcell,_⟩:=JU.node (i:=i - k) (by rw [pO.out];omega);have q0:=hcell (i - k) (by rw [pO.out];omega) 0 (.int .i64 ((L.getD (i - k) nd0).par)) rfl;rw [(IC.out.chain (i - k) (by rw [pO.out];omega)).2] at q0;rw [show ((i - k:Nat):Int) - 1=(i:Int) - k - 1 by omega] at q0;obtain ⟨j,hj⟩:∃j:Nat,(i:Int) - k=j:=⟨i - k,by omega⟩;have hjk:i - k=j:=by omega
   rw [hjk] at q0;rw [hj] at q0 HO ⊢;have hjm:j<m:=by omega
   rw [pO.out] at kb hc1;have cb:=kb.cell;have hps:=PN i k;rw [hj] at hps;subst hv;clear hcell kb;go_wp2_with fail;refine HO.out.mono ?_;rintro e w2 ⟨rfl,hw2⟩;replace hw2:=hw2.symm;subst hw2;have kN:=ag.new wr 3 #[.int .i64 j];go_upto_region 4 with (at_builtin;refine wpList_append_own _ rfl (.tmp 19) (.tmp 21) 84 rfl w.heap.size 3 i0 (.int .i64 0) 1 8 underlying84 hi0 hz0 hz1 hz2 rfl (by decide) (.slice A k cap) k ((mE i k).map (Value.int .i64)) rfl (hrow.alloc _) ⟨wr.heap.size,0,none⟩ 1 1 [.int .i64 j] rfl rfl (Fu kN) zt (by unfold maxLen;omega) (by omega) (by simp;omega) ?_;intro v' w3 hown' hgrow _)
   have B3:=(hB.alloc oV (.cells #[.int .i64 j] 3)).grown hgrow (by rw [World.size_alloc];omega) (fun k hk=>(hrow.lt k hk).1);have hown3:w3.ownsRow w.heap.size 3 1 v' (k+1) ((mE i (k+1)).map (Value.int .i64)):=by
    rw [hps,List.map_append];exact hown'
   have hbj:b<w.heap.size:=pM.out.lt;have hB3:=pM.out.call B3;obtain ⟨g3,c3,_,_,qI,_,ajG,zD,_⟩:=hB3.node (i:=j) (by rw [pO.out];exact hjm);have q3:=zD j (by rw [pO.out];exact hjm) 0 (.int .i64 ((L.getD j nd0).par)) rfl;rw [(IC.out.chain j (by rw [pO.out];exact hjm)).2] at q3;rw [pO.out] at qI;have cb3:=qI.cell;clear zD qI q0 cb hown' hgrow hrow kN hps hB JU hB3;simp only [Nat.add_zero] at q3;go_wp2_with fail;go_roundw
   case rel=>exact ⟨k+1,by go_num,by omega,hown3,B3⟩
   case measure=>simp [intOf]
  ·obtain rfl:k=i+1:=by omega
   rw [show decide (0≤(i:Int) - ((i+1:Nat):Int)∧(i:Int) - ((i+1:Nat):Int)<(m:Int))=false by simp;omega] at HO;subst hv;obtain ⟨nn,hnn⟩:∃nn:Int,(i:Int) - ((i+1:Nat):Int)=nn:=⟨_,rfl⟩;rw [hnn] at HO ⊢;go_wp2_with fail;refine HO.out.mono ?_;rintro e w2 ⟨rfl,hw2⟩;replace hw2:=hw2.symm;subst hw2;go_wp2_with fail;go_ret;obtain ⟨A',cap',he,gG⟩:=O1 hrow (by rw [tH]);cases he;exact ⟨A,cap,rfl,gG,hB⟩
theorem ZV (A:Option Addr) (n cap:Nat) (xs:List Int) (x:Int) (w:World) (hn:xs.length=n) (hm:n≤1000000) (hr:RI w w.heap.size A xs) :
  Calls prog 234 #[.slice A n cap,.int .i64 x] w fun e w'=>e= .returned (.bool (decide (x∈xs)))∧w'=w:=by
 have gI:=ae hr;have PQ:=ae hn;obtain ⟨R,hR⟩:=aj (decide (x∈xs));rw [hR];have hRH:=ae hR;clear hr hn hR;go_enter func234,ntmps234;go_upto_region 2 with fail
 go_loopw [5] (fun u5 wr=>∃k:Nat,u5= .int .i64 k∧k≤n∧(∀j,j<k→xs.getD j 0≠x)∧wr=w) (fun u5 _=>n - (intOf u5).toNat)
 case atStart=>exact ⟨0,rfl,by omega,fun j h=>absurd h (by omega),rfl⟩
 case round =>
  obtain ⟨k,rfl,hk,hno,rfl⟩:=hrel;have KZ:=ae hno;clear hno;by_cases hlt:k<n
  ·have d1:decide ((k:Int)<(n:Int))=true:=by simpa using hlt
   obtain ⟨b,o,rfl,hb,hc⟩:=gI.out.el (k:=k) (by rw [PQ.out];exact hlt);by_cases he:xs.getD k 0=x
   ·have hin:decide (x∈xs)=true:=by
     rw [decide_eq_true_eq,←he,List.getD_eq_getElem?_getD,List.getElem?_eq_getElem (by rw [PQ.out];exact hlt)];exact List.getElem_mem _
    have d2:(xs.getD k 0==x)=true:=by simpa using he
    have ZN:R=true:=by rw [←hRH.out];exact hin
    generalize xs.getD k 0=y at *;clear he hin;go_wp2_with fail;go_ret;exact ⟨by rw [ZN];rfl,rfl⟩
   ·have d2:(xs.getD k 0==x)=false:=by simpa using he
    have hn2:Hid (∀j,j<k+1→xs.getD j 0≠x):=ae (fun j hj=>by
     by_cases e:j=k
     ·rw [e];exact he
     ·exact KZ.out j (by omega))
    generalize xs.getD k 0=y at *;clear he;go_wp2_with fail;go_roundw
    case rel=>exact ⟨k+1,by go_num,by omega,hn2.out,trivial⟩
    case measure=>simp [intOf];omega
  ·obtain rfl:k=n:=by omega
   have d1:decide ((k:Int)<(k:Int))=false:=by simp
   have hin:decide (x∈xs)=false:=by
    rw [decide_eq_false_iff_not];intro h;obtain ⟨j,hj,e⟩:=List.getElem_of_mem h;refine KZ.out j (by rw [←PQ.out];exact hj) ?_;rw [List.getD_eq_getElem?_getD,List.getElem?_eq_getElem hj];exact e
   have ZN:R=false:=by rw [←hRH.out];exact hin
   clear hin;go_wp2_with fail;go_ret;exact ⟨by rw [ZN];rfl,rfl⟩
theorem tK {P:Program} {w:World} {ops:Array Oper} {rest:List Oper} {o:Oper} {a:Act} {Q:Exit→Act→World→Prop} (hgd:o.guard=none) (s x:Operand) (t:TypeId)
  (ho:o.op= .call { callee:=.builtin .append,args:=#[s,x],argTypes:=#[t,t] })
  (base:Nat) (e:TypeId) (i:TypeInfo) (z:Value) (size bytes:Nat) (ht:P.underlying t=some (.slice e)) (hi:P.info? e=some i) (hz:i.zero=some z)
  (hsize:i.size=size) (hby:i.bytes=bytes) (hzs:z.cells.size=size) (hsz:0<size)
  (v:Value) (n:Nat) (xs:List Value) (hs:a.eval s=v) (hown:w.ownsRow base e size v n xs)
  (A:Option Addr) (m c:Nat) (news:List Value) (hx:a.eval x= .slice A m c) (hA:A=none→m=0∧c=0) (hl:news.length=m*size) (hnews:∀ad,A=some ad→∀j u,news[j]? = some u→w.cell? (ad.add j)=some u) (h1:∀u∈news,u.oneCell'=true)
  (h63:n+m≤maxLen) (hbytes:(n+m)*bytes≤140737488355328) (hbase:base≤w.heap.size)
  (h:∀v' w',w'.ownsRow base e size v' (n+m) (xs++news)→w.grownBy w' v.ownBlock→wpList P ops Q rest (a.put o.dst v') w'):wpList P ops Q (o::rest) a w:=by
 cases A with
 | none =>
  obtain ⟨rfl,rfl⟩:=hA rfl;have hn:news=[]:=List.eq_nil_of_length_eq_zero (by rw [hl];simp);subst hn;exact wpList_append_own_none hgd s x t ho base e i size ht hi v n xs hs hown hx (h v w (by simpa using hown) (World.grownBy.refl _ _))
 | some ad=>exact wpList_append_own _ hgd s x t ho base e i z size bytes ht hi hz hsize hby hzs hsz v n xs hs hown ad m c news hx hl (hnews ad rfl) h1 h63 hbytes hbase fun v' w' h2 h3 _=>h v' w' h2 h3
theorem Tf (B b:Nat) (V:Vm) (w:World) (hV:bq w B b V) (hG:fK V) :
  Calls prog 37 #[.pointer (some ⟨b,0,none⟩)] w (Zu V w):=by
 obtain ⟨cs,A,n,cap,kb,hc,hn,hr,hBb,hok⟩:=hV.ex;have hbl:=kb.lt;have hb0:=aV w (.cells (gq (.slice none 0 0) (.slice none 0 0) (.slice none 0 0) (.slice none 0 0) (fun _=>0) (fun _=>0)).toArray 87);have k2:=ag.new w 87 (gq (.slice none 0 0) (.slice none 0 0) (.slice none 0 0) (.slice none 0 0) (fun _=>0) (fun _=>0)).toArray;have EP:=kb.call hb0;obtain ⟨s,hs⟩:=aj (w.heap.size);have hsz0:(w.alloc (.cells (gq (.slice none 0 0) (.slice none 0 0) (.slice none 0 0) (.slice none 0 0) (fun _=>0) (fun _=>0)).toArray 87)).heap.size=s+1:=by rw [World.size_alloc,hs]
 have hr0:Rd (w.alloc (.cells (gq (.slice none 0 0) (.slice none 0 0) (.slice none 0 0) (.slice none 0 0) (fun _=>0) (fun _=>0)).toArray 87)) B A (fl iN V.rf.rules):=hr.uX (T:=fun _=>False) (af.of_below hb0) (fun _ h=>h.elim);rw [hs] at k2;unfold gq aM at hb0 k2 hsz0 EP hr0;have hc':=ae hc;clear hV kb hr;go_enter func37,ntmps37;go_upto_region 1 with fail
 generalize w.alloc _=w0 at *;try simp only [hs]
 have oK:w0.rangeAt b 66624 (aM (.slice A n cap) V.rf.calls V.rf.hits):=fun j v hj=>by
  have Gh:j<15:=(List.getElem?_eq_some_iff.1 hj).1;rw [EP.cell,hc'.out.rf j Gh];exact hj
 have k3:=ag.new w0 87 (gq (.slice none 0 0) (.slice none 0 0) (.slice none 0 0) (.slice A n cap) V.rf.calls V.rf.hits).toArray;have hb1:=aV w0 (.cells (gq (.slice none 0 0) (.slice none 0 0) (.slice none 0 0) (.slice A n cap) V.rf.calls V.rf.hits).toArray 87);have k21:=k2.call hb1;have vT:=EP.call hb1;have hr1:=hr0.uX (T:=fun _=>False) (af.of_below hb1) (fun _ h=>h.elim);have hsz1:(w0.alloc (.cells (gq (.slice none 0 0) (.slice none 0 0) (.slice none 0 0) (.slice A n cap) V.rf.calls V.rf.hits).toArray 87)).heap.size=s+2:=by rw [World.size_alloc,hsz0]
 rw [hsz0] at k3;unfold gq aM at k3 hb1 k21 vT hr1 hsz1;clear k2 EP hr0 hc;go_upto_region 2 with (refine wpList_load_mid rfl 69 (.tmp 8) rfl b 66624 rfl (aM (.slice A n cap) V.rf.calls V.rf.hits) _ oK underlying69 rfl dM ?_;unfold aM)
 generalize w0.alloc _=w1 at *;try simp only [hsz0]
 obtain ⟨iR,WN,adz,adA,adB⟩:=zT;have MF:=(mX.1 hok.plan).1;have hn1:=hn.1;have NM:n≤50:=by omega
 have c67:w1.cell? ⟨b,66624,none⟩=some (.slice A n cap):=by rw [vT.cell];exact (hc'.out.rf 0 (by omega)).trans rfl
 have ajI:(w1.alloc (.cells #[] 164)).cell? ⟨b,66624,none⟩=some (.slice A n cap):=by rw [(vT.alloc _).cell];exact (hc'.out.rf 0 (by omega)).trans rfl
 have hbE:Below w1.heap.size w1 (w1.alloc (.cells #[] 164)):=(Below.refl _ _).alloc (Nat.le_refl _) _;have hrE:=hr1.uX (T:=fun _=>False) (af.of_below hbE) (fun _ h=>h.elim);have yA:A=none→n=0∧cap=0:=fun h=>by
  refine ⟨?_,hn.2 h⟩;rw [←hn.1];cases gG:V.rf.rules with
  | nil=>rfl
  | cons x r =>
   obtain ⟨b',o,e,_⟩:=hr1 0 (by rw [gG,lT jJ];simp);rw [h] at e;cases e
 have UX:∀ad,A=some ad→∀(j:Nat) (u:Value),(fl iN V.rf.rules)[j]? = some u→(w1.alloc (.cells #[] 164)).cell? (ad.add j)=some u:=fun ad h j u hj=>by
  obtain ⟨hlt,e⟩:=List.getElem?_eq_some_iff.1 hj;obtain ⟨b',o,e',_,hc⟩:=hrE j hlt;rw [h] at e';cases e';rw [dh,hc,e]
 have zJ:=ae k3;have Mm:w1.cell? ⟨s+1,3,none⟩=some (.slice A n cap):=(k3.cell 3).trans rfl;have ZW:=ae hsz1;clear k3 oK hr1 hrE hsz1;go_upto_region 3 with (refine tK rfl (.tmp 11) (.tmp 17) 26 rfl w1.heap.size 164 iR (.agg #[.int .i64 0,.int .i64 0,.int .i64 0,.int .i64 0]) 4 32 underlying26 WN adz adA adB rfl (by decide) _ 0 [] rfl (World.ownsRow_made w1 _ _ (Nat.le_refl _) (by unfold maxLen;omega) rfl) A n cap (fl iN V.rf.rules) rfl yA (by rw [lT jJ,hn1]) UX (NG V.rf.rules) (by unfold maxLen;omega) (by omega) (by simp) ?_;intro v' w2 hown' hgrow;have hb2:Below w1.heap.size w1 w2:=hbE.grown hgrow (by simp) (fun j hj=>by cases hj;exact Nat.le_refl _);have iU:=zJ.out.call hb2;have f32:=iU.frozen;have c32:w2.cell? ⟨s+1,3,none⟩=some (.slice A n cap):=(iU.cell 3).trans rfl;rw [Nat.zero_add,List.nil_append] at hown';obtain ⟨A4,c4,rfl,q1,_,_,q4,_⟩:=dC hown';clear Mm)
 have mH:=iU.aO 3 (.slice A4 n c4);have F3:af (fun k=>k=s+1) w2 (w2.setCell ⟨s+1,3,none⟩ (.slice A4 n c4)):=af.setCell (T:=fun k=>k=s+1) (p:=⟨s+1,3,none⟩) (af.refl _ w2) (fun _=>rfl) _;have pJ:=vT.call hb2;have k22:=k21.call hb2;have hsz1:=ZW.out;have hs0:s+1≤w0.heap.size:=Nat.le_of_eq hsz0.symm;have adC:Below s w w0:=by rw [←hs];exact hb0
 have B1:Below s w w1:=adC.trans (hb1.mono (by omega));have B2:Below s w w2:=B1.trans (hb2.mono (by omega));generalize w2.setCell ⟨s+1,3,none⟩ (.slice A4 n c4)=w3 at *;have nQ:ag w3 (s+1) 87 (gq (.slice none 0 0) (.slice none 0 0) (.slice none 0 0) (.slice A4 n c4) V.rf.calls V.rf.hits).toArray:=mH;have Zv:Rd w3 w2.heap.size A4 (fl iN V.rf.rules):=q1.Gb F3 (fun g o e=>by have:=q4 g o e;show ¬g=s+1;omega);have hbs:b<s:=by rw [←hs];exact hbl
 have qI:=F3.blk pJ (by show ¬b=s+1;omega);have k23:=F3.blk k22 (by show ¬s=s+1;omega);have hsz2:=hb2.size;have NK:w2.heap.size≤w3.heap.size:=F3.size;have B3:Below s w w3:=B2.trans (F3.below (by omega) (fun k hk e=>by omega));have Zw:=ae Zv;have q4':Hid (∀(b o:Nat),A4=some ⟨b,o,none⟩→s+2≤b):=ae (fun b' o e=>by have:=q4 b' o e;omega);have B3':=ae B3;have hG':=ae hG;have Zx:=ae hn1;have amX:=ae NM;have hs':=ae hs;have an1:s+2≤w2.heap.size:=by omega
 clear F3 iU k22 pJ B2 mH Zv q1 f32 hb2 zJ B1 c32 k21 vT hb1 hb0 adC hsz1 ZW hsz0 hs0 hn hn1 hok UX yA c67 ajI hbE hgrow q4 B3 hG MF iR WN adz adA adB hown' hs hbl;obtain ⟨NB,Zz⟩:=aj (w3.heap.size);have an2:s+2≤NB:=by omega
 go_wp2_with fail
 go_loopw [4] (fun u wr=>∃(k:Nat) (v1 v2 v3:Value),k≤1024∧u= .int .i64 k∧ag wr (s+1) 87 (gq v1 v2 v3 (.slice A4 n c4) V.rf.calls V.rf.hits).toArray ∧
  wr.ownsRow NB 158 3 v1 (aP V k).length (fl qj (aP V k))∧wr.ownsRow NB 3 1 v2 (dY V k).length ((dY V k).map (Value.int .i64))∧wr.ownsRow NB 167 65 v3 (dL V k).length (fl (tT V) (dL V k))∧af (fun k=>k=s+1∨NB≤k) w3 wr) (fun u _=>1024 - (intOf u).toNat)
 case atStart=>exact ⟨0,_,_,_,by omega,rfl,nQ,World.ownsRow_nil _ _ _ _,World.ownsRow_nil _ _ _ _,World.ownsRow_nil _ _ _ _,af.refl _ _⟩
 case round =>
  clear nQ;obtain ⟨k,v1,v2,v3,hk,rfl,k3,wm,rF,xw,hF⟩:=hrel;by_cases hlt:k<1024
  ·have hlt':decide ((k:Int)<1024)=true:=by rw [decide_eq_true_eq];omega
   have hkl:(k:Int)<1024:=by omega
   have zO:=hF.blk qI (by show ¬(b=s+1∨NB≤b);omega);have hcK:=(zO.cell k).trans (hc'.out.kind k hlt);have c3:=k3.cell;have f3:=k3.frozen;unfold gq aM at c3;obtain ⟨kd,hkd⟩:=aj ((V.pg k).kind);rw [hkd] at hcK;have WO:=uM V k;obtain ⟨i0,hi,hz0,hz1,hz2⟩:=info_parts O7;have hsF:=hF.size;obtain ⟨A1,jQ,rfl,_⟩:=dC wm;obtain ⟨N1,hN1⟩:=aj ((aP V k).length);rw [hN1] at wm k3 c3 WO;try simp only [hN1]
   have H9:=ae hN1;clear hN1;go_upto_if 35 with fail
   go_cut [4,5] from 26 to 124 (fun s4 s5 W=>s4= .int .i64 (k:Int)∧∃v1,ag W (s+1) 87 (gq v1 v2 v3 (.slice A4 n c4) V.rf.calls V.rf.hits).toArray∧W.ownsRow NB 158 3 v1 (aP V (k+1)).length (fl qj (aP V (k+1)))∧W.ownsRow NB 3 1 v2 (dY V (k)).length ((dY V (k)).map (Value.int .i64))∧W.ownsRow NB 167 65 v3 (dL V k).length (fl (tT V) (dL V k))∧af (fun k=>k=s+1∨NB≤k) w3 W)
   case first =>
    by_cases h0:kd=0
    ·have h0':(kd != 0)=false:=by simpa using h0
     have e1:aP V (k+1)=aP V k:=by rw [jA,if_pos (hkd.trans h0)]
     have hE:=ae e1;clear h0 e1 hkd;go_wp2_with fail;go_meet
     case rel=>exact ⟨rfl,_,k3,by rw [hE.out,H9.out];exact wm,rF,xw,hF⟩
    ·have h0':(kd != 0)=true:=by simpa using h0
     have q1:=fun z:Ext wr=>z.cell hcK
     by_cases hs2:0<k∧(V.pg (k - 1)).kind=kd
     ·obtain ⟨m,hm⟩:∃m,m+1=k:=⟨k - 1,by omega⟩
      have WQ:(V.pg m).kind=kd:=by have:=hs2.2;rwa [show k - 1=m by omega] at this
      have Tg:=(zO.cell m).trans (hc'.out.kind m (by omega));rw [WQ] at Tg;have q2:=fun z:Ext wr=>z.cell Tg
      have hk1:(k:Int) - 1=(m:Int):=by omega
      have hk0:decide (0<k)=true:=by rw [decide_eq_true_eq];omega
      have LD:(m:Int)<1024:=by omega
      obtain ⟨l,x,hlx⟩:∃l x,aP V k=l++[x]:=by
       rcases List.eq_nil_or_concat (aP V k) with h|⟨l,y,h⟩
       ·obtain ⟨t,h1,h2⟩:=BC (V:=V) (q:=0) (.inl rfl) k
        rw [Nat.zero_add] at h1 h2;have ht:t=[]:=by have:=h1.symm.trans h;simpa [aP] using this
        exact absurd ht (h2 hs2.1 (by rw [hs2.2];exact h0))
       ·exact ⟨l,y,by rw [h,List.concat_eq_append]⟩
      have hx:=EB (V:=V) k (by omega) x (by rw [hlx];simp);have e1:aP V (k+1)=l++[(x.1,x.2.1+1,x.2.2)]:=by
       rw [jA,if_neg (by rw [hkd];exact h0),if_pos ⟨hs2.1,by rw [hs2.2,hkd]⟩,hlx,qx]
      obtain ⟨ll,hll⟩:=aj (l.length);have hNl:ll+1=N1:=by rw [←H9.out,hlx,List.length_append,hll];rfl
      obtain ⟨g,rfl⟩:∃g,A1=some ⟨g,0,none⟩:=by
       have adD:=wm;rw [←hNl] at adD;obtain ⟨g,cap',e⟩:=ownsRow_succ adD;simp only [Value.slice.injEq] at e;exact ⟨g,e.1⟩
      have hgl:=wm.lt g rfl;have DL:(N1:Int) - 1=(ll:Int):=by omega
      have hlN:(ll:Int)<(N1:Int):=by omega
      have hcx:wr.cell? ⟨g,ll*3+1,none⟩=some (.int .i64 x.2.1):=by
       rw [wm.cellAt _ (by omega),hlx,jd,List.getElem?_append_right (by rw [lT wh,hll];omega),lT wh,hll,show ll*3+1 - ll*3=1 by omega];rfl
      have hE:=ae e1;have ajL:=ae hll;have ajM:=ae hlx;have adE:=ae hNl;obtain ⟨xa,xb,xc⟩:=x;simp only at hx hcx;clear h0 hs2 hkd WQ e1 hll hlx hNl Tg hcK hm;go_upto_region 8 with fail
      refine aF (by kernel_rfl) (by kernel_rfl) ?_
      repeat (go_big_quiet_step (fail))
      refine wpQuiet_nil ?_;rintro w8 ⟨⟨_,hw8⟩,rfl⟩;have nZ:=k3.call hw8;have oQ:=aB wm hw8;have lG:=aB rF hw8;have mP:=aB xw hw8;have F8:af (fun k=>k=s+1∨NB≤k) w3 w8:=hF.trans (.of_below hw8);have cg:w8.cell? ⟨g,ll*3+1,none⟩=some (.int .i64 xb):=(hw8.cell (p:=⟨g,ll*3+1,none⟩) hgl.2).trans hcx;have fg:=oQ.frozenAt (ll*3+1);have c38:=nZ.cell;unfold gq aM at c38;clear c3 f3 k3 wm rF xw hF hcx q1 q2 hw8;go_wp2_with fail;go_meet
      case rel =>
       have FS:af (fun i=>i=g) w8 (w8.setCell ⟨g,ll*3+1,none⟩ (.int .i64 (xb+1))):=af.setCell (T:=fun i=>i=g) (p:=⟨g,ll*3+1,none⟩) (af.refl _ w8) (fun _=>rfl) _;have FR:=FS.mono (T':=fun i=>i=s+1∨(Value.slice (some ⟨g,0,none⟩) N1 jQ).ownBlock=some i) (fun i _ h=>.inr (by rw [h];rfl));have hb:=WK (v:=.int .i64 (xb+1)) oQ (i:=ll*3+1) (by have:=adE.out;omega);refine ⟨rfl,_,FS.blk nZ (by show ¬s+1=g;omega),?_,kT lG oQ (by decide) (by omega) FR,kT mP oQ (by decide) (by omega) FR,F8.trans' FS (fun i hi h=>.inr (by rw [h];exact hgl.1))⟩;rw [hE.out,ZQ l (xa,xb,xc),←ajM.out,List.length_append,List.length_singleton,ajL.out,adE.out];exact hb
     ·have hE:Hid (aP V (k+1)=aP V k++[((k:Int),1,kd)]):=ae (by
       rw [jA,if_neg (by rw [hkd];exact h0),if_neg (by rw [hkd];exact hs2),hkd])
      have HR:∀w8:World,Below wr.heap.size wr w8→True:=fun _ _=>trivial
      by_cases adF:k=0
      ·have hk0:decide (0<k)=false:=by rw [decide_eq_false_iff_not];omega
       clear h0 hs2 hkd adF HR;go_upto_region 8 with fail
       refine aF (by kernel_rfl) (by kernel_rfl) ?_
       repeat (go_big_quiet_step (fail))
       refine wpQuiet_nil ?_;rintro w8 ⟨⟨_,hw8⟩,rfl⟩;have nZ:=k3.call hw8;have oQ:=aB wm hw8;have lG:=aB rF hw8;have mP:=aB xw hw8;have Fb:=zO.call hw8;have F8:af (fun k=>k=s+1∨NB≤k) w3 w8:=hF.trans (.of_below hw8);have PR:=(hw8.cell (p:=⟨b,k,none⟩) zO.lt).trans hcK;have PS:NB≤(w8).heap.size:=by have:=F8.size;omega
       clear c3 f3 k3 wm rF xw hF q1 hcK hw8;go_upto_region 10 with fail
       refine Iz b (s+1) k NB N1 _ _ kd _ _ w8 hkl (by omega) Fb.lt nZ.lt PS (by omega) (by omega) PR nZ ((nZ.cell 0).trans rfl) oQ ?_;intro x64 x65 x66 x67 x68 x69 x70 x71 x72 x73 x74 x75 x76 il PM yY agb oP Ti IG;clear PR;go_wp2_with fail;go_meet
       case rel =>
        refine ⟨rfl,_,oP,?_,kT lG oQ (by decide) (by omega) IG,kT mP oQ (by decide) (by omega) IG,F8.trans' IG (fun i hi h=>h.elim .inl (fun h=>.inr (oQ.lt i h).1))⟩;rw [hE.out,List.length_append,List.length_singleton,H9.out,jd,show fl qj [((k:Int),(1:Int),kd)]=qj ((k:Int),1,kd) by simp [fl]];exact Ti
      ·obtain ⟨m,hm⟩:∃m,m+1=k:=⟨k - 1,by omega⟩
       obtain ⟨km,WQ⟩:=aj ((V.pg m).kind);have Tg:=(zO.cell m).trans (hc'.out.kind m (by omega));rw [WQ] at Tg;have q2:=fun z:Ext wr=>z.cell Tg
       have hk1:(k:Int) - 1=(m:Int):=by omega
       have hk0:decide (0<k)=true:=by rw [decide_eq_true_eq];omega
       have LD:(m:Int)<1024:=by omega
       have qw:(km==kd)=false:=by
        rw [beq_eq_false_iff_ne];intro h;exact hs2 ⟨by omega,by rw [show k - 1=m by omega,WQ];exact h⟩
       clear h0 hs2 hkd WQ adF HR hm Tg;go_upto_region 8 with fail
       refine aF (by kernel_rfl) (by kernel_rfl) ?_
       repeat (go_big_quiet_step (fail))
       refine wpQuiet_nil ?_;rintro w8 ⟨⟨_,hw8⟩,rfl⟩;clear q2;have nZ:=k3.call hw8;have oQ:=aB wm hw8;have lG:=aB rF hw8;have mP:=aB xw hw8;have Fb:=zO.call hw8;have F8:af (fun k=>k=s+1∨NB≤k) w3 w8:=hF.trans (.of_below hw8);have PR:=(hw8.cell (p:=⟨b,k,none⟩) zO.lt).trans hcK;have PS:NB≤(w8).heap.size:=by have:=F8.size;omega
       clear c3 f3 k3 wm rF xw hF q1 hcK hw8;go_upto_region 10 with fail
       refine Iz b (s+1) k NB N1 _ _ kd _ _ w8 hkl (by omega) Fb.lt nZ.lt PS (by omega) (by omega) PR nZ ((nZ.cell 0).trans rfl) oQ ?_;intro x64 x65 x66 x67 x68 x69 x70 x71 x72 x73 x74 x75 x76 il PM yY agb oP Ti IG;clear PR;go_wp2_with fail;go_meet
       case rel =>
        refine ⟨rfl,_,oP,?_,kT lG oQ (by decide) (by omega) IG,kT mP oQ (by decide) (by omega) IG,F8.trans' IG (fun i hi h=>h.elim .inl (fun h=>.inr (oQ.lt i h).1))⟩;rw [hE.out,List.length_append,List.length_singleton,H9.out,jd,show fl qj [((k:Int),(1:Int),kd)]=qj ((k:Int),1,kd) by simp [fl]];exact Ti
   case rest =>
    obtain ⟨rfl,v1',nZ,oQ,lG,mP,yS⟩:=hcut;have Fb:=yS.blk qI (by show ¬(b=s+1∨NB≤b);omega);have MH:=(Fb.cell (1024+k / 16)).trans (hc'.out.dz k hlt);obtain ⟨q,hq,hqz⟩:∃q:Nat,Int.tdiv (k:Int) 16=(q:Int)∧k / 16=q:=⟨k / 16,by rw [Int.tdiv_eq_ediv_of_nonneg (by omega)];omega,rfl⟩;rw [hqz] at MH;have hql:(q:Int)<64:=by omega
    obtain ⟨hg,WJ⟩:=aj ((V.pg k).dz);rw [WJ] at MH;have jR:Hid (dY V (k+1)=if k % 16=0∧hg=true then dY V k++[(k:Int)] else dY V k):=ae (by rw [←WJ];rfl);have qV:Hid (dL V (k+1)=if AZ (V.pg k)=true then dL V k++[k] else dL V k):=ae rfl;have Su:=zu V k;have ZA:=zw V k;clear hqz WJ k3 wm rF xw hF zO c3 f3 hcK WO hsF H9 hkd;go_upto_region 11 with fail
    go_cut [4,88] from 26 to 124 (fun s4 s88 W=>s4= .int .i64 (k:Int)∧s88= .bool (decide (k % 16=0)&&hg)∧W=wc)
    case first =>
     by_cases hm:k % 16=0
     ·have hrm:Int.tmod (k:Int) 16=0:=by rw [Int.tmod_eq_emod_of_nonneg (by omega)];omega
      have hE:=ae (decide_eq_true hm);clear jR qV hm;go_wp2_with fail;go_meet
      case rel=>exact ⟨rfl,by rw [hE.out,Bool.true_and],rfl⟩
     ·obtain ⟨rm,hrm,hrz⟩:∃rm,Int.tmod (k:Int) 16=rm∧(rm==0)=false:=⟨_,rfl,by
       rw [Int.tmod_eq_emod_of_nonneg (by omega)];simp;omega⟩
      have hE:=ae (decide_eq_false hm);clear jR qV hm;go_wp2_with fail;go_meet
      case rel=>exact ⟨rfl,by rw [hE.out,Bool.false_and],rfl⟩
    case rest =>
     obtain ⟨rfl,rfl,hw⟩:=hcut;subst hw;have CF:Hid (dY V (k+1)=if (decide (k % 16=0)&&hg)=true then dY V k++[(k:Int)] else dY V k):=ae (by
      rw [jR.out];simp only [Bool.and_eq_true,decide_eq_true_eq])
     generalize (decide (k % 16=0)&&hg)=gb at *;clear jR MH;go_upto_if 88 with fail
     go_cut [4] from 26 to 124 (fun s4 W=>s4= .int .i64 (k:Int)∧∃v2,ag W (s+1) 87 (gq v1' v2 v3 (.slice A4 n c4) V.rf.calls V.rf.hits).toArray∧W.ownsRow NB 158 3 v1' (aP V (k+1)).length (fl qj (aP V (k+1)))∧W.ownsRow NB 3 1 v2 (dY V (k+1)).length ((dY V (k+1)).map (Value.int .i64))∧W.ownsRow NB 167 65 v3 (dL V k).length (fl (tT V) (dL V k))∧af (fun k=>k=s+1∨NB≤k) w3 W)
     case first =>
      clear qV ZA;cases gb with
      | true =>
       have df:Hid (dY V (k+1)=dY V k++[(k:Int)]):=ae (by rw [CF.out,if_pos rfl]);clear CF;obtain ⟨A2,cap2,rfl,_⟩:=dC lG;obtain ⟨ll,hll⟩:=aj ((dY V k).length);rw [hll] at lG Su nZ;try simp only [hll]
       have kN:=ag.new wc 3 #[.int .i64 (k:Int)];have hbN:Below wc.heap.size wc (wc.alloc (.cells #[.int .i64 (k:Int)] 3)):=(Below.refl _ _).alloc (Nat.le_refl _) _;have hsF:=yS.size;have c38:=nZ.cell;unfold gq aM at c38
       go_wp2_with (refine wpList_append_own _ rfl (.tmp 90) (.tmp 92) 84 rfl NB 3 i0 (.int .i64 0) 1 8 underlying84 hi hz0 hz1 hz2 rfl (by decide) _ ll ((dY V k).map (Value.int .i64)) rfl (lG.alloc _) ⟨wc.heap.size,0,none⟩ 1 1 [.int .i64 (k:Int)] rfl rfl (Fu kN) zt (by unfold maxLen;omega) (by omega) (by simp;omega) ?_;intro v' w7 hown' hgrow _;rw [show (dY V k).map (Value.int .i64)++[Value.int .i64 (k:Int)]=(dY V k++[(k:Int)]).map (Value.int .i64) by simp] at hown';have F7:af (fun g=>(Value.slice A2 ll cap2).ownBlock=some g) wc w7:=(af.of_below hbN).grown hgrow (fun g hg _=>hg);have tV:=F7.blk nZ (fun h=>di lG h nZ (by decide));have f37:=tV.frozen;have adl:w7.cell? ⟨s+1,1,none⟩=some (.slice A2 ll cap2):=(tV.cell 1).trans rfl;obtain ⟨Ia,sU,rfl,_⟩:=dC hown';clear c38)
       go_meet
       case rel =>
        have F8:af (fun g=>g=s+1∨(Value.slice A2 ll cap2).ownBlock=some g) wc (w7.setCell ⟨s+1,1,none⟩ (.slice Ia (ll+1) sU)):=(F7.mono (T':=fun g=>g=s+1∨(Value.slice A2 ll cap2).ownBlock=some g) (fun g _ h=>.inr h)).setCell (p:=⟨s+1,1,none⟩) (fun _=>.inl rfl) _;have F81:af (fun k=>k=s+1) w7 (w7.setCell ⟨s+1,1,none⟩ (.slice Ia (ll+1) sU)):=af.setCell (T:=fun k=>k=s+1) (p:=⟨s+1,1,none⟩) (af.refl _ w7) (fun _=>rfl) _;refine ⟨rfl,_,tV.aO 1 (.slice Ia (ll+1) sU),kT oQ lG (by decide) (by omega) F8,?_,kT mP lG (by decide) (by omega) F8,yS.trans' F8 (fun i hi h=>h.elim .inl (fun h=>.inr (lG.lt i h).1))⟩;rw [df.out,List.length_append,List.length_singleton,hll];exact aK hown' F81 (fun g hg h=>di hown' (hg.trans (congrArg some h)) tV (by decide))
      | false =>
       have df:Hid (dY V (k+1)=dY V k):=ae (by rw [CF.out,if_neg (by decide)]);clear CF;go_wp2_with fail;go_meet
       case rel=>exact ⟨rfl,_,nZ,oQ,by rw [df.out];exact lG,mP,yS⟩
     case rest =>
      obtain ⟨rfl,v2',sM,ZX,sZ,kL,ZY⟩:=hcut;clear CF nZ oQ lG mP yS Fb Su;have kb9:=ZY.blk qI (by show ¬(b=s+1∨NB≤b);omega);obtain ⟨A3,nK,rfl,_⟩:=dC kL;go_upto_region 13 with fail
      have adG:=(kb9.cell k).trans (hc'.out.kind k hlt);have JG:=sM.cell;unfold gq aM at JG;by_cases hk2:(V.pg k).kind=2
      ·rw [hk2] at adG
       clear hk2;obtain ⟨X,hX⟩:=aj (fq .u8 64 (V.pg k).iJ);have yR:X.size=64:=by rw [←hX];simp [fq]
       have hra:wc.rangeAt b (1088+k*64) X.toList:=fun j v hj=>by
        rw [←hX] at hj;have yT:j<64:=by have:=(List.getElem?_eq_some_iff.1 hj).1;simpa [fq] using this
        rw [kb9.cell,hc'.out.iJ k hlt j yT,←hj,Array.getElem?_toList,qy yT]
       have kF:(prog.info? 63).map (·.size)=some X.toList.length:=by rw [Array.length_toList,yR];exact pI
       have heq:∀W,(Op.equalIn 10000 63 (.agg X) (.agg #[.int .u8 0,.int .u8 0,.int .u8 0,.int .u8 0,.int .u8 0,.int .u8 0,.int .u8 0,.int .u8 0,.int .u8 0,.int .u8 0,.int .u8 0,.int .u8 0,.int .u8 0,.int .u8 0,.int .u8 0,.int .u8 0,.int .u8 0,.int .u8 0,.int .u8 0,.int .u8 0,.int .u8 0,.int .u8 0,.int .u8 0,.int .u8 0,.int .u8 0,.int .u8 0,.int .u8 0,.int .u8 0,.int .u8 0,.int .u8 0,.int .u8 0,.int .u8 0,.int .u8 0,.int .u8 0,.int .u8 0,.int .u8 0,.int .u8 0,.int .u8 0,.int .u8 0,.int .u8 0,.int .u8 0,.int .u8 0,.int .u8 0,.int .u8 0,.int .u8 0,.int .u8 0,.int .u8 0,.int .u8 0,.int .u8 0,.int .u8 0,.int .u8 0,.int .u8 0,.int .u8 0,.int .u8 0,.int .u8 0,.int .u8 0,.int .u8 0,.int .u8 0,.int .u8 0,.int .u8 0,.int .u8 0,.int .u8 0,.int .u8 0,.int .u8 0])).run prog W= .ok (!AZ (V.pg k)) W:=fun W=>by
        have h:=zx (V.pg k).iJ (fun _=>0) W;rw [hX,CO] at h;exact h
       have ZZ:wc.rangeAt b (1088+k*64) (fq .u8 64 (V.pg k).iJ).toList:=by rw [hX];exact hra
       clear hX yR;cases hnz:AZ (V.pg k) with
       | false =>
        rw [hnz] at heq;have lL:Hid (dL V (k+1)=dL V k):=ae (by rw [qV.out,if_neg (by rw [hnz];decide)]);clear qV hnz ZZ
        go_wp2_with (refine uO 63 (.tmp 107) rfl rfl b (1088+k*64) rfl X.toList _ hra underlying63 rfl kF ?_;rw [Array.toArray_toList])
        go_roundw
        case rel=>exact ⟨k+1,_,v2',_,by omega,by go_num,sM,ZX,sZ,by rw [lL.out];exact kL,ZY⟩
        case measure=>simp [intOf];omega
       | true =>
        rw [hnz] at heq;have lL:Hid (dL V (k+1)=dL V k++[k]):=ae (by rw [qV.out,if_pos hnz]);clear qV hnz;go_upto_region 14 with (refine uO 63 (.tmp 107) rfl rfl b (1088+k*64) rfl X.toList _ hra underlying63 rfl kF ?_;rw [Array.toArray_toList])
        have PS:NB≤wc.heap.size:=by have:=ZY.size;omega
        refine SY b (s+1) k NB _ _ _ (V.pg k).iJ _ _ _ hkl (by omega) kb9.lt sM.lt PS (by omega) (by omega) ZZ sM ((sM.cell 2).trans rfl) kL ?_;intro x112 x113 x114 x115 adq adr ads adt adu adv adw adx ady Mt Ta BG am0 ajO age Z0;clear JG adG heq hra ZZ;go_wp2_with fail;go_roundw
        case rel =>
         refine ⟨k+1,_,v2',_,by omega,by go_num,ajO,kT ZX kL (by decide) (by omega) Z0,kT sZ kL (by decide) (by omega) Z0,?_,ZY.trans' Z0 (fun i hi h=>h.elim .inl (fun h=>.inr (kL.lt i h).1))⟩;rw [lL.out,List.length_append,List.length_singleton,jd,show fl (tT V) [k]=(jP (k:Int) (V.pg k).iJ).toList by rw [←xu];simp [fl]];exact age
        case measure=>simp [intOf];omega
      ·have an3:((V.pg k).kind==2)=false:=by simpa using hk2
       have lL:Hid (dL V (k+1)=dL V k):=ae (by rw [qV.out,if_neg (by
        have h:=SH.2 (fun j _=>hG'.out.iJ k hlt hk2 j);rw [h];decide)])
       clear qV hk2;go_wp2_with fail;go_roundw
       case rel=>exact ⟨k+1,_,v2',_,by omega,by go_num,sM,ZX,sZ,by rw [lL.out];exact kL,ZY⟩
       case measure=>simp [intOf];omega
  ·obtain rfl:k=1024:=by omega
   have hlt':decide (((1024:Nat):Int)<1024)=false:=by decide
   obtain ⟨A1,jQ,rfl,r1,_,_,g1,_⟩:=dC wm;obtain ⟨A2,cap2,rfl,r2,_,_,g2,_⟩:=dC rF;obtain ⟨A3,nK,rfl,r3,_,_,g3,_⟩:=dC xw;have ZF:=hF.blk k23 (by show ¬(s=s+1∨NB≤s);omega);obtain ⟨pK,yU⟩:=aj (gq (.slice A1 (aP V 1024).length jQ) (.slice A2 (dY V 1024).length cap2) (.slice A3 (dL V 1024).length nK) (.slice A4 n c4) V.rf.calls V.rf.hits);have xx:pK.length=18:=by rw [←yU];rfl
   have Sv:pK.toArray.all (·.oneCell')=true:=by rw [←yU];exact Go.all_oneCell_toArray (H8 rfl rfl rfl rfl _ _)
   rw [yU] at k3;have hra:wr.rangeAt (s+1) 0 pK:=fun j v hj=>by rw [Nat.zero_add,k3.cell];simpa using hj
   have jL:(prog.info? 87).map (·.size)=some pK.length:=by rw [xx];exact MC
   have Sw:(prog.info? 87).map (·.size)=some pK.toArray.size:=by rw [List.size_toArray];exact jL
   have ht:wr.there s 0 pK.toArray.size:=dP ZF 0 _ (by rw [List.size_toArray,xx];exact Nat.le_refl _);have kP:=ag.puts (g:=s) (t:=87) (w:=wr) (cs:=#[]) pK 0 wr _ ZF;rw [eB (by rw [xx];rfl)] at kP;have F9:=af.puts (T:=fun k=>k=s) rfl pK 0 wr wr (af.refl _ _);have hC':=ae yU;clear yU xx
   go_wp2_with (first
    | (refine wpList_load_mid rfl 87 (.tmp 3) rfl (s+1) 0 rfl pK _ hra underlying87 rfl jL ?_)
    | (refine wpList_store_mid rfl 87 (.tmp 2) (.tmp 125) rfl s 0 pK.toArray rfl rfl ht Sw Sv ?_))
   generalize World.setCells wr s 0 pK=w9 at *;have EL:=run_loadVar_mid (P:=prog) w9 s 0 87 pK _ (fun j v hj=>by rw [Nat.zero_add,kP.cell];simpa using hj) underlying87 rfl jL;refine bodyPost_ret (v:=.agg pK.toArray) ?_ rfl ?_
   ·exact vS results37 rfl EL
   have q1r:=Zw.out.xM hF (fun k hk ⟨o,e⟩=>by
    have:=q4'.out k o e;show ¬(k=s+1∨NB≤k);omega)
   have KV:=F9.size;have ajp:=hF.size;refine ⟨_,rfl,⟨A1,A2,A3,A4,_,jQ,_,cap2,_,nK,n,c4,by rw [hC'.out],rfl,?_,rfl,?_,rfl,?_,Zx.out,?_⟩,?_⟩
   ·exact (r1.xM F9 (fun k hk ⟨o,e⟩ h=>by have:=g1 k o e;omega)).more KV
   ·exact RI.more (r2.xM F9 (fun k hk ⟨o,e⟩ h=>by have:=g2 k o e;omega)) KV
   ·exact (r3.xM F9 (fun k hk ⟨o,e⟩ h=>by have:=g3 k o e;omega)).more KV
   ·exact (q1r.xM F9 (fun k hk ⟨o,e⟩ h=>by have:=q4'.out k o e;omega)).more (by omega)
   ·rw [hs'.out]
    exact B3'.out.trans ((hF.below (by omega) (fun k hk h=>by omega)).trans (F9.below (by omega) (fun k hk h=>by omega)))
theorem Ah (B b:Nat) (a n:Int) (V:Vm) (w:World) (hV:bq w B b V) :
  Calls prog 145 #[.pointer (some ⟨b,0,none⟩),.int .i64 a,.int .i64 n] w fun e w'=>e= .returned (.int .i64 (bJ V a n 1 1 0).1)∧dZ B b (bJ V a n 1 1 0).2 w w':=by
 have HC:=ae (nO B b a n 1 0 1 V w hV (by decide));clear hV;generalize bJ V a n 1 1 0=R at *;go_enter func145,ntmps145;go_wp2_with fail;refine HC.out.mono ?_;rintro e w1 ⟨rfl,h1,h2⟩;go_wp2_with fail;go_ret;exact ⟨rfl,h1,h2⟩
theorem PT (B b:Nat) (a n:Int) (V:Vm) (w:World) (hV:bq w B b V) :
  Calls prog 165 #[.pointer (some ⟨b,0,none⟩),.int .i64 a,.int .i64 n,.bool true] w fun e w'=>e= .returned (.int .i64 (bJ V a n 4 1 3).1)∧dZ B b (bJ V a n 4 1 3).2 w w':=by
 have HC:=ae (nO B b a n 1 3 4 V w hV (by decide));clear hV;generalize bJ V a n 4 1 3=R at *;go_enter func165,ntmps165;go_wp2_with fail;refine HC.out.mono ?_;rintro e w1 ⟨rfl,h1,h2⟩;go_wp2_with fail;go_ret;exact ⟨rfl,h1,h2⟩
end Go.Proofs.YtjmmgoijnhnnaaaGreat
