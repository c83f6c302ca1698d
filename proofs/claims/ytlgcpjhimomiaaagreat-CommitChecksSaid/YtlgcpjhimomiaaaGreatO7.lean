/- Texts QWalkN, QWalkA, QWalkB, QWalkC, QWalkD, QWalkE, QWalkF. -/
import Derived.Great.BuildSlice
import Derived.Test.YtlgcpjhimomiaaaGreatO6
set_option maxRecDepth 100000
set_option maxHeartbeats 12800000
namespace Go.Pol
open Go Go.RowKit Go.Proofs.Tryz
def lW (p:Int) (f:Nat->Int):Array Value:=(zI p::(List.range 64).map λi=>Value.int .u8 (f i)).toArray
structure JG (w:World) (S:Value) (V:Vm):Prop where
 ex:∃(A1 A2 A3 A4:Option Addr) (n1 c1 n2 c2 n3 c3 n4 c4:Nat),S= .agg (gG (.slice A1 n1 c1) (.slice A2 n2 c2) (.slice A3 n3 c3) (.slice A4 n4 c4) V.rf.calls V.rf.hits).toArray /\
  (aF V 1024).length=n1/\Rd w w.heap.size A1 (fl rG (aF V 1024))/\(dC V 1024).length=n2/\RI w w.heap.size A2 (dC V 1024)/\(dS V 1024).length=n3/\Rd w w.heap.size A3 (fl (rJ V) (dS V 1024)) /\
  V.rf.rules.length=n4/\Rd w w.heap.size A4 (fl iU V.rf.rules)
theorem JG.on {w w':World} {S:Value} {V:Vm} (h:JG w S V) (hb:Below w.heap.size w w'):JG w' S V:=by
 obtain ⟨A1,A2,A3,A4,n1,c1,n2,c2,n3,c3,n4,c4,h0,h1,h2,h3,h4,h5,h6,h7,h8⟩:=h.ex;exact ⟨A1,A2,A3,A4,n1,c1,n2,c2,n3,c3,n4,c4,h0,h1,h2.fB hb,h3,RI.more (RI.below h4 hb) hb.size,h5,h6.fB hb,h7,h8.fB hb⟩
theorem Rd.yw {w w':World} {N:Nat} {A:Option Addr} {xs:List Value} {T:Nat->Prop} (h:Rd w N A xs) (hF:ag T w w') (hT:∀k,k<N->(∃o,A=some ⟨k,o,none⟩)->¬T k):Rd w' N A xs:=λk hk=>by
 obtain ⟨b,o,e,hb,hc⟩:=h k hk;exact ⟨b,o,e,hb,hF.cell hc (hT b hb ⟨o,e⟩)⟩
def ads (V:Vm) (w:World) (e:Ending) (w':World):Prop:=∃S,e= .returned S/\JG w' S V/\Below w.heap.size w w'
theorem JH (g:Pg):(List.range 64).all (λi=>g.fe i==0)=!zJ g:=by
 unfold zJ;rw [Bool.eq_iff_iff];simp
theorem DY (V:Vm) (p:Nat):rJ V p=(lW p (V.pg p).fe).toList:=rfl
def vX (n a b:Int):Bool:=decide (a<=n)&&decide (n<=b)
theorem AU {n a b:Int}:vX n a b=true↔a<=n/\n<=b:=by simp [vX]
theorem Wx {n a b:Int}:vX n a b=false↔¬(a<=n/\n<=b):=by rw [<-AU];simp
theorem aap (l:List Ru) (k n:Int) (i:Nat) (h:i<l.length):(l.drop i).any (λx=>x.1==k&&qL x n)=((l.getD i qa).1==k&&qL (l.getD i qa) n||(l.drop (i+1)).any (λx=>x.1==k&&qL x n)):=by
 rw [Go.Pol.drop_cons qa l i h,List.any_cons]
theorem adF {x:Ru} {n:Int} (hf:x.2.1<=n) (he:x.2.2.1≠0) :
  qL x n=((x.2.1+(n - x.2.1) / x.2.2.1*x.2.2.1==n)&&(decide (x.2.2.2=0)||decide ((n - x.2.1) / x.2.2.1<x.2.2.2))):=by
 have hm:(x.2.1+(n - x.2.1) / x.2.2.1*x.2.2.1==n)=decide ((n - x.2.1) % x.2.2.1=0):=by
  rw [Bool.eq_iff_iff,beq_iff_eq,decide_eq_true_eq];have:=Int.mul_ediv_add_emod (n - x.2.1) x.2.2.1;rw [Int.mul_comm] at this;omega
 unfold qL;rw [if_neg he,hm,decide_eq_true hf,Bool.true_and]
def zT (p:Int):Bool:=decide (0<=p)&&decide (p<1024)
theorem vF {p:Int}:zT p=true↔0<=p/\p<1024:=by simp [zT]
theorem xR {p:Int}:zT p=false↔¬(0<=p/\p<1024):=by rw [<-vF];simp
def eF (B b:Nat) (V:Vm) (w w':World):Prop:=bn w' B b V/\ag (λk=>k=b) w w'
structure iq (V:Vm):Prop where
 kinds:aO V
 Bo:∀p,p<1024->(V.pg p).bP=true->(V.pg p).kind=2
 fe:∀p,p<1024->(V.pg p).kind≠2->∀k,(V.pg p).fe k=0
theorem iq.JM {V U:Vm} (h:iq V) (e:U.pg=V.pg):iq U:=⟨λp hp=>by rw [e];exact h.kinds p hp,λp hp=>by rw [e];exact h.Bo p hp,λp hp=>by rw [e];exact h.fe p hp⟩
theorem iq.dD {V:Vm} (h:iq V) (a n:Nat) (f:Pg->Pg) (hk:∀p,p<1024->a<=p->p<a+n->0<=(f (V.pg p)).kind/\(f (V.pg p)).kind<=3/\((f (V.pg p)).bP=true->(f (V.pg p)).kind=2)/\((f (V.pg p)).kind≠2->∀k,(f (V.pg p)).fe k=0)):iq (V.dD a n f):=by
 have e:∀p,(V.dD a n f).pg p=if a<=p/\p<a+n then f (V.pg p) else V.pg p:=λp=>rfl
 refine ⟨λp hp=>?_,λp hp=>?_,λp hp=>?_⟩
 ·rw [e]
  split
  ·rename_i h1;exact ⟨(hk p hp h1.1 h1.2).1,(hk p hp h1.1 h1.2).2.1⟩
  ·exact h.kinds p hp
 ·rw [e]
  split
  ·rename_i h1;exact (hk p hp h1.1 h1.2).2.2.1
  ·exact h.Bo p hp
 ·rw [e]
  split
  ·rename_i h1;exact (hk p hp h1.1 h1.2).2.2.2
  ·exact h.fe p hp
theorem iq.make {V:Vm} (h:iq V) (a n:Int) (call:Nat) (pr:Pg->Bool) (f:Pg->Pg) (hf:∀p,p<1024->pr (V.pg p)=true->0<=(f (V.pg p)).kind/\(f (V.pg p)).kind<=3/\((f (V.pg p)).bP=true->(f (V.pg p)).kind=2)/\((f (V.pg p)).kind≠2->∀k,(f (V.pg p)).fe k=0)) :
  iq (gX V a n call pr f).2:=by
 unfold gX;split
 ·exact h
 ·split
  ·exact h
  ·rename_i hp
   rw [Bool.not_eq_false] at hp;split
   ·exact h.JM rfl
   ·exact (h.JM (U:=V.ref call) rfl).dD _ _ _ (λp hp2 h1 h2=>hf p hp2 (iQ.1 hp p h1 h2))
theorem iq.bK {V:Vm} (h:iq V) (a n:Int) (call:Nat) (fr tk:Int) (ht:0<=tk/\tk<=3):iq (bK V a n call fr tk).2 :=
 h.make a n call _ _ (λp _ _=>⟨ht.1,ht.2,λh=>(by cases h),λ_ _=>rfl⟩)
theorem iq.join {V:Vm} (h:iq V) (p:Int):iq (Go.Pol.dY V p).2:=by
 unfold Go.Pol.dY;split
 ·exact h
 ·split
  ·exact h
  ·refine h.make _ _ _ _ _ (λq hq hk=>?_)
   have h2:(V.pg q).kind=2:=by simpa using hk
   have hg:((V.pg q).dQ true).kind=2:=h2;rw [hg];exact ⟨zo,zo,λ_=>rfl,λh=>absurd rfl h⟩
theorem iq.split {V:Vm} (h:iq V) (p:Int):iq (jU V p).2:=by
 unfold jU;split
 ·exact h
 ·refine h.make _ _ _ _ _ (λq hq hk=>?_)
  have hb:=h.kinds q hq;exact ⟨hb.1,hb.2,λh=>(by cases h),h.fe q hq⟩
theorem iq.write {V:Vm} (h:iq V) (a v:Int):iq (kT V a v):=by
 unfold kT;by_cases c:xP V a=0
 ·rw [if_pos c]
  have hk:(V.pg (a / 64).toNat).kind=2:=by
   unfold xP at c;split at c
   ·omega
   ·split at c
    ·omega
    ·rename_i h;simpa using h
  have e:∀q,(V.gq (a / 64).toNat ((V.pg (a / 64).toNat).mP (a % 64).toNat v)).pg q=if q=(a / 64).toNat then (V.pg (a / 64).toNat).mP (a % 64).toNat v else V.pg q:=λq=>rfl
  have e2:((V.pg (a / 64).toNat).mP (a % 64).toNat v).kind=2:=hk;refine ⟨λq hq=>?_,λq hq=>?_,λq hq=>?_⟩
  ·rw [e]
   split
   ·rw [e2];omega
   ·exact h.kinds q hq
  ·rw [e]
   split
   ·intro _;exact e2
   ·exact h.Bo q hq
  ·rw [e]
   split
   ·intro hc;exact absurd e2 hc
   ·exact h.fe q hq
 ·rw [if_neg c];exact h
theorem iq.new:iq iM:=⟨λp _=>by show (0:Int)<=0/\(0:Int)<=3;omega,λp _ h=>(by cases h),λp _ _ k=>rfl⟩
end Go.Pol
namespace Go.Proofs.YtlgcpjhimomiaaaGreat
open Go Go.Proofs Go.RowKit Go.Pol Go.Shelf Tryz
attribute [local go_sem] Oper.semAt_some aC au aB ai
theorem wU {P:Program} {fn:Func} {a:Tmp} {t:TypeId} {tmps:Array Value} {w:World} {v:Value} {p:Addr} (h:fn.results=#[.cell a t]) (ha:tmps.getD a undef= .pointer (some p)) (hl:(loadVar t p).run P w= .ok v w) :
  (results fn tmps).run P w= .ok v w:=by
 have ha':tmps[a]?.getD undef= .pointer (some p):=by rw [<-ha,Array.getD_eq_getD_getElem?]
 simp [results,h,ha',asAddr,hl]
theorem zO {P:Program} {ops:Array Oper} {rest:List Oper} {op:Oper} {a:Act} {w:World} {Q:Exit->Act->World->Prop} (hgd:op.guard=none) (d:Nat) (hd:op.dst=some d) (t:TypeId) (parts:List (Nat×Operand)) (ho:op.op= .build t parts.toArray)
  (vals:List (Nat×Value)) (hv:parts.map (λx=>(x.1,a.eval x.2))=vals) (cells:Array Value) (hb:P.built t vals=some cells) (h:wpList P ops Q rest (a.put (some d) (.agg cells)) w):wpList P ops Q (op::rest) a w :=
 wpList_plain hgd λK hK=>by
  have hb':P.built t (parts.toArray.map λ(i,x)=>(i,a.eval x)).toList=some cells:=by
   rw [<-hb,<-hv];simp
  unfold Oper.wp execOp;simp only [ho,Sem.run_bind,run_build w t _ cells hb',Result.andThen_ok];show K (a.put op.dst _) w;rw [hd];exact hK _ _ h
theorem r9 {P:Program} {ops:Array Oper} {rest:List Oper} {o:Oper} {a:Act} {w:World} {Q:Exit->Act->World->Prop} (hg:o.guard=none) (d:Nat) (hd:o.dst=some d) (t e:TypeId) (len:Nat) (parts:List (Nat×Operand)) (ho:o.op= .buildSlice t len parts.toArray)
  (vals:List (Nat×Value)) (hv:parts.map (λx=>(x.1,a.eval x.2))=vals) (cells:Array Value) (ie:TypeInfo) (z:Value)
  (hu:P.underlying t=some (.slice e)) (hie:P.info? e=some ie) (hz:ie.zero=some z) (hsmall:¬len*ie.size > 2 ^ 24) (hpos:¬len*ie.size=0)
  (hf:Instr.fill (λi=>some (i*ie.size,ie.size)) ((Array.range (len*ie.size)).map (z.cells[· % z.cells.size]!)) vals=some cells)
  (h:wpList P ops Q rest (a.put (some d) (.slice (some ⟨w.heap.size,0,none⟩) len len)) (w.alloc (.cells cells e))):wpList P ops Q (o::rest) a w :=
 wpList_buildSlice hg t e len parts.toArray ho cells ie z hu hie hz hsmall hpos (by rw [<-hf,<-hv];simp) (by rw [hd];exact h)
theorem R7:(prog.info? 3).map (λi=>(i.zero,i.size,i.bytes))=some (some (zI 0),1,8):=zk
theorem YY:(prog.info? 118).map (λi=>(i.zero,i.size,i.bytes))=some (some (.agg (lW 0 (λ_=>0))),65,72):=zk
theorem E8 (p:Int) (f:Nat->Int):prog.built 118 [(0,zI p),(1,.agg (fP .u8 64 f))]=some (lW p f):=zk
theorem JI (p:Int) (f:Nat->Int):Instr.fill (λi=>some (i*65,65)) ((Array.range (1*65)).map ((Value.agg (lW 0 (λ_=>0))).cells[· % (Value.agg (lW 0 (λ_=>0))).cells.size]!)) [(0,.agg (lW p f))]=some (lW p f):=zk
theorem zT1 {P:Prop} (h:P:=by
 obtain ⟨X,hX⟩:=ah (fP .u8 64 (V.pg k).fe);have zM:X.size=64:=by rw [<-hX];simp [fP]
 have hra:wr.rangeAt b (1+k*66+2) X.toList:=λj v hj=>by
  rw [<-hX] at hj;have Gr:j<64:=by have:=(List.getElem?_eq_some_iff.1 hj).1;simpa [fP] using this
  rw [Pm.cell,show 1+k*66+2+j=1+k*66+(j+2) by omega,hc'.out.byte hlt Gr,<-hj,Array.getElem?_toList,ui Gr]
 have lU:(prog.info? 100).map (·.size)=some X.size:=by rw [zM];exact ug
 have oW:(prog.info? 100).map (·.size)=some X.toList.length:=by rw [Array.length_toList];exact lU
 have hone:X.all (·.oneCell')=true:=by
  rw [<-hX];unfold fP;exact Go.all_oneCell_toArray (λx hx=>by simp only [List.mem_map] at hx;obtain ⟨i,_,rfl⟩:=hx;rfl)
 have ht:∀Z:Array Value,Z.size=64->(wr.alloc (.cells Z 100)).there wr.heap.size 0 X.size:=λZ hZ=>dL (af.new wr _ Z) 0 X.size zo
 have cZ:∀(Z:Array Value) w9,(wr.alloc (.cells Z 100)).setCells wr.heap.size 0 X.toList=w9->Z.size=64->af w9 wr.heap.size 100 X/\Below wr.heap.size wr w9:=λZ w9 h hZ=>by
  have kP:=af.puts (g:=wr.heap.size) (t:=100) (w:=wr) (cs:=#[]) X.toList 0 _ _ (af.new wr 100 Z);rw [eH (by rw [Array.length_toList];omega)] at kP;have hF:=ag.puts (T:=λk=>k=wr.heap.size) rfl X.toList 0 wr _ ((ag.refl _ wr).alloc (.cells Z 100));rw [h] at kP hF;exact ⟨kP,hF.below (Nat.le_refl _) (λk hk e=>by omega)⟩
 have heq:∀W,(Op.equalIn 10000 100 (.agg X) (.agg #[.int .u8 0,.int .u8 0,.int .u8 0,.int .u8 0,.int .u8 0,.int .u8 0,.int .u8 0,.int .u8 0,.int .u8 0,.int .u8 0,.int .u8 0,.int .u8 0,.int .u8 0,.int .u8 0,.int .u8 0,.int .u8 0,.int .u8 0,.int .u8 0,.int .u8 0,.int .u8 0,.int .u8 0,.int .u8 0,.int .u8 0,.int .u8 0,.int .u8 0,.int .u8 0,.int .u8 0,.int .u8 0,.int .u8 0,.int .u8 0,.int .u8 0,.int .u8 0,.int .u8 0,.int .u8 0,.int .u8 0,.int .u8 0,.int .u8 0,.int .u8 0,.int .u8 0,.int .u8 0,.int .u8 0,.int .u8 0,.int .u8 0,.int .u8 0,.int .u8 0,.int .u8 0,.int .u8 0,.int .u8 0,.int .u8 0,.int .u8 0,.int .u8 0,.int .u8 0,.int .u8 0,.int .u8 0,.int .u8 0,.int .u8 0,.int .u8 0,.int .u8 0,.int .u8 0,.int .u8 0,.int .u8 0,.int .u8 0,.int .u8 0,.int .u8 0])).run prog W= .ok (!zJ (V.pg k)) W:=λW=>by
  have h:=E5 (V.pg k).fe (λ_=>0) W;rw [hX,JH] at h;exact h
 have Pn:=ae hX;have ao5:=ae zM;clear hX zM;go_upto_region 11 with (first
  | (refine wpList_load_mid rfl 100 (.tmp 53) rfl b (1+k*66+2) rfl X.toList _ hra underlying100 rfl oW ?_;rw [Array.toArray_toList])
  | (refine wpList_store_mid rfl 100 (.tmp 5) (.tmp 54) rfl wr.heap.size 0 X rfl rfl (ht _ rfl) lU hone ?_))
 generalize R8:World.setCells _ wr.heap.size 0 X.toList=w9;obtain ⟨k9,jS⟩:=cZ _ _ R8 rfl;clear R8 cZ ht hra;have zF:w9.rangeAt wr.heap.size 0 X.toList:=λj v hj=>by rw [Nat.zero_add,k9.cell];simpa using hj
 cases hnz:zJ (V.pg k) with
 | false =>
  rw [hnz] at heq
  go_wp2_with (refine wpList_load_mid rfl 100 (.tmp 5) rfl wr.heap.size 0 rfl X.toList _ zF underlying100 rfl oW ?_;rw [Array.toArray_toList])
  go_roundw
  case rel =>
   have rM:dS V (k+1)=dS V k:=by rw [vE.out,if_neg (by rw [hnz];decide)]
   exact ⟨k+1,v2,v3,zo,by go_num,uj.call jS,aI oC jS,by rw [rM];exact aI si jS,DZ.trans (.of_below jS)⟩
  case measure=>exact zm
 | true =>
  rw [hnz] at heq;go_upto_region 12 with (refine wpList_load_mid rfl 100 (.tmp 5) rfl wr.heap.size 0 rfl X.toList _ zF underlying100 rfl oW ?_;rw [Array.toArray_toList])
  obtain ⟨D,hD⟩:=ah (lW (k:Int) (V.pg k).fe);have hbt:prog.built 118 [(0,zI (k:Int)),(1,.agg X)]=some D:=by rw [<-hD,<-Pn.out];exact E8 _ _
  have Wo:∀W,(Instr.build 118 #[(0,zI (k:Int)),(1,.agg X)]).run prog W= .ok (.agg D) W:=λW=>run_build W _ _ _ hbt
  have hbs:=JI (k:Int) (V.pg k).fe;rw [hD] at hbs;have hDs:D.toList.length=65:=by rw [<-hD];simp [lW]
  have Wp:∀u∈D.toList,u.oneCell'=true:=by
   intro u hu;rw [<-hD,<-DY] at hu;exact JB V [k] u (by simpa [fl] using hu)
  have hDl:fl (rJ V) [k]=D.toList:=by rw [<-hD,<-DY];simp [fl]
  have rM:Hid (dS V (k+1)=dS V k++[k]):=ae (by rw [vE.out,if_pos hnz]);obtain ⟨dl,hdl⟩:=ah ((dS V k).length);rw [hdl] at si hlD;have pR:=aI si jS;have yI:=uj.call jS;obtain ⟨Wq,CW,rfl,_⟩:=dH pR;have R9:w9.cell? ⟨s3,2,none⟩=some (.slice Wq dl CW):=(yI.cell 2).trans rfl;clear hD hnz heq;have hfl:Instr.fill (λi=>some (i*iD.size,iD.size)) ((Array.range (1*iD.size)).map ((Value.agg (lW 0 (λ_=>0))).cells[· % (Value.agg (lW 0 (λ_=>0))).cells.size]!)) [(0,.agg D)]=some D:=by rw [Gs];exact hbs
  have hs1:¬1*iD.size > 2 ^ 24:=by rw [Gs];decide
  have hs2:¬1*iD.size=0:=by rw [Gs];decide
  have kD:=af.new w9 118 D;have hbD:Below w9.heap.size w9 (w9.alloc (.cells D 118)):=(Below.refl _ _).alloc (Nat.le_refl _) _;have nwD:∀(j:Nat) (u:Value),D.toList[j]? = some u->(w9.alloc (.cells D 118)).cell? ((⟨w9.heap.size,0,none⟩:Addr).add j)=some u:=λj u hu=>by
   rw [dM,Nat.zero_add,kD.cell];simpa using hu
  have ao6:=(DZ.trans (.of_below jS)).size;clear hbs Wo
  go_wp2_with (refine wpList_load_mid rfl 100 (.tmp 5) rfl wr.heap.size 0 rfl X.toList _ zF underlying100 rfl oW ?_;rw [Array.toArray_toList];refine zO rfl 62 rfl 118 [(0,.tmp 60),(1,.tmp 61)] rfl _ rfl D hbt ?_;refine r9 rfl 63 rfl 55 118 1 [(0,.tmp 62)] rfl _ rfl D iD _ underlying55 E9 YZ hs1 hs2 hfl ?_;refine wpList_append_own _ rfl (.tmp 59) (.tmp 63) 55 rfl NB 118 iD (.agg (lW 0 (λ_=>0))) 65 72 underlying55 E9 YZ Gs aiZ rfl zd _ dl (fl (rJ V) (dS V k)) rfl (pR.alloc _) ⟨w9.heap.size,0,none⟩ 1 1 D.toList rfl hDs nwD Wp (by unfold maxLen;omega) zo (by simp;omega) ?_;intro v' iV hown' hgrow _;rw [<-hDl,<-kC] at hown';have rO:ag (λg=>(Value.slice Wq dl CW).ownBlock=some g) w9 iV:=(ag.of_below hbD).grown hgrow (λg hg _=>hg);have zQ:=rO.blk yI (λh=>dJ pR h yI zd);have f310:=zQ.frozen;have ao7:iV.cell? ⟨s3,2,none⟩=some (.slice Wq dl CW):=(zQ.cell 2).trans rfl;obtain ⟨Fa,qf,rfl,_⟩:=dH hown';clear R9)
  have Bp:ag (λk=>k=s3) iV (iV.setCell ⟨s3,2,none⟩ (.slice Fa (dl+1) qf)):=ag.setCell (T:=λk=>k=s3) (p:=⟨s3,2,none⟩) (ag.refl _ iV) (λ_=>rfl) _;have adt:af (iV.setCell ⟨s3,2,none⟩ (.slice Fa (dl+1) qf)) s3 60 (gG (.slice A1 N1 lG) v2 (.slice Fa (dl+1) qf) (.slice A4 N4 c4) V.rf.calls V.rf.hits).toArray:=zQ.aM 2 _;have Ws:(iV.setCell ⟨s3,2,none⟩ (.slice Fa (dl+1) qf)).ownsRow NB 118 65 (.slice Fa (dl+1) qf) (dS V (k+1)).length (fl (rJ V) (dS V (k+1))):=by
   rw [rM.out,List.length_append,List.length_singleton,hdl];exact aN hown' Bp (λg hg h=>dJ hown' (hg.trans (congrArg some h)) zQ zd)
  have BN:=aI oC jS;have Wt:=aN (aN BN rO (λg hg h=>by
   rcases pR.2 with ⟨hx,_⟩|⟨g',cap',cur,hx,_,hkx,_⟩
   ·rw [hx] at h;cases h
   ·rw [hx] at h
    have e':g'=g:=by injection h
    subst e';exact dJ BN hg (show af w9 g' 118 cur from hkx) zd)) Bp (λg hg h=>by
   have:=(BN.lt g hg).1;omega)
  have adu:ag (λk=>k=s3\/NB<=k) w3 (iV.setCell ⟨s3,2,none⟩ (.slice Fa (dl+1) qf)):=((DZ.trans (.of_below jS)).trans' rO (λi hi h=>.inr (pR.lt i h).1)).trans' Bp (λi hi h=>.inl h);go_roundw
  case rel=>exact ⟨k+1,v2,_,zo,by go_num,adt,Wt,Ws,adu⟩
  case measure=>exact zm):P:=h
theorem adv {P:Prop} (h:P:=by
 rw [<-hX];unfold fP;exact Go.all_oneCell_toArray (λx hx=>by simp only [List.mem_map] at hx;obtain ⟨i,_,rfl⟩:=hx;rfl)):P:=h
theorem adw {P:Prop} (h:P:=by
 rw [h] at kP hF;exact ⟨kP,hF.below (Nat.le_refl _) (λk hk e=>by omega)⟩):P:=h
theorem adx {P:Prop} (h:P:=by
 have h:=E5 (V.pg k).fe (λ_=>0) W;rw [hX,JH] at h;exact h):P:=h
theorem aao (b:Nat) (V:Vm) (w:World) (hV:aA w b V) :
  Calls prog 103 #[zP b] w (ads V w):=by
 have hV':=ae hV;have hb0:=aQ w (.cells (gG zN zN zN zN (λ_=>0) (λ_=>0)).toArray 60);have k2:=af.new w 60 (gG zN zN zN zN (λ_=>0) (λ_=>0)).toArray;have V0:=hV.call hb0;have hbs:=hV.lt;have HI:=ae (λW h=>vC b V W h);obtain ⟨s,hs⟩:=ah (w.heap.size);have hsz0:(w.alloc (.cells (gG zN zN zN zN (λ_=>0) (λ_=>0)).toArray 60)).heap.size=s+1:=by rw [World.size_alloc,hs]
 rw [hs] at k2;unfold gG aH at hb0 k2 V0 hsz0;clear hV;go_enter func103,ntmps103;go_upto_region 1 with fail
 generalize w.alloc _=w0 at *;try simp only [hs]
 go_wp2_with fail;refine (HI.out _ V0).zr λw9 cZ=>?_
 replace cZ:=cZ.symm;subst cZ;obtain ⟨cs,A,n,cap,kb,hc,hn,hr,hz,_⟩:=V0.ex;have hok:=V0.ok;go_upto_region 3 with fail
 refine RZ _ _ b cs V A n cap (Nat.le_of_ble_eq_true rfl) rfl kb hc ?_;intro B1 s3 v12 w1 hs3 k3 kQ hb1;simp only [bG,Act.put,List.setIfInBounds_toArray,List.set_cons_succ,List.set_cons_zero];obtain ⟨A1,lG,rfl,r1,_,_,hA1,_⟩:=dH kQ;have ai0:∀o,A1≠some ⟨s3,o,none⟩:=λo e=>by
  subst e;exact dJ kQ rfl k3 zd
 obtain ⟨N1,hN1⟩:=ah ((aF V 1024).length);rw [hN1] at k3 kQ;try simp only [hN1]
 have wV:=kb.call hb1;have c67:w1.cell? ⟨b,67585,none⟩=some (.slice A n cap):=by rw [wV.cell];exact (hc.rf 0 zo).trans rfl
 have hr1:=hr.fB hb1;have Po:=(lZ.1 hok.plan).1;have hb1':=ae hb1;have k2':=ae (k2.call hb1);have h01:s+1<=w0.heap.size:=Nat.le_of_eq hsz0.symm;have B1:Below s w w1:=by rw [<-hs];exact hb0.trans (hb1.mono (by rw [hs];omega))
 have Sa:=ae (vB A n cap V.rf.rules w1 hn zo hz hr1);have f3:=k3.frozen;have c3:=k3.cell;have hc':=ae hc;have NN:=ae hN1;have r1':=ae r1;have hAs:=ae hA1;have Bl:=ae k3;clear hb1 k2 kb hr hz hok kQ V0 HI hn hb0 hc hN1 r1 hA1 hr1 Po k3 c3 f3;unfold ic gG aH;go_wp2_with fail;refine Sa.out.mono ?_;rintro e w2 ⟨v4,rfl,hv4⟩;obtain ⟨A4,c4,rfl,q1,_,_,q4,q5,hb2⟩:=hv4;have jv:=Bl.out.call hb2;have k22:=k2'.out.call hb2;have qg:=wV.call hb2;have r12:=ae (r1'.out.below hb2);have B2:=B1.trans (hb2.mono (by have:=B1.size;omega));have c3:=jv.cell;have f3:=jv.frozen;have Pp:w2.cell? ⟨s3,3,none⟩=some (.slice A n cap):=(jv.cell 3).trans rfl;have ny:=jv.aM 3 (.slice A4 V.rf.rules.length c4);have F3:ag (λk=>k=s3) w2 (w2.setCell ⟨s3,3,none⟩ (.slice A4 V.rf.rules.length c4)):=ag.setCell (T:=λk=>k=s3) (p:=⟨s3,3,none⟩) (ag.refl _ w2) (λ_=>rfl) _;have aw4:=wV.lt;have aw5:=Bl.out.lt;clear Sa c67 wV c3 k2';go_upto_region 5 with fail
 generalize w2.setCell ⟨s3,3,none⟩ _=w3 at *;have oJ:af w3 s3 60 (gG (.slice A1 N1 lG) zN zN (.slice A4 V.rf.rules.length c4) V.rf.calls V.rf.hits).toArray:=ny;have q13:Rd w3 w2.heap.size A4 (fl iU V.rf.rules):=q1.NI F3 (λg o e=>by have:=q4 g o e;show ¬g=s3;omega);have r13:Rd w3 w1.heap.size A1 (fl rG (aF V 1024)):=r12.out.yw F3 (λk _ ⟨o,e⟩ h=>ai0 o (h ▸ e));have rP:=F3.blk qg (by show ¬b=s3;omega);have k23:=F3.blk k22 (by show ¬s=s3;omega);have B3:=B2.trans (F3.below (by have:=B2.size;omega) (λk hk e=>by omega));have Rz:w2.heap.size<=w3.heap.size:=F3.size;have hsz2:=hb2.size;have adz:=ae q13;have apa:=ae r13;clear F3 jv k22 qg r12 B2 Pp ny q13 r13 q1 f3 hb2 Bl r1' B1;generalize hN4:V.rf.rules.length=N4 at *;have adA:=ae hN4;clear hN4;obtain ⟨i0,hi,hz0,hz1,hz2⟩:=info_parts R7;obtain ⟨iD,E9,YZ,Gs,aiZ⟩:=info_parts YY;obtain ⟨NB,hNB⟩:=ah (w3.heap.size);go_wp2_with fail
 go_loopw [28] (λu wr=>∃(k:Nat) (v2 v3:Value),k<=1024/\u = zI k/\af wr s3 60 (gG (.slice A1 N1 lG) v2 v3 (.slice A4 N4 c4) V.rf.calls V.rf.hits).toArray /\
  wr.ownsRow NB 3 1 v2 (dC V k).length ((dC V k).map (Value.int .i64))/\wr.ownsRow NB 118 65 v3 (dS V k).length (fl (rJ V) (dS V k))/\ag (λk=>k=s3\/NB<=k) w3 wr) (λu _=>1024 - (intOf u).toNat)
 case atStart=>exact ⟨0,_,_,zo,rfl,oJ,World.ownsRow_nil _ _ _ _,World.ownsRow_nil _ _ _ _,ag.refl _ _⟩
 case round =>
  clear oJ;obtain ⟨k,v2,v3,hk,rfl,k3,uQ,zR,hF⟩:=hrel;by_cases hlt:k<1024
  ·have hlt':decide ((k:Int)<1024)=true:=by rw [decide_eq_true_eq];omega
   have hkl:(k:Int)<1024:=zo;have D5:=hF.blk rP (by show ¬(b=s3\/NB<=b);omega);have Pq:=ae (ou (k:Int) wr);have EO:jJ (k:Int)=decide (k % 16=0):=by
    unfold jJ;rw [Bool.eq_iff_iff];simp;omega
   rw [EO] at Pq;have j5:Hid (dC V (k+1)=if k % 16=0/\(V.pg k).bP=true then dC V k++[(k:Int)] else dC V k):=ae rfl;have vE:Hid (dS V (k+1)=if zJ (V.pg k)=true then dS V k++[k] else dS V k):=ae rfl;have Ps:=(D5.cell (1+k*66+1)).trans (hc'.out.Bo hlt);have Wu:=wP V k;have hlD:=wQ V k;clear EO;by_cases hm:k % 16=0
   ·rw [decide_eq_true hm] at Pq
    cases hh:(V.pg k).bP with
    | true =>
     rw [hh] at Ps;have dx:Hid (dC V (k+1)=dC V k++[(k:Int)]):=ae (by rw [j5.out,if_pos ⟨hm,hh⟩]);clear j5 hm hh;obtain ⟨ll,hll⟩:=ah ((dC V k).length);rw [hll] at uQ Wu;obtain ⟨A2,cap2,rfl,_⟩:=dH uQ;have kN:=af.new wr 3 #[zI (k:Int)];have hbN:Below wr.heap.size wr (wr.alloc (.cells #[zI (k:Int)] 3)):=(Below.refl _ _).alloc (Nat.le_refl _) _;have hsF:=hF.size;have c3:=k3.cell;unfold gG aH at c3;go_wp2_with fail;refine Pq.out.zr λw8 hw8=>?_
     replace hw8:=hw8.symm;subst hw8;go_upto_region 10 with (refine wpList_append_own _ rfl (.tmp 43) (.tmp 45) 54 rfl NB 3 i0 (zI 0) 1 8 underlying54 hi hz0 hz1 hz2 rfl zd _ ll ((dC V k).map (Value.int .i64)) rfl (uQ.alloc _) ⟨wr.heap.size,0,none⟩ 1 1 [zI (k:Int)] rfl rfl (Io kN) AQ (by unfold maxLen;omega) zo (by simp;omega) ?_;intro v' w7 hown' hgrow _;rw [show (dC V k).map (Value.int .i64)++[zI (k:Int)]=(dC V k++[(k:Int)]).map (Value.int .i64) by simp] at hown';have F7:ag (λg=>(Value.slice A2 ll cap2).ownBlock=some g) wr w7:=(ag.of_below hbN).grown hgrow (λg hg _=>hg);have uR:=F7.blk k3 (λh=>dJ uQ h k3 zd);have f37:=uR.frozen;have ai1:w7.cell? ⟨s3,1,none⟩=some (.slice A2 ll cap2):=(uR.cell 1).trans rfl;obtain ⟨JJ,uk,rfl,_⟩:=dH hown';clear c3)
     have F8:ag (λk=>k=s3) w7 (w7.setCell ⟨s3,1,none⟩ (.slice JJ (ll+1) uk)):=ag.setCell (T:=λk=>k=s3) (p:=⟨s3,1,none⟩) (ag.refl _ w7) (λ_=>rfl) _;have uj:af (w7.setCell ⟨s3,1,none⟩ (.slice JJ (ll+1) uk)) s3 60 (gG (.slice A1 N1 lG) (.slice JJ (ll+1) uk) v3 (.slice A4 N4 c4) V.rf.calls V.rf.hits).toArray:=uR.aM 1 _;have oC:(w7.setCell ⟨s3,1,none⟩ (.slice JJ (ll+1) uk)).ownsRow NB 3 1 (.slice JJ (ll+1) uk) (dC V (k+1)).length ((dC V (k+1)).map (Value.int .i64)):=by
      rw [dx.out,List.length_append,List.length_singleton,hll];exact aN hown' F8 (λg hg h=>dJ hown' (hg.trans (congrArg some h)) uR zd)
     have si:=aN (aN zR F7 (λg hg h=>by
      rcases uQ.2 with ⟨hx,_⟩|⟨g',cap',cur,hx,_,hkx,_⟩
      ·rw [hx] at h;cases h
      ·rw [hx] at h
       have e':g'=g:=by injection h
       subst e';exact dJ zR hg (show af wr g' 3 cur from hkx) zd)) F8 (λg hg h=>by
      have:=(zR.lt g hg).1;omega)
     have DZ:ag (λk=>k=s3\/NB<=k) w3 (w7.setCell ⟨s3,1,none⟩ (.slice JJ (ll+1) uk)):=(hF.trans' F7 (λi hi h=>.inr (uQ.lt i h).1)).trans' F8 (λi hi h=>.inl h);have Pm:=F8.blk (F7.blk D5 (λh=>by have:=(uQ.lt b h).1;omega)) (by show ¬b=s3;omega);clear F7 F8 uR f37 ai1 hown' hgrow uQ zR hF k3 D5 kN hbN Ps Wu hsF Pq;generalize w7.setCell ⟨s3,1,none⟩ _=w8 at *;generalize (.slice JJ (ll+1) uk:Value)=v2n at *;obtain ⟨X,hX⟩:=ah (fP .u8 64 (V.pg k).fe);have zM:X.size=64:=by rw [<-hX];simp [fP]
     have hra:w8.rangeAt b (1+k*66+2) X.toList:=λj v hj=>by
      rw [<-hX] at hj;have Gr:j<64:=by have:=(List.getElem?_eq_some_iff.1 hj).1;simpa [fP] using this
      rw [Pm.cell,show 1+k*66+2+j=1+k*66+(j+2) by omega,hc'.out.byte hlt Gr,<-hj,Array.getElem?_toList,ui Gr]
     have lU:(prog.info? 100).map (·.size)=some X.size:=by rw [zM];exact ug
     have oW:(prog.info? 100).map (·.size)=some X.toList.length:=by rw [Array.length_toList];exact lU
     have hone:X.all (·.oneCell')=true:=by
      exact adv
     have ht:∀Z:Array Value,Z.size=64->(w8.alloc (.cells Z 100)).there w8.heap.size 0 X.size:=λZ hZ=>dL (af.new w8 _ Z) 0 X.size zo
     have cZ:∀(Z:Array Value) w9,(w8.alloc (.cells Z 100)).setCells w8.heap.size 0 X.toList=w9->Z.size=64->af w9 w8.heap.size 100 X/\Below w8.heap.size w8 w9:=λZ w9 h hZ=>by
      have kP:=af.puts (g:=w8.heap.size) (t:=100) (w:=w8) (cs:=#[]) X.toList 0 _ _ (af.new w8 100 Z);rw [eH (by rw [Array.length_toList];omega)] at kP;have hF:=ag.puts (T:=λk=>k=w8.heap.size) rfl X.toList 0 w8 _ ((ag.refl _ w8).alloc (.cells Z 100));exact adw
     have heq:∀W,(Op.equalIn 10000 100 (.agg X) (.agg #[.int .u8 0,.int .u8 0,.int .u8 0,.int .u8 0,.int .u8 0,.int .u8 0,.int .u8 0,.int .u8 0,.int .u8 0,.int .u8 0,.int .u8 0,.int .u8 0,.int .u8 0,.int .u8 0,.int .u8 0,.int .u8 0,.int .u8 0,.int .u8 0,.int .u8 0,.int .u8 0,.int .u8 0,.int .u8 0,.int .u8 0,.int .u8 0,.int .u8 0,.int .u8 0,.int .u8 0,.int .u8 0,.int .u8 0,.int .u8 0,.int .u8 0,.int .u8 0,.int .u8 0,.int .u8 0,.int .u8 0,.int .u8 0,.int .u8 0,.int .u8 0,.int .u8 0,.int .u8 0,.int .u8 0,.int .u8 0,.int .u8 0,.int .u8 0,.int .u8 0,.int .u8 0,.int .u8 0,.int .u8 0,.int .u8 0,.int .u8 0,.int .u8 0,.int .u8 0,.int .u8 0,.int .u8 0,.int .u8 0,.int .u8 0,.int .u8 0,.int .u8 0,.int .u8 0,.int .u8 0,.int .u8 0,.int .u8 0,.int .u8 0,.int .u8 0])).run prog W= .ok (!zJ (V.pg k)) W:=λW=>by
      exact adx
     have Pn:=ae hX;have ao5:=ae zM;clear hX zM;go_upto_region 11 with (first
      | (refine wpList_load_mid rfl 100 (.tmp 53) rfl b (1+k*66+2) rfl X.toList _ hra underlying100 rfl oW ?_;rw [Array.toArray_toList])
      | (refine wpList_store_mid rfl 100 (.tmp 5) (.tmp 54) rfl w8.heap.size 0 X rfl rfl (ht _ rfl) lU hone ?_))
     generalize R8:World.setCells _ w8.heap.size 0 X.toList=w9;obtain ⟨k9,jS⟩:=cZ _ _ R8 rfl;clear R8 cZ ht hra;have zF:w9.rangeAt w8.heap.size 0 X.toList:=λj v hj=>by rw [Nat.zero_add,k9.cell];simpa using hj
     cases hnz:zJ (V.pg k) with
     | false =>
      rw [hnz] at heq
      go_wp2_with (refine wpList_load_mid rfl 100 (.tmp 5) rfl w8.heap.size 0 rfl X.toList _ zF underlying100 rfl oW ?_;rw [Array.toArray_toList])
      go_roundw
      case rel =>
       have rM:dS V (k+1)=dS V k:=by rw [vE.out,if_neg (by rw [hnz];decide)]
       exact ⟨k+1,v2n,v3,zo,by go_num,uj.call jS,aI oC jS,by rw [rM];exact aI si jS,DZ.trans (.of_below jS)⟩
      case measure=>exact zm
     | true =>
      rw [hnz] at heq;go_upto_region 12 with (refine wpList_load_mid rfl 100 (.tmp 5) rfl w8.heap.size 0 rfl X.toList _ zF underlying100 rfl oW ?_;rw [Array.toArray_toList])
      obtain ⟨D,hD⟩:=ah (lW (k:Int) (V.pg k).fe);have hbt:prog.built 118 [(0,zI (k:Int)),(1,.agg X)]=some D:=by rw [<-hD,<-Pn.out];exact E8 _ _
      have Wo:∀W,(Instr.build 118 #[(0,zI (k:Int)),(1,.agg X)]).run prog W= .ok (.agg D) W:=λW=>run_build W _ _ _ hbt
      have hbs:=JI (k:Int) (V.pg k).fe;rw [hD] at hbs;have hDs:D.toList.length=65:=by rw [<-hD];simp [lW]
      have Wp:∀u∈D.toList,u.oneCell'=true:=by
       intro u hu;rw [<-hD,<-DY] at hu;exact JB V [k] u (by simpa [fl] using hu)
      have hDl:fl (rJ V) [k]=D.toList:=by rw [<-hD,<-DY];simp [fl]
      have rM:Hid (dS V (k+1)=dS V k++[k]):=ae (by rw [vE.out,if_pos hnz]);obtain ⟨dl,hdl⟩:=ah ((dS V k).length);rw [hdl] at si hlD;have pR:=aI si jS;have yI:=uj.call jS;obtain ⟨Wq,CW,rfl,_⟩:=dH pR;have R9:w9.cell? ⟨s3,2,none⟩=some (.slice Wq dl CW):=(yI.cell 2).trans rfl;clear hD hnz heq;have hfl:Instr.fill (λi=>some (i*iD.size,iD.size)) ((Array.range (1*iD.size)).map ((Value.agg (lW 0 (λ_=>0))).cells[· % (Value.agg (lW 0 (λ_=>0))).cells.size]!)) [(0,.agg D)]=some D:=by rw [Gs];exact hbs
      have hs1:¬1*iD.size > 2 ^ 24:=by rw [Gs];decide
      have hs2:¬1*iD.size=0:=by rw [Gs];decide
      have kD:=af.new w9 118 D;have hbD:Below w9.heap.size w9 (w9.alloc (.cells D 118)):=(Below.refl _ _).alloc (Nat.le_refl _) _;have nwD:∀(j:Nat) (u:Value),D.toList[j]? = some u->(w9.alloc (.cells D 118)).cell? ((⟨w9.heap.size,0,none⟩:Addr).add j)=some u:=λj u hu=>by
       rw [dM,Nat.zero_add,kD.cell];simpa using hu
      have ao6:=(DZ.trans (.of_below jS)).size;clear hbs Wo
      go_wp2_with (refine wpList_load_mid rfl 100 (.tmp 5) rfl w8.heap.size 0 rfl X.toList _ zF underlying100 rfl oW ?_;rw [Array.toArray_toList];refine zO rfl 62 rfl 118 [(0,.tmp 60),(1,.tmp 61)] rfl _ rfl D hbt ?_;refine r9 rfl 63 rfl 55 118 1 [(0,.tmp 62)] rfl _ rfl D iD _ underlying55 E9 YZ hs1 hs2 hfl ?_;refine wpList_append_own _ rfl (.tmp 59) (.tmp 63) 55 rfl NB 118 iD (.agg (lW 0 (λ_=>0))) 65 72 underlying55 E9 YZ Gs aiZ rfl zd _ dl (fl (rJ V) (dS V k)) rfl (pR.alloc _) ⟨w9.heap.size,0,none⟩ 1 1 D.toList rfl hDs nwD Wp (by unfold maxLen;omega) zo (by simp;omega) ?_;intro v' iV hown' hgrow _;rw [<-hDl,<-kC] at hown';have rO:ag (λg=>(Value.slice Wq dl CW).ownBlock=some g) w9 iV:=(ag.of_below hbD).grown hgrow (λg hg _=>hg);have zQ:=rO.blk yI (λh=>dJ pR h yI zd);have f310:=zQ.frozen;have ao7:iV.cell? ⟨s3,2,none⟩=some (.slice Wq dl CW):=(zQ.cell 2).trans rfl;obtain ⟨Fa,qf,rfl,_⟩:=dH hown';clear R9)
      have Bp:ag (λk=>k=s3) iV (iV.setCell ⟨s3,2,none⟩ (.slice Fa (dl+1) qf)):=ag.setCell (T:=λk=>k=s3) (p:=⟨s3,2,none⟩) (ag.refl _ iV) (λ_=>rfl) _;have adt:af (iV.setCell ⟨s3,2,none⟩ (.slice Fa (dl+1) qf)) s3 60 (gG (.slice A1 N1 lG) v2n (.slice Fa (dl+1) qf) (.slice A4 N4 c4) V.rf.calls V.rf.hits).toArray:=zQ.aM 2 _;have Ws:(iV.setCell ⟨s3,2,none⟩ (.slice Fa (dl+1) qf)).ownsRow NB 118 65 (.slice Fa (dl+1) qf) (dS V (k+1)).length (fl (rJ V) (dS V (k+1))):=by
       rw [rM.out,List.length_append,List.length_singleton,hdl];exact aN hown' Bp (λg hg h=>dJ hown' (hg.trans (congrArg some h)) zQ zd)
      have BN:=aI oC jS;have Wt:=aN (aN BN rO (λg hg h=>by
       rcases pR.2 with ⟨hx,_⟩|⟨g',cap',cur,hx,_,hkx,_⟩
       ·rw [hx] at h;cases h
       ·rw [hx] at h
        have e':g'=g:=by injection h
        subst e';exact dJ BN hg (show af w9 g' 118 cur from hkx) zd)) Bp (λg hg h=>by
       have:=(BN.lt g hg).1;omega)
      have adu:ag (λk=>k=s3\/NB<=k) w3 (iV.setCell ⟨s3,2,none⟩ (.slice Fa (dl+1) qf)):=((DZ.trans (.of_below jS)).trans' rO (λi hi h=>.inr (pR.lt i h).1)).trans' Bp (λi hi h=>.inl h);go_roundw
      case rel=>exact ⟨k+1,v2n,_,zo,by go_num,adt,Wt,Ws,adu⟩
      case measure=>exact zm
    | false =>
     rw [hh] at Ps;have dx:Hid (dC V (k+1)=dC V k):=ae (by rw [j5.out,if_neg (by rw [hh];simp)]);clear j5 hm hh;have uj:=k3;have oC:wr.ownsRow NB 3 1 v2 (dC V (k+1)).length ((dC V (k+1)).map (Value.int .i64)):=by rw [dx.out];exact uQ
     have si:=zR;have DZ:=hF;have Pm:=D5;clear k3 uQ zR hF D5 Wu;go_upto_region 10 with fail
     refine Pq.out.zr λw8 hw8=>?_
     replace hw8:=hw8.symm;subst hw8;go_upto_region 10 with fail
     clear Pq Ps;exact zT1
   ·rw [decide_eq_false hm] at Pq
    have dx:Hid (dC V (k+1)=dC V k):=ae (by rw [j5.out,if_neg (λh=>hm h.1)]);clear j5 hm;have uj:=k3;have oC:wr.ownsRow NB 3 1 v2 (dC V (k+1)).length ((dC V (k+1)).map (Value.int .i64)):=by rw [dx.out];exact uQ
    have si:=zR;have DZ:=hF;have Pm:=D5;clear k3 uQ zR hF D5 Wu Ps;go_upto_region 10 with fail
    refine Pq.out.zr λw8 hw8=>?_
    replace hw8:=hw8.symm;subst hw8;go_upto_region 10 with fail
    clear Pq;exact zT1
  ·obtain rfl:k=1024:=zo
   have hlt':decide (((1024:Nat):Int)<1024)=false:=by decide
   obtain ⟨A2,cap2,rfl,r2,_,_,g2,_⟩:=dH uQ;obtain ⟨A3,mI,rfl,r3,_,_,g3,_⟩:=dH zR;have k2r:=hF.blk k23 (by show ¬(s=s3\/NB<=s);omega);obtain ⟨qh,zS⟩:=ah (gG (.slice A1 N1 lG) (.slice A2 (dC V 1024).length cap2) (.slice A3 (dS V 1024).length mI) (.slice A4 N4 c4) V.rf.calls V.rf.hits);have xQ:qh.length=18:=by rw [<-zS];rfl
   have Wv:qh.toArray.all (·.oneCell')=true:=by rw [<-zS];exact Go.all_oneCell_toArray (JE rfl rfl rfl rfl _ _)
   rw [zS] at k3;have hra:wr.rangeAt s3 0 qh:=λj v hj=>by rw [Nat.zero_add,k3.cell];simpa using hj
   have lU:(prog.info? 60).map (·.size)=some qh.length:=by rw [xQ];exact Pk
   have Ww:(prog.info? 60).map (·.size)=some qh.toArray.size:=by rw [List.size_toArray];exact lU
   have ht:wr.there s 0 qh.toArray.size:=dL k2r 0 _ (by rw [List.size_toArray,xQ];exact Nat.le_refl _);have kP:=af.puts (g:=s) (t:=60) (w:=wr) (cs:=#[]) qh 0 wr _ k2r;rw [eH (by rw [xQ];rfl)] at kP;have F9:=ag.puts (T:=λk=>k=s) rfl qh 0 wr wr (ag.refl _ _);have hC':=ae zS;have hs':=ae hs;clear zS xQ hs
   go_wp2_with (first
    | (refine wpList_load_mid rfl 60 (.tmp 3) rfl s3 0 rfl qh _ hra underlying60 rfl lU ?_)
    | (refine wpList_store_mid rfl 60 (.tmp 2) (.tmp 67) rfl s 0 qh.toArray rfl rfl ht Ww Wv ?_))
   generalize World.setCells wr s 0 qh=w9 at *;have Ht:=run_loadVar_mid (P:=prog) w9 s 0 60 qh _ (λj v hj=>by rw [Nat.zero_add,kP.cell];simpa using hj) underlying60 rfl lU;refine bodyPost_ret (v:=.agg qh.toArray) ?_ rfl ?_
   ·exact wU results103 rfl Ht
   have q1r:=adz.out.yw hF (λk hk ⟨o,e⟩=>by
    have:=q4 k o e;show ¬(k=s3\/NB<=k);omega)
   have r1r:=apa.out.yw hF (λk hk ⟨o,e⟩ h=>by
    rcases h with h|h
    ·exact ai0 o (h ▸ e)
    ·omega)
   have NP:=F9.size;have apb:=hF.size;refine ⟨_,rfl,⟨A1,A2,A3,A4,N1,lG,_,cap2,_,mI,N4,c4,by rw [hC'.out],NN.out,?_,rfl,?_,rfl,?_,adA.out,?_⟩,?_⟩
   ·exact (r1r.yw F9 (λk hk ⟨o,e⟩ h=>by have:=hAs.out k o e;omega)).more zo
   ·exact RI.more (r2.yw F9 (λk hk ⟨o,e⟩ h=>by have:=g2 k o e;omega)) NP
   ·exact (r3.yw F9 (λk hk ⟨o,e⟩ h=>by have:=g3 k o e;omega)).more NP
   ·exact (q1r.yw F9 (λk hk ⟨o,e⟩ h=>by have:=q4 k o e;omega)).more zo
   ·rw [hs'.out]
    exact B3.trans ((hF.below zo (λk hk h=>by omega)).trans (F9.below zo (λk hk h=>by omega)))
theorem adD {P:Prop} (h:P:=by
 rw [hE];clear hE h1;go_enter func199,ntmps199;go_wp2_with fail;go_ret;exact ⟨rfl,rfl⟩):P:=h
theorem AV (n a b:Int) (w:World):Calls prog 199 #[zI n,zI a,zI b] w λe w'=>e= .returned (.bool (vX n a b))/\w=w':=by
 by_cases h1:a<=n
 ·have d1:=bU h1
  have hE:vX n a b=decide (n<=b):=by simp [vX,h1]
  exact adD
 ·have d1:=bV h1
  have hE:vX n a b=false:=by simp [vX,h1]
  exact adD
theorem Wy {P:Prop} (h:P:=by
 have hr:=hE2.out rfl;subst hr;go_wp2_with fail;go_ret;exact ⟨rfl,hb0⟩):P:=h
theorem adE {P:Prop} (h:P:=by
 subst hr;clear c10;go_wp2_with fail;go_ret;exact ⟨rfl,hb0⟩):P:=h
theorem Wz (x:Ru) (w:World):zK 189 #[QM x] w (zI (fo x)):=by
 obtain ⟨k,f,e,t⟩:=x;have hb0:=aQ w (.cells #[zI k,zI f,zI e,zI t] 108);have k0:=af.new w 108 #[zI k,zI f,zI e,zI t];have c0:=k0.cell;clear k0;obtain ⟨R,hR⟩:=ah (fo (k,f,e,t));rw [hR];unfold fo at hR;simp only at hR;have H1:=ae (λW=>AV k 0 6 W);have H2:=ae (λW=>AV f 1 10000 W);have H3:=ae (λW=>AV e 0 12 W);have H4:=ae (λW=>AV t 0 1000 W);have hE:Hid ((vX k 0 6=false->R=2)/\(vX k 0 6=true->(vX f 1 10000&&vX e 0 12&&vX t 0 1000)=false->R=7) /\
   (vX k 0 6=true->vX f 1 10000=true->vX e 0 12=true->vX t 0 1000=true->R=if e=0/\t≠1 then 6 else 0)):=ae (by
  simp only [Bool.and_eq_false_iff,Wx,AU];refine ⟨λh=>?_,λh h2=>?_,λh h2 h3 h4=>?_⟩
  ·rw [<-hR,if_pos zo]
  ·rw [<-hR,if_neg zo,if_pos zo]
  ·rw [<-hR,if_neg zo,if_neg zo])
 generalize vX k 0 6=b1 at *;generalize vX f 1 10000=b2 at *;generalize vX e 0 12=b3 at *;generalize vX t 0 1000=b4 at *;clear hR;go_enter func189,ntmps189;go_wp2_with fail;refine (H1.out _).mono ?_;rintro e9 w9 ⟨rfl,rfl⟩;cases b1 with
 | false =>
  have hr:=hE.out.1 rfl;subst hr;go_wp2_with fail;go_ret;exact ⟨rfl,hb0⟩
 | true =>
  have hE2:=ae (hE.out.2.1 rfl);have hE3:=ae (hE.out.2.2 rfl);clear hE H1;go_wp2_with fail;refine (H2.out _).mono ?_;rintro e9 w9 ⟨rfl,rfl⟩;cases b2 with
  | false =>
   exact Wy
  | true =>
   have hE4:=ae (hE3.out rfl);clear hE3 H2;go_wp2_with fail;refine (H3.out _).mono ?_;rintro e9 w9 ⟨rfl,rfl⟩;cases b3 with
   | false =>
    exact Wy
   | true =>
    have hE5:=ae (hE4.out rfl);clear hE4 H3;go_wp2_with fail;refine (H4.out _).mono ?_;rintro e9 w9 ⟨rfl,rfl⟩;cases b4 with
    | false =>
     exact Wy
    | true =>
     have hr:=hE5.out rfl;clear hE5 hE2 H4;by_cases c9:e=0
     ·subst c9
      by_cases c10:t=1
      ·have d10:=Ha c10
       rw [if_neg zo] at hr;exact adE
      ·have d10:=gJ c10
       rw [if_pos ⟨rfl,c10⟩] at hr;exact adE
     ·have d9:=lV c9
      rw [if_neg zo] at hr;subst hr;clear c9;go_wp2_with fail;go_ret;exact ⟨rfl,hb0⟩
theorem yx (A:Option Addr) (n cap:Nat) (l:List Ru) (w:World) (hn:l.length=n) (hr:Rd w w.heap.size A (fl iU l)) :
  zK 158 #[.agg #[.slice A n cap]] w (.tuple #[zI (iy l).1,zI (iy l).2]):=by
 have hb0:=aQ w (.cells #[.slice A n cap] 31);have k0:=af.new w 31 #[.slice A n cap];have c0:=k0.cell;have r0:=hr.fB hb0;obtain ⟨R,hR⟩:=ah (iy l);rw [hR];obtain ⟨ri,re⟩:=R;unfold iy at hR;have hn':=ae hn;by_cases h50:50<n
 ·have d1:decide (50<(n:Int))=true:=by rw [decide_eq_true_eq];omega
  have hE:Hid ((ri,re)=(0,3)):=ae (by rw [<-hR,if_pos zo]);clear hR hr r0 k0 hn h50;go_enter func158,ntmps158;exact abJ
 ·have d1:decide (50<(n:Int))=false:=by rw [decide_eq_false_iff_not];omega
  rw [if_neg zo] at hR;have hR':=ae hR;clear hR hr hn;obtain ⟨s,hs⟩:=ah (w.heap.size);have HR:=ae (λx W=>Wz x W);have hs':=ae hs;go_enter func158,ntmps158;go_upto_region 3 with fail
  generalize w.alloc (.cells #[.slice A n cap] 31)=w0 at *;rw [hs] at hb0 k0 c0;try simp only [hs]
  clear hs;have WC:=ae k0;clear k0;go_wp2_with fail
  go_loopw [4] (λu wr=>∃i:Nat,i<=n/\u = zI i/\Hid (yn i (l.drop i)=(ri,re))/\Below w0.heap.size w0 wr) (λu _=>n - (intOf u).toNat)
  case atStart=>exact ⟨0,zo,rfl,ae hR'.out,Below.refl _ _⟩
  case round =>
   clear hR' c0;obtain ⟨i,hi,rfl,hR,hB⟩:=hrel;have kr:=WC.out.call hB;have cr:=kr.cell;by_cases hlt:i<n
   ·have hlt':decide ((i:Int)<(n:Int))=true:=by simpa using hlt
    have hst:=IP l i (by have:=hn'.out;omega);rw [hR.out] at hst;obtain ⟨b,o,rfl,hb,hc⟩:=(r0.fB hB).elem jY zo qa (k:=i) (by have:=hn'.out;omega);generalize l.getD i qa=x at *;have hcl:=HR.out x;obtain ⟨k,f,e,t⟩:=x;have x0:=hc 0 _ rfl;have x1:=hc 1 _ rfl;have x2:=hc 2 _ rfl;have x3:=hc 3 _ rfl;simp only [Nat.add_zero] at x0;generalize fo (k,f,e,t)=er at *;have hst':=ae hst;have hcl':=ae hcl;have hin:(i:Int)<(n:Int):=zo;clear hc hst hcl;by_cases he:er=0
    ·subst he
     have dx:Hid (yn (i+1) (l.drop (i+1))=(ri,re)):=ae (by rw [hst'.out,if_neg zs]);clear hst';go_wp2_with fail;refine (hcl'.out _).zr λw1 hb1=>?_
     go_wp2_with fail;go_roundw
     case rel=>exact ⟨i+1,zo,by go_num,dx,hB.zt hb1⟩
     case measure=>exact zm
    ·have he':=gJ he
     have dx:Hid ((ri,re)=((i:Int),er)):=ae (by rw [hst'.out,if_pos he]);clear hst' he;go_wp2_with fail;refine (hcl'.out _).zr λw1 hb1=>?_
     go_wp2_with fail;go_ret2;have h:=dx.out;simp only [Prod.mk.injEq] at h;exact ⟨by rw [h.1,h.2];rfl,by rw [hs'.out];exact hb0.trans ((hB.zt hb1).mono (by have:=hb0.size;have:=hs'.out;omega))⟩
   ·exact aif
theorem ai2 {P:Prop} (h:P:=by
 clear hrf hlow hzero hx h1 h2 h3 h4 c2 k0;go_enter func212,ntmps212;go_wp2_with fail;go_ret;exact ⟨fu (by simp [hE.out]),hb0⟩):P:=h
theorem adG {P:Prop} (h:P:=by
 clear hE' c5;go_enter func212,ntmps212;go_wp2_with fail;go_ret;exact ⟨fu (by simp [<-hE2.out]),hb0⟩):P:=h
theorem Pt (x:Ru) (k n:Int) (w:World) (hx:fo x=0) (hn:1<=n/\n<=1000000) :
  zK 212 #[QM x,zI k,zI n] w (.bool (x.1==k&&qL x n)):=by
 obtain ⟨_,h1,h2,h3,h4⟩:=jI.1 hx;have hrf:=λa b=>adF (x:=x) (n:=n) a b
 have hlow:n<x.2.1->qL x n=false:=λh=>by unfold qL;rw [decide_eq_false zo];rfl
 have hzero:x.2.1<=n->x.2.2.1=0->qL x n=(n==x.2.1):=λh h'=>by
  unfold qL;rw [decide_eq_true h,if_pos h',Bool.true_and];rw [Bool.eq_iff_iff];simp
 obtain ⟨xk,f,e,t⟩:=x;simp only at h1 h2 h3 h4 hrf hlow hzero;generalize qL (xk,f,e,t) n=R at *;have hb0:=aQ w (.cells #[zI xk,zI f,zI e,zI t] 108);have k0:=af.new w 108 #[zI xk,zI f,zI e,zI t];have c0:=k0.cell;by_cases c1:xk=k
 ·subst c1
  have d1:(xk != xk)=false:=by simp
  by_cases c2:n<f
  ·have d2:=bU c2
   have hE:=ae (hlow c2);exact ai2
  ·have d2:=bV c2
   by_cases c3:e=0
   ·subst c3
    have hE:=ae (hzero zo rfl);exact ai2
   ·have d3:=lV c3
    have hE:=hrf zo c3;obtain ⟨q,hq⟩:=ah ((n - f) / e);have hq0:0<=q:=by rw [<-hq];exact Int.ediv_nonneg zo zo
    have hqe:q*e<=n - f:=by rw [<-hq];exact Int.ediv_mul_le _ c3
    have apf:0<=q*e:=Int.mul_nonneg hq0 zo;have w1:IntKind.i64.wrap (n - f)=n - f:=by rw [IntKind.wrap_i64];omega
    have w1':wrap64 (n - f)=n - f:=by unfold wrap64;omega
    have tq:Int.tdiv (n - f) e=q:=by rw [Int.tdiv_eq_ediv_of_nonneg zo];exact hq
    have hqn:q<=n - f:=by
     rw [<-hq];exact Int.ediv_le_self _ zo
    have w2:wrap64 q=q:=by unfold wrap64;omega
    have w3:IntKind.i64.wrap (q*e)=q*e:=by rw [IntKind.wrap_i64];omega
    have w3':wrap64 (q*e)=q*e:=by unfold wrap64;omega
    have w4:IntKind.i64.wrap (f+q*e)=f+q*e:=by rw [IntKind.wrap_i64];omega
    have w4':wrap64 (f+q*e)=f+q*e:=by unfold wrap64;omega
    rw [hq] at hE;have hE':=ae hE;have hne:e≠0:=c3;have aw6:¬e = -1:=zo;clear hrf hlow hzero hx h1 h2 h3 h4 c2 k0 hq hqe apf hqn hq0 hE c3;by_cases c5:f+q*e=n
    ·have d5:=Hd c5
     by_cases c4:t=0
     ·subst c4
      have hE2:Hid (true=R):=ae (by rw [hE'.out,d5];rfl);exact adG
     ·have d4:=lV c4
      have hE2:Hid (decide (q<t)=R):=ae (by rw [hE'.out,d5,decide_eq_false c4];rfl);clear hE' c5 c4;go_enter func212,ntmps212;go_wp2_with fail;go_ret;exact ⟨fu (by simp [<-hE2.out]),hb0⟩
    ·have d5:=lV c5
     have hE2:Hid (false=R):=ae (by rw [hE'.out,d5];rfl);exact adG
 ·have d1:=gJ c1
  have d2:=lV c1;clear hrf hlow hzero hx h1 h2 h3 h4 k0;go_enter func212,ntmps212;go_wp2_with fail;go_ret;exact ⟨fu zs,hb0⟩
theorem BO (A:Option Addr) (n cap:Nat) (l:List Ru) (k nn:Int) (w:World) (hn:l.length=n) (hm:n<=1000) (hok:∀x∈l,fo x=0) (hnn:1<=nn/\nn<=1000000) (hr:Rd w w.heap.size A (fl iU l)) :
  zK 200 #[.agg #[.slice A n cap],zI k,zI nn] w (.bool (oP l k nn)):=by
 have hb0:=aQ w (.cells #[.slice A n cap] 31);have k0:=af.new w 31 #[.slice A n cap];have r0:=hr.fB hb0;have HR:=ae (λ(i:Nat) (hi:i<n) W=>Pt (l.getD i qa) k nn W (hok _ (Gm zo)) hnn);have hst:=ae (λi h=>aap l k nn i h);obtain ⟨R,hR⟩:=ah (oP l k nn);rw [hR];have hR':Hid (l.any (λx=>x.1==k&&qL x nn)=R):=ae hR;have hn':=ae hn;clear hR hr hn hok;obtain ⟨s,hs⟩:=ah (w.heap.size);have hs':=ae hs;go_enter func200,ntmps200;go_upto_region 1 with fail
 generalize w.alloc (.cells #[.slice A n cap] 31)=w0 at *;rw [hs] at hb0 k0;try simp only [hs]
 have WC:=ae k0;clear k0 hs;go_wp2_with fail
 go_loopw [7] (λu wr=>∃i:Nat,i<=n/\u = zI i/\Hid ((l.drop i).any (λx=>x.1==k&&qL x nn)=R)/\Below w0.heap.size w0 wr) (λu _=>n - (intOf u).toNat)
 case atStart=>exact ⟨0,zo,rfl,hR',Below.refl _ _⟩
 case round =>
  clear hR';obtain ⟨i,hi,rfl,hR,hB⟩:=hrel;have kr:=WC.out.call hB;have cr:=kr.cell;by_cases hlt:i<n
  ·have hlt':decide ((i:Int)<(n:Int))=true:=by simpa using hlt
   have hin:(i:Int)<(n:Int):=zo;have hs2:=hst.out i (by have:=hn'.out;omega);rw [hR.out] at hs2;have HRi:=ae (HR.out i hlt);obtain ⟨b,o,rfl,hb,hc⟩:=(r0.fB hB).elem jY zo qa (k:=i) (by have:=hn'.out;omega);generalize l.getD i qa=x at *;obtain ⟨xk,f,e,t⟩:=x;have x0:=hc 0 _ rfl;have x1:=hc 1 _ rfl;have x2:=hc 2 _ rfl;have x3:=hc 3 _ rfl;simp only [Nat.add_zero] at x0;generalize ((xk,f,e,t).1==k&&qL (xk,f,e,t) nn)=B at *;have hs3:=ae hs2;clear hc hs2 hR;cases B with
   | true =>
    go_wp2_with fail;refine (HRi.out _).zr λw1 hb1=>?_
    go_wp2_with fail;go_ret;exact ⟨fu (by rw [hs3.out];rfl),by rw [hs'.out];exact hb0.trans ((hB.zt hb1).mono (by have:=hb0.size;have:=hs'.out;omega))⟩
   | false =>
    go_wp2_with fail;refine (HRi.out _).zr λw1 hb1=>?_
    go_wp2_with fail;go_roundw
    case rel=>exact ⟨i+1,zo,by go_num,ae (by rw [hs3.out];rfl),hB.zt hb1⟩
    case measure=>exact zm
  ·obtain rfl:i=n:=zo
   have hlt':decide ((i:Int)<(i:Int))=false:=by simp
   have hE:=hR.out;rw [List.drop_of_length_le (by have:=hn'.out;omega)] at hE;have hE':Hid (false=R):=ae hE;clear hE hR;go_wp2_with fail;go_ret;exact ⟨fu hE'.out,by rw [hs'.out];exact hb0.trans (hB.mono (by have:=hb0.size;have:=hs'.out;omega))⟩
theorem WE (A:Option Addr) (n cap:Nat) (l:List Ru) (k:Int) (lim:Nat) (w:World) (hn:l.length=n) (hn1:n<=1000) (hok:∀x∈l,fo x=0) (hl:lim<=1000000) (hr:Rd w w.heap.size A (fl iU l)) :
  zK 211 #[.agg #[.slice A n cap],zI k,zI lim] w (zI (oh l k lim)):=by
 have hb0:=aQ w (.cells #[.slice A n cap] 31);have k0:=af.new w 31 #[.slice A n cap];have r0:=hr.fB hb0;have HR:=ae (λ(i:Nat) (hi:i<lim) W (h:Rd W W.heap.size A (fl iU l))=>BO A n cap l k ((i:Int)+1) W hn hn1 hok ⟨zo,zo⟩ h);have hst:=ae (λi=>show oh l k (i+1)=oh l k i+if oP l k ((i:Int)+1)=true then 1 else 0 from rfl);have hbd:=ae (λi=>uY l k i);have h00:oh l k 0=0:=rfl;have apg:=ae h00;clear hr hn hok h00;obtain ⟨s,hs⟩:=ah (w.heap.size);have hs':=ae hs;generalize oh l k=F at *;go_enter func211,ntmps211;go_upto_region 1 with fail
 generalize w.alloc (.cells #[.slice A n cap] 31)=w0 at *;rw [hs] at hb0 k0;try simp only [hs]
 have WC:=ae k0;clear k0 hs;go_wp2_with fail
 go_loopw [7,8] (λu v wr=>∃(i:Nat) (c:Int),i<=lim/\u = zI c/\v = zI ((i:Int)+1)/\Hid (c=F i)/\Below w0.heap.size w0 wr) (λ_ v _=>lim+1 - (intOf v).toNat)
 case atStart=>exact ⟨0,0,zo,rfl,rfl,ae apg.out.symm,Below.refl _ _⟩
 case round =>
  obtain ⟨i,c,hi,rfl,rfl,hc,hB⟩:=hrel;have kr:=WC.out.call hB;have cr:=kr.cell;by_cases hlt:i<lim
  ·have hlt':decide ((i:Int)+1<=(lim:Int))=true:=by rw [decide_eq_true_eq];omega
   have HRi:=ae (HR.out i hlt wr (r0.fB hB));have hs2:=hst.out i;rw [<-hc.out] at hs2;have hcb:=hbd.out i;rw [<-hc.out] at hcb;generalize oP l k ((i:Int)+1)=B at *;have hs3:=ae hs2;have hwi:wrap64 ((i:Int)+1+1)=(((i+1:Nat):Int))+1:=by unfold wrap64;omega
   clear hs2 hc;cases B with
   | true =>
    have hwc:wrap64 (c+1)=c+1:=by unfold wrap64;omega
    go_wp2_with fail;refine HRi.out.zr λw1 hb1=>?_
    go_wp2_with fail;go_roundw
    case rel=>exact ⟨i+1,c+1,zo,rfl,rfl,ae (by rw [hs3.out];rfl),hB.zt hb1⟩
    case measure=>exact zm
   | false =>
    go_wp2_with fail;refine HRi.out.zr λw1 hb1=>?_
    go_wp2_with fail;go_roundw
    case rel=>exact ⟨i+1,c,zo,rfl,rfl,ae (by rw [hs3.out];simp),hB.zt hb1⟩
    case measure=>exact zm
  ·obtain rfl:i=lim:=zo
   have hlt':decide ((i:Int)+1<=(i:Int))=false:=by rw [decide_eq_false_iff_not];omega
   go_wp2_with fail;go_ret;exact ⟨CQ hc.out,by rw [hs'.out];exact hb0.trans (hB.mono (by have:=hb0.size;have:=hs'.out;omega))⟩
theorem Fb (A:Option Addr) (n cap:Nat) (S:Rf) (w:World) (hS:uf S) (hn:S.rules.length=n) (hr:Rd w w.heap.size A (fl iU S.rules)) :
  zK 198 #[ic (.slice A n cap) S.calls S.hits] w (zI 0):=by
 obtain ⟨l,cs,hs⟩:=S;obtain ⟨h1,h2,h3⟩:=hS;simp only at h1 h2 h3 hn hr;simp only;obtain ⟨hlen,hok⟩:=lZ.1 h1;have RB:n<=50:=zo;have HC:=ae (λW h=>yx A n cap l W hn h);rw [h1] at HC;generalize (iy l).1=ci at *;have hb0:=aQ w (.cells (aH (.slice A n cap) cs hs).toArray 58);have k0:=af.new w 58 (aH (.slice A n cap) cs hs).toArray;have r0:=hr.fB hb0;obtain ⟨s,hsz⟩:=ah (w.heap.size);have hh2:=ae h2;have hh3:=ae h3;have hok':=ae hok;have hn':=ae hn;clear hr h1 h2 h3 hok hn;unfold ic aH;unfold aH at hb0 k0 r0;go_enter func198,ntmps198;go_upto_region 1 with fail
 generalize w.alloc _=w0 at *;rw [hsz] at hb0 k0;try simp only [hsz]
 have hsz':=ae hsz;clear hsz;have c0:=k0.cell;go_wp2_with fail;refine (HC.out _ r0).zr λw1 hb1=>?_
 have k1:af w1 s 58 (aH (.slice A n cap) cs hs).toArray:=k0.call hb1;have r1:=r0.fB hb1;have B1:=hb0.trans (hb1.mono (by have:=hb0.size;have:=hsz'.out;omega));clear c0 k0 r0 hb0 hb1 HC;go_wp2_with fail
 go_loopw [5] (λu wr=>∃j:Nat,j<=7/\u = zI j/\wr=w1) (λu _=>7 - (intOf u).toNat)
 case atStart=>exact ⟨0,zo,rfl,rfl⟩
 case round =>
  obtain ⟨j,hj,rfl,hw⟩:=hrel;have hw':=hw.symm;clear hw;subst hw';by_cases hlt:j<7
  ·have hlt':decide ((j:Int)<7)=true:=by simp;omega
   have hin:(j:Int)<7:=zo;have zg:=hh2.out j hlt;have hcell:=(k1.cell (1+j)).trans (nT (.slice A n cap) cs hs hlt);have HI:=AV (cs j) 0 1000000 w1;rw [AU.2 zg] at HI;have HI':=ae HI;generalize cs j=m at *;clear HI zg;go_wp2_with fail;refine HI'.out.mono ?_;rintro e9 w9 ⟨rfl,rfl⟩;go_wp2_with fail;go_roundw
   case rel=>exact ⟨j+1,zo,by go_num,trivial⟩
   case measure=>exact zm
  ·obtain rfl:j=7:=zo
   have hlt':decide (((7:Nat):Int)<7)=false:=by simp
   go_wp2_with fail
   go_loopw [6] (λu wr=>∃j:Nat,j<=7/\u = zI j/\Below w1.heap.size w1 wr) (λu _=>7 - (intOf u).toNat)
   case atStart=>exact ⟨0,zo,rfl,Below.refl _ _⟩
   case round =>
    clear hlt hj hlt';obtain ⟨j,hj,rfl,hB⟩:=hrel;by_cases hlt:j<7
    ·have hlt':decide ((j:Int)<7)=true:=by simp;omega
     have hin:(j:Int)<7:=zo;have zg:=hh2.out j hlt;have hhi:=hh3.out j hlt;have kr:=k1.call hB;have hcell:=(kr.cell (8+j)).trans (wN (.slice A n cap) cs hs hlt);rw [hhi] at hcell;have Pv:=(kr.cell (1+j)).trans (nT (.slice A n cap) cs hs hlt);obtain ⟨m,hm⟩:∃m:Nat,cs j=(m:Int):=⟨(cs j).toNat,zo⟩;rw [hm] at hcell zg Pv;simp only [Int.toNat_natCast] at hcell;have G:=ae (λz:Ext wr=>Ext.call (x:=z) (WE A n cap l (j:Int) m z.w hn'.out zo hok'.out zo ((r1.fB hB).fB z.le)));generalize oh l (j:Int) m=H at *;have d3:(H != H)=false:=by simp
     have z0:=λz:Ext wr=>z.cell (show wr.cell? ⟨s,0,none⟩=some (.slice A n cap) from (kr.cell 0).trans rfl)
     have zh:=λz:Ext wr=>z.cell hcell
     have zc:=λz:Ext wr=>z.cell Pv
     clear hhi hm hcell Pv kr;go_upto_region 12 with fail
     refine aD zk zk ?_
     repeat (go_big_quiet_step ((go_at_call 211;exact G.out _)))
     refine wpQuiet_nil ?_;rintro w2 ⟨⟨_,hw2⟩,rfl⟩;clear z0 zh zc;exact VN
    ·exact aiM
def JK (v:Value) (l:List Ru) (w:World) (e:Ending) (w':World):Prop :=
 e= .returned (.tuple #[if (iy l).2=0 then ic v (λ_=>0) (λ_=>0) else ic zN (λ_=>0) (λ_=>0),zI (iy l).2])/\Below w.heap.size w w'
theorem Sb (A:Option Addr) (n cap:Nat) (l:List Ru) (w:World) (hn:l.length=n) (hr:Rd w w.heap.size A (fl iU l)) :
  Calls prog 94 #[.agg #[.slice A n cap]] w (JK (.slice A n cap) l w):=by
 have HC:=ae (λW h=>yx A n cap l W hn h);have hb0:=aQ w (.cells #[.slice A n cap] 31);have k0:=af.new w 31 #[.slice A n cap];unfold JK;generalize hR:iy l=R at *;obtain ⟨ri,re⟩:=R;simp only at HC ⊢;clear hR hn;obtain ⟨s,hs⟩:=ah (w.heap.size);have hs':=ae hs;have hb1:=hb0.alloc zs (.cells (aH zN (λ_=>0) (λ_=>0)).toArray 58);have k1:=k0.alloc (.cells (aH zN (λ_=>0) (λ_=>0)).toArray 58);have b1:=af.new (w.alloc (.cells #[.slice A n cap] 31)) 58 (aH zN (λ_=>0) (λ_=>0)).toArray;rw [World.size_alloc,hs] at b1;rw [hs] at k1;unfold aH at b1 k1 hb1;go_enter func94,ntmps94;go_upto_region 1 with fail
 generalize (w.alloc (.cells #[.slice A n cap] 31)).alloc _=w1 at *;have r1:=hr.fB hb1;have c1:=k1.cell;clear k0 hb0 hr hs;go_wp2_with fail;refine (HC.out _ r1).zr λw2 hb2=>?_
 obtain ⟨k2,b2⟩:=bY hb2 k1 b1;have c2:=k2.cell;have B2:=hb1.zt hb2;clear r1 c1 k1 b1 hb1 hb2 HC;by_cases he:re=0
 ·subst he
  go_wp2_with (refine wpList_store_mid rfl 58 (.tmp 2) (.tmp 16) rfl (s+1) 0 (aH (.slice A n cap) (λ_=>0) (λ_=>0)).toArray rfl rfl (dL b2 0 15 zs) dP (Go.all_oneCell_toArray (j3 rfl _ _)) ?_)
  have k4:=af.puts (g:=s+1) (t:=58) (w:=w2) (cs:=#[]) (aH (.slice A n cap) (λ_=>0) (λ_=>0)) 0 w2 _ b2;rw [eH (by rfl)] at k4;have fQ:=ag.puts (T:=λk=>k=s+1) rfl (aH (.slice A n cap) (λ_=>0) (λ_=>0)) 0 w2 w2 (ag.refl _ _);generalize (w2).setCells (s+1) 0 (aH (.slice A n cap) (λ_=>0) (λ_=>0))=w4 at *;have hl4:=run_loadVar_mid (P:=prog) w4 (s+1) 0 58 (aH (.slice A n cap) (λ_=>0) (λ_=>0)) _ (λj v hj=>by rw [Nat.zero_add,k4.cell];simpa using hj) underlying58 rfl dP;have hB4:Below w.heap.size w2 w4:=fQ.below (by have:=B2.size;omega) (λk hk e=>by have:=hs'.out;omega);refine bodyPost_ret (v:=.tuple #[ic (.slice A n cap) (λ_=>0) (λ_=>0),zI 0]) ?_ rfl ?_
  ·exact gQ results94 rfl hl4
  exact ⟨rfl,B2.trans hB4⟩
 ·have he':=gJ he
  go_wp2_with (refine wpList_store_mid rfl 58 (.tmp 2) (.tmp 13) rfl (s+1) 0 (aH zN (λ_=>0) (λ_=>0)).toArray rfl rfl (dL b2 0 15 zs) dP (Go.all_oneCell_toArray (j3 rfl _ _)) ?_)
  have k4:=af.puts (g:=s+1) (t:=58) (w:=w2) (cs:=#[]) (aH zN (λ_=>0) (λ_=>0)) 0 w2 _ b2;rw [eH (by rfl)] at k4;have fQ:=ag.puts (T:=λk=>k=s+1) rfl (aH zN (λ_=>0) (λ_=>0)) 0 w2 w2 (ag.refl _ _);generalize (w2).setCells (s+1) 0 (aH zN (λ_=>0) (λ_=>0))=w4 at *;have hl4:=run_loadVar_mid (P:=prog) w4 (s+1) 0 58 (aH zN (λ_=>0) (λ_=>0)) _ (λj v hj=>by rw [Nat.zero_add,k4.cell];simpa using hj) underlying58 rfl dP;have hB4:Below w.heap.size w2 w4:=fQ.below (by have:=B2.size;omega) (λk hk e=>by have:=hs'.out;omega);refine bodyPost_ret (v:=.tuple #[ic zN (λ_=>0) (λ_=>0),zI re]) ?_ rfl ?_
  ·exact gQ results94 rfl hl4
  exact ⟨rfl,B2.trans hB4⟩
def Pw (v:Value) (S:Rf) (k:Nat) (w:World) (e:Ending) (w':World):Prop :=
 (S.calls k=1000000/\e= .returned (.tuple #[ic zN (λ_=>0) (λ_=>0),.bool false,zI 3])/\Below w.heap.size w w') \/
 (S.calls k≠1000000/\e= .returned (.tuple #[ic v (fD S k).calls (fD S k).hits,.bool (rE S k),zI 0])/\Below w.heap.size w w')
theorem Sc (A:Option Addr) (n cap:Nat) (S:Rf) (k:Nat) (w:World) (hS:uf S) (hk:k<7) (hn:S.rules.length=n) (hr:Rd w w.heap.size A (fl iU S.rules)) :
  Calls prog 168 #[ic (.slice A n cap) S.calls S.hits,zI k] w (Pw (.slice A n cap) S k w):=by
 obtain ⟨h1,h2,h3⟩:=hS;obtain ⟨hlen,hok⟩:=lZ.1 h1;have RB:n<=50:=zo;have hck:=h2 k hk;have HC:=ae (λW h=>Fb A n cap S W ⟨h1,h2,h3⟩ hn h);have HI:=ae (λW=>AV (k:Int) 0 6 W);rw [AU.2 zo] at HI;obtain ⟨Q,hQ⟩:=ah (Pw (.slice A n cap) S k w);rw [hQ];have Mj:=ae (λ(h:S.calls k=1000000) w' (hb:Below w.heap.size w w')=>show Q (.returned (.tuple #[ic zN (λ_=>0) (λ_=>0),.bool false,zI 3])) w' by rw [<-hQ];exact .inl ⟨h,rfl,hb⟩);have Jp:=ae (λ(h:S.calls k≠1000000) w' (hb:Below w.heap.size w w')=>show Q (.returned (.tuple #[ic (.slice A n cap) (fD S k).calls (fD S k).hits,.bool (rE S k),zI 0])) w' by rw [<-hQ];exact .inr ⟨h,rfl,hb⟩);unfold fD rE at Jp;have HR:=ae (λ(hc:S.calls k≠1000000) W h=>BO A n cap S.rules (k:Int) (S.calls k+1) W hn zo hok ⟨zo,zo⟩ h);have hcell:=ae (nT (.slice A n cap) S.calls S.hits hk);have hset:=ae (λv (x:Int)=>NG v S.calls S.hits hk x);have Jq:=ae (λv cs (x:Int)=>NH v cs S.hits hk x);have hhk:0<=S.hits k/\S.hits k<=1000000:=by
  have:=uY S.rules k (S.calls k).toNat;rw [<-h3 k hk] at this;omega
 obtain ⟨l,cs,hs⟩:=S;simp only at hcell hset Jq Mj Jp HR HC hr hn hck hhk;clear hQ h1 h2 h3 hlen hok hn;have hb0:=(aQ w (.cells (aH (.slice A n cap) cs hs).toArray 58)).alloc zs (.cells (aH zN (λ_=>0) (λ_=>0)).toArray 58);have k0:=(af.new w 58 (aH (.slice A n cap) cs hs).toArray).alloc (.cells (aH zN (λ_=>0) (λ_=>0)).toArray 58);have b0:=af.new (w.alloc (.cells (aH (.slice A n cap) cs hs).toArray 58)) 58 (aH zN (λ_=>0) (λ_=>0)).toArray;obtain ⟨s,hsz⟩:=ah (w.heap.size);rw [World.size_alloc,hsz] at b0;rw [hsz] at k0;have hwb:∀g o,A=some ⟨g,o,none⟩->l≠[]->g<s:=λg o e hne=>by
  cases l with
  | nil=>exact absurd rfl hne
  | cons x r =>
   obtain ⟨b,o',e',hb,_⟩:=hr 0 (by rw [mg jY];simp);rw [e] at e';cases e';omega
 unfold ic aH at HC ⊢;simp only at HC ⊢;unfold aH at hb0 k0 b0;have r0:=hr.fB hb0;go_enter func168,ntmps168;go_upto_region 1 with fail
 generalize (w.alloc _).alloc _=w0 at *;rw [hsz] at hb0;try simp only [hsz]
 have hsz':=ae hsz;clear hsz hr;have c0:=k0.cell;go_wp2_with fail;refine (HC.out _ r0).zr λw1 hb1=>?_
 have k1:af w1 s 58 (aH (.slice A n cap) cs hs).toArray:=k0.call hb1;have b1:=b0.call hb1;have r1:=r0.fB hb1;have B1:=hb0.trans (hb1.mono (by have:=hb0.size;have:=hsz'.out;omega));clear c0 k0 b0 r0 hb0 hb1 HC;have hin:(k:Int)<7:=zo;have ck:=(k1.cell (1+k)).trans hcell.out;go_wp2_with fail;refine (HI.out _).mono ?_;rintro e9 w9 ⟨rfl,rfl⟩;by_cases hc:cs k=1000000
 ·have Ho:=ae (Mj.out hc)
  rw [hc] at ck;clear Jp HR hc;go_upto_region 7 with fail
  go_wp2_with (refine wpList_store_mid rfl 58 (.tmp 4) (.tmp 29) rfl (s+1) 0 (aH zN (λ_=>0) (λ_=>0)).toArray rfl rfl (dL b1 0 15 zs) dP (Go.all_oneCell_toArray (j3 rfl _ _)) ?_)
  have k4:=af.puts (g:=s+1) (t:=58) (w:=w1) (cs:=#[]) (aH zN (λ_=>0) (λ_=>0)) 0 w1 _ b1;rw [eH (by rfl)] at k4;have fQ:=ag.puts (T:=λk=>k=s+1) rfl (aH zN (λ_=>0) (λ_=>0)) 0 w1 w1 (ag.refl _ _);generalize (w1).setCells (s+1) 0 (aH zN (λ_=>0) (λ_=>0))=w4 at *;have hl4:=run_loadVar_mid (P:=prog) w4 (s+1) 0 58 (aH zN (λ_=>0) (λ_=>0)) _ (λj v hj=>by rw [Nat.zero_add,k4.cell];simpa using hj) underlying58 rfl dP;have hB4:Below w.heap.size w1 w4:=fQ.below (by have:=B1.size;have:=hsz'.out;omega) (λk hk e=>by have:=hsz'.out;omega);refine bodyPost_ret (v:=.tuple #[ic zN (λ_=>0) (λ_=>0),.bool false,zI 3]) ?_ rfl ?_
  ·exact gp results168 rfl hl4
  rw [<-hsz'.out] at B1;exact Ho.out _ (B1.trans hB4)
 ·have d3:=lV hc
  have Ho:=ae (Jp.out hc);have HR':=ae (HR.out hc);have hw1:IntKind.i64.wrap (cs k+1)=cs k+1:=by rw [IntKind.wrap_i64];omega
  have hw2:IntKind.i64.wrap (hs k+1)=hs k+1:=by rw [IntKind.wrap_i64];omega
  have hup:∀(f:Nat->Int) x,qM f k x k=x:=λf x=>by simp [qM]
  have acP:=ae hup;have f1:=k1.frozen;clear Jp Mj HR hup hc;go_upto_region 9 with fail
  have k4:=k1.aM (1+k) (zI (cs k+1));rw [hset.out] at k4;have fQ:ag (λk=>k=s) w1 (w1.setCell ⟨s,1+k,none⟩ (zI (cs k+1))):=ag.setCell (T:=λk=>k=s) (p:=⟨s,1+k,none⟩) (ag.refl _ _) (λ_=>rfl) _;generalize w1.setCell ⟨s,1+k,none⟩ (zI (cs k+1))=w4 at *;have c4:=(k4.cell (1+k)).trans (nT (.slice A n cap) (qM cs k (cs k+1)) hs hk);rw [acP.out] at c4;have c40:w4.cell? ⟨s,0,none⟩=some (.slice A n cap):=(k4.cell 0).trans rfl;have r4:Rd w4 w4.heap.size A (fl iU l):=(r1.keepR fQ (λb o e hne=>by have:=hwb b o e hne;show ¬b=s;omega)).more fQ.size;have z0:=λz:Ext w4=>z.cell c40
  have z1:=λz:Ext w4=>z.cell c4
  have G:=ae (λz:Ext w4=>Ext.call (x:=z) (HR'.out z.w (r4.fB z.le)));have b4:=fQ.blk b1 (by show ¬s+1=s;omega);generalize oP l (k:Int) (cs k+1)=bb at *;clear c4 c40 HR' k1 b1 r1 r4 f1 ck;refine aD zk zk ?_
  repeat (go_big_quiet_step ((go_at_call 200;exact G.out _)))
  refine wpQuiet_nil ?_;rintro w5 ⟨⟨_,nL⟩,rfl⟩;obtain ⟨k5,b5⟩:=bY nL k4 b4;have VP:ag (λk=>k=s) w1 w5:=fQ.trans (.of_below nL);clear z0 z1 G k4 b4 nL fQ;cases bb with
  | true =>
   simp only [if_true] at Ho;have c5:=(k5.cell (8+k)).trans (wN (.slice A n cap) (qM cs k (cs k+1)) hs hk);have f5:=k5.frozen;go_upto_region 12 with fail
   have k6:=k5.aM (8+k) (zI (hs k+1));rw [Jq.out] at k6;have b6:=b5.far (p:=⟨s,8+k,none⟩) (by show s+1≠s;omega) (zI (hs k+1));have Jr:ag (λk=>k=s) w1 (w5.setCell ⟨s,8+k,none⟩ (zI (hs k+1))):=VP.setCell (p:=⟨s,8+k,none⟩) (λ_=>rfl) _;generalize w5.setCell ⟨s,8+k,none⟩ (zI (hs k+1))=w6 at *;clear c5 f5 k5 b5 VP;generalize qM hs k (hs k+1)=hs2 at *;generalize qM cs k (cs k+1)=cs2 at *;have pQ:World.rangeAt w6 s 0 (aH (.slice A n cap) cs2 hs2):=λj v hj=>by rw [Nat.zero_add,(k6).cell];simpa using hj
   go_wp2_with (first
    | (refine wpList_load_mid rfl 58 (.tmp 2) rfl s 0 rfl (aH (.slice A n cap) cs2 hs2) _ pQ underlying58 rfl dP ?_)
    | (refine wpList_store_mid rfl 58 (.tmp 4) (.tmp 54) rfl (s+1) 0 (aH (.slice A n cap) cs2 hs2).toArray rfl rfl (dL b6 0 15 zs) dP (Go.all_oneCell_toArray (j3 rfl _ _)) ?_))
   have k7:=af.puts (g:=s+1) (t:=58) (w:=w6) (cs:=#[]) (aH (.slice A n cap) cs2 hs2) 0 w6 _ b6;rw [eH (by rfl)] at k7;have vR:=ag.puts (T:=λk=>k=s\/k=s+1) (.inr rfl) (aH (.slice A n cap) cs2 hs2) 0 w1 w6 ((Jr).mono (λ_ _ h=>.inl h));generalize (w6).setCells (s+1) 0 (aH (.slice A n cap) cs2 hs2)=w7 at *;have O6:=run_loadVar_mid (P:=prog) w7 (s+1) 0 58 (aH (.slice A n cap) cs2 hs2) _ (λj v hj=>by rw [Nat.zero_add,k7.cell];simpa using hj) underlying58 rfl dP;have EU:Below w.heap.size w1 w7:=vR.below (by have:=B1.size;have:=hsz'.out;omega) (λk hk e=>by have:=hsz'.out;omega);rw [<-hsz'.out] at B1;refine bodyPost_ret (v:=.tuple #[ic (.slice A n cap) cs2 hs2,.bool true,zI 0]) ?_ rfl ?_
   ·exact gp results168 rfl O6
   exact Ho.out _ (B1.trans EU)
  | false =>
   simp only [Bool.false_eq_true,if_false] at Ho;generalize qM cs k (cs k+1)=cs2 at *;have pQ:World.rangeAt w5 s 0 (aH (.slice A n cap) cs2 hs):=λj v hj=>by rw [Nat.zero_add,(k5).cell];simpa using hj
   go_wp2_with (first
    | (refine wpList_load_mid rfl 58 (.tmp 2) rfl s 0 rfl (aH (.slice A n cap) cs2 hs) _ pQ underlying58 rfl dP ?_)
    | (refine wpList_store_mid rfl 58 (.tmp 4) (.tmp 54) rfl (s+1) 0 (aH (.slice A n cap) cs2 hs).toArray rfl rfl (dL b5 0 15 zs) dP (Go.all_oneCell_toArray (j3 rfl _ _)) ?_))
   have k7:=af.puts (g:=s+1) (t:=58) (w:=w5) (cs:=#[]) (aH (.slice A n cap) cs2 hs) 0 w5 _ b5;rw [eH (by rfl)] at k7;have vR:=ag.puts (T:=λk=>k=s\/k=s+1) (.inr rfl) (aH (.slice A n cap) cs2 hs) 0 w1 w5 ((VP).mono (λ_ _ h=>.inl h));generalize (w5).setCells (s+1) 0 (aH (.slice A n cap) cs2 hs)=w7 at *;have O6:=run_loadVar_mid (P:=prog) w7 (s+1) 0 58 (aH (.slice A n cap) cs2 hs) _ (λj v hj=>by rw [Nat.zero_add,k7.cell];simpa using hj) underlying58 rfl dP;have EU:Below w.heap.size w1 w7:=vR.below (by have:=B1.size;have:=hsz'.out;omega) (λk hk e=>by have:=hsz'.out;omega);rw [<-hsz'.out] at B1;refine bodyPost_ret (v:=.tuple #[ic (.slice A n cap) cs2 hs,.bool false,zI 0]) ?_ rfl ?_
   ·exact gp results168 rfl O6
   exact Ho.out _ (B1.trans EU)
theorem Mo {P:Program} {ops:Array Oper} {rest:List Oper} {op:Oper} {a:Act} {w:World} {Q:Exit->Act->World->Prop} {v:Value} (d:Nat) (hgd:op.guard=none) (hd:op.dst=some d)
  (hr:(execOp a.eval op).run P w= .ok (.value v) w) (h:wpList P ops Q rest (a.put (some d) v) w):wpList P ops Q (op::rest) a w :=
 wpList_plain hgd λK hK=>by
  unfold Oper.wp;rw [hr];show K (a.put op.dst v) w;rw [hd];exact hK _ _ h
theorem adI {P:Prop} (h:P:=by
 rw [hE];clear hE h1;go_enter func121,ntmps121;go_wp2_with fail;go_ret;exact ⟨rfl,rfl⟩):P:=h
theorem Fe (p:Int) (w:World):Calls prog 121 #[zI p] w λe w'=>e= .returned (.bool (zT p))/\w=w':=by
 by_cases h1:0<=p
 ·have d1:=bU h1
  have hE:zT p=decide (p<1024):=by simp [zT,h1]
  exact adI
 ·have d1:=bV h1
  have hE:zT p=false:=by simp [zT,h1]
  exact adI
theorem JL (B b a n:Nat) (kd:Int) (V:Vm) (w:World) (hV:bn w B b V) (hn:a+n<=1024) :
  Calls prog 122 #[zP b,zI a,zI n,zI kd] w λe w'=>e= .returned (.bool (qR V a n (λg=>g.kind==kd)))/\w=w':=by
 obtain ⟨R,hR⟩:=ah (qR V a n (λg=>g.kind==kd));rw [hR];have hR':=ae hR;obtain ⟨cs,A,m,cap,hk,hc,_⟩:=hV.ex;have hkd:=ae (λp h=>(hk.cell p).trans (hc.kind p h));clear hR hk hc hV;have hwn:wrap64 ((a:Int)+(n:Int))=((a+n:Nat):Int):=by unfold wrap64;omega
 go_enter func122,ntmps122;go_wp2_with fail
 go_loopw [9] (λu wr=>∃i:Nat,i<=n/\u = zI ((a+i:Nat):Int)/\Hid (∀q,a<=q->q<a+i->((V.pg q).kind==kd)=true)/\wr=w) (λu _=>a+n - (intOf u).toNat)
 case atStart=>exact ⟨0,zo,rfl,ae (λ_ _ _=>by omega),rfl⟩
 case round =>
  obtain ⟨i,hi,rfl,hA,hw⟩:=hrel;have hw':=hw.symm;clear hw;subst hw';by_cases hlt:i<n
  ·obtain ⟨p,hp⟩:=ah (a+i)
   have hlt':decide ((p:Int)<(a:Int)+(n:Int))=true:=by rw [decide_eq_true_eq];omega
   have hpl:(p:Int)<1024:=zo;have hcell:=hkd.out p zo;have hws:wrap64 ((p:Int)+1)=((p+1:Nat):Int):=by unfold wrap64;omega
   rw [hp];have hp':=ae hp;clear hp;by_cases hv:(V.pg p).kind=kd
   ·have hv':=Ha hv
    have hA2:Hid (∀q,a<=q->q<a+(i+1)->((V.pg q).kind==kd)=true):=ae (λq h1 h2=>by
     by_cases e:q=p
     ·subst e;simpa using hv
     ·exact hA.out q h1 (by have:=hp'.out;omega))
    clear hA hv;go_wp2_with fail;go_roundw
    case rel=>exact ⟨i+1,zo,by rw [show ((p:Int)+1)=((a+(i+1):Nat):Int) by have:=hp'.out;omega],hA2,trivial⟩
    case measure=>have:=hp'.out;simp [intOf];omega
   ·have hv':=gJ hv
    have hRf:Hid (false=R):=ae (by
     rw [<-hR'.out];symm;rw [Bool.eq_false_iff];intro h;have:=iQ.1 h p (by have:=hp'.out;omega) (by have:=hp'.out;omega);exact hv (by simpa using this))
    clear hA hv;go_wp2_with fail;go_ret;exact ⟨fu hRf.out,rfl⟩
  ·obtain rfl:i=n:=zo
   have hlt':decide (((a+i:Nat):Int)<(a:Int)+(i:Int))=false:=by simp
   have hRt:Hid (true=R):=ae (by rw [<-hR'.out];exact (iQ.2 hA.out).symm);clear hA;go_wp2_with fail;go_ret;exact ⟨fu hRt.out,rfl⟩
theorem adK (B b a n:Nat) (kd:Int) (V:Vm) (w:World) (hV:bn w B b V) (hn:a+n<=1024) (hh:∀q,a<=q->q<a+n->(V.pg q).bP=false) :
  Calls prog 190 #[zP b,zI a,zI n,zI kd] w λe w'=>e= .returned (.tuple #[])/\bn w' B b (V.dD a n (λ_=>gW kd))/\ag (λk=>k=b) w w':=by
 have hV':=ae hV;have hh':=ae hh;have hwn:wrap64 ((a:Int)+(n:Int))=((a+n:Nat):Int):=by unfold wrap64;omega
 clear hV hh;go_enter func190,ntmps190;go_wp2_with fail
 go_loopw [8] (λu wr=>∃i:Nat,i<=n/\u = zI ((a+i:Nat):Int)/\Hid (bn wr B b (V.dD a i (λ_=>gW kd)))/\ag (λk=>k=b) w wr) (λu _=>a+n - (intOf u).toNat)
 case atStart=>exact ⟨0,zo,rfl,ae (by rw [Vm.zA];exact hV'.out),ag.refl _ _⟩
 case round =>
  obtain ⟨i,hi,rfl,hR,hF⟩:=hrel;by_cases hlt:i<n
  ·obtain ⟨p,hp⟩:=ah (a+i)
   have hlt':decide ((p:Int)<(a:Int)+(n:Int))=true:=by rw [decide_eq_true_eq];omega
   have hpl:(p:Int)<1024:=zo;have hws:wrap64 ((p:Int)+1)=((p+1:Nat):Int):=by unfold wrap64;omega
   have hput:=ae (hR.out.put (p:=p) zo (by
    show (if a<=p/\p<a+i then gW kd else V.pg p).bP=false;rw [if_neg zo];exact hh'.out p zo zo) kd)
   have hes:Hid (V.dD a (i+1) (λ_=>gW kd)=(V.dD a i (λ_=>gW kd)).gq p (gW kd)):=ae (by rw [Vm.zC,hp]);rw [hp];have hp':=ae hp;clear hp;obtain ⟨cs,A,m,cap,hk,hc,_⟩:=hR.out.ex;have hcell:=(hk.cell p).trans (hc.kind p zo);have hfr:=hk.frozen;have hcs:=hc.size;have k2:=hk.aM p (zI kd);obtain ⟨Z,hZ⟩:=ah ((List.replicate 64 (Value.int .u8 0)).toArray);have hZl:List.replicate 64 (Value.int .u8 0)=Z.toList:=by rw [<-hZ]
   have hZs:Z.size=64:=by rw [<-hZ];simp
   rw [hZl] at hput;have ht:(wr.setCell ⟨b,p,none⟩ (zI kd)).there b (1088+p*64) Z.size:=dL k2 (1088+p*64) Z.size (by rw [Array.size_setIfInBounds];omega);have lU:(prog.info? 100).map (·.size)=some Z.size:=by rw [hZs];exact ug
   have hone:Z.all (·.oneCell')=true:=by rw [<-hZ];exact Go.all_oneCell_toArray (λx hx=>by rw [List.eq_of_mem_replicate hx];rfl)
   have hZ':=ae hZ;clear hR hk hc k2 hZl hZs hZ;go_upto_region 4 with fail
   generalize wr.setCell ⟨b,p,none⟩ _=w2 at *
   go_wp2_with (first
    | (refine Mo (v:=.agg Z) 25 rfl rfl ?hbb ?_)
    | (refine wpList_store_mid rfl 100 (.tmp 28) (.tmp 25) rfl b (1088+p*64) Z rfl rfl ht lU hone ?_))
   case hbb =>
    rw [<-hZ'.out];rfl
   generalize w2.setCells b (1088+p*64) _=w3 at *;go_roundw
   case rel=>exact ⟨i+1,zo,by rw [show ((p:Int)+1)=((a+(i+1):Nat):Int) by have:=hp'.out;omega],ae (by rw [hes.out];exact hput.out.1),hF.trans hput.out.2⟩
   case measure=>have:=hp'.out;simp [intOf];omega
  ·obtain rfl:i=n:=zo
   have hlt':decide (((a+i:Nat):Int)<(a:Int)+(i:Int))=false:=by simp
   go_wp2_with fail
   go_end0
   exact ⟨rfl,hR.out,hF⟩
theorem rQ (B b k:Nat) (V:Vm) (w:World) (hV:bn w B b V) (hk:k<7) :
  Calls prog 123 #[zP b,zI k] w λe w'=>e= .returned (.bool (rZ V.rf k))/\eF B b (V.ref k) w w':=by
 have hV':=ae hV;obtain ⟨cs,A,n,cap,hk0,hc,hn,hr,hB,hok⟩:=hV.ex;have hbl:=hk0.lt;have HN:=ae (Sc A n cap V.rf k w hok hk hn.1 (hr.more zo));have pQ:w.rangeAt b 66624 (aH (.slice A n cap) V.rf.calls V.rf.hits):=λj v hj=>by
  exact acX
 have hok':=ae hok;have hr':=ae hr;have hn':=ae hn;have hrl:=ae (show rZ V.rf k=if V.rf.calls k=1000000 then false else rE V.rf k from rfl);have hrs:=ae (show V.ref k={ V with rf:=if V.rf.calls k=1000000 then V.rf else fD V.rf k } from rfl);unfold Pw at HN;generalize rZ V.rf k=R at *;generalize V.ref k=V2 at *;clear hc hr hn hok hV;go_enter func123,ntmps123
 go_wp2_with (first
  | (refine wpList_load_mid rfl 58 (.tmp 11) rfl b 66624 rfl (aH (.slice A n cap) V.rf.calls V.rf.hits) _ pQ underlying58 rfl dP ?_))
 clear pQ;refine HN.out.mono ?_;rintro e w1 hN;rcases hN with ⟨hc,rfl,hb1⟩|⟨hc,rfl,hb1⟩
 ·exact aiO
 ·rw [if_neg hc] at hrl hrs
  have hS2:uf (fD V.rf k):=NF hok'.out hk hc;have hbz:=aQ w1 (.cells (aH (.slice A n cap) (fD V.rf k).calls (fD V.rf k).hits).toArray 58);have hb2:=hb1.zt hbz;have hput:=hV'.out.CR (fD V.rf k) A n cap hb2 hn'.out.1 hn'.out.2 (hr'.out.vV (T:=λ_=>False) (ag.of_below hb2) (λ_ h=>h.elim)) hS2;have k9:=hk0.call hb2;have acY:cs.size=66639:=by
   obtain ⟨cs9,_,_,_,k8,h8,_⟩:=hV'.out.ex;have e:cs9=cs:=by unfold af at k8 hk0;rw [k8] at hk0;injection hk0 with h;injection h with h
   rw [<-e];exact h8.size
  have hE:=ae (And.intro hrl.out hrs.out);have kz:=af.new w1 58 (aH (.slice A n cap) (fD V.rf k).calls (fD V.rf k).hits).toArray;clear hrl hrs hc HN hk0 hok' hS2 hb2 hb1 hr' hn';generalize (fD V.rf k).calls=cs2 at *;generalize (fD V.rf k).hits=hs2 at *;have mO:=ae hput;clear hput;rw [<-hE.out.1];rw [<-hE.out.2] at mO;clear hE hV';unfold aH at hbz k9 mO kz;unfold ic aH;obtain ⟨s,hs⟩:=ah (w1.heap.size);rw [hs] at kz;go_upto_region 2 with fail
  generalize w1.alloc _=w2 at *;clear hs hbz;have cz:=kz.cell;have ht:w2.there b 66624 (aH (.slice A n cap) cs2 hs2).toArray.size:=dL k9 66624 15 zo;have hone:=Go.all_oneCell_toArray (j3 (v:=.slice A n cap) rfl cs2 hs2);clear acY k9 kz;have zw:Hid (bn (w2.setCells b 66624 (aH (.slice A n cap) cs2 hs2)) B b V2/\ag (λk=>k=b) w (w2.setCells b 66624 (aH (.slice A n cap) cs2 hs2))):=mO;clear mO
  go_wp2_with (refine wpList_store_mid rfl 58 (.tmp 23) (.tmp 21) rfl b 66624 (aH (.slice A n cap) cs2 hs2).toArray ?hxx ?hyy ht dP hone ?_)
  case hxx=>rfl
  case hyy=>rfl
  generalize w2.setCells b 66624 _=w4 at *;go_ret;exact ⟨rfl,zw.out.1,zw.out.2⟩
theorem ai3 {P:Prop} (h:P:=by
 rw [if_pos zo] at hR;subst hR;clear hV;go_enter func159,ntmps159;go_wp2_with fail;refine (HP.out _).mono ?_;rintro e9 w9 ⟨rfl,rfl⟩;go_wp2_with fail;go_ret;exact ⟨rfl,hV'.out,ag.refl _ _⟩):P:=h
theorem WG {P:Prop} (h:P:=by
 rintro e9 w9 ⟨rfl,rfl⟩;go_wp2_with fail;go_ret;exact ⟨rfl,hV'.out,ag.refl _ _⟩):P:=h
theorem oD (B b:Nat) (a n fr tk:Int) (call:Nat) (V:Vm) (w:World) (hV:bn w B b V) (hk:call<7) :
  Calls prog 159 #[zP b,zI a,zI n,zI fr,zI tk,zI call] w λe w'=>e= .returned (zI (bK V a n call fr tk).1)/\eF B b (bK V a n call fr tk).2 w w':=by
 have hV':=ae hV;obtain ⟨R,hR⟩:=ah (bK V a n call fr tk);rw [hR];unfold bK gX at hR;have HP:=ae (λW=>Fe a W);by_cases c1:n<1
 ·have d1:=bU c1
  rw [if_pos (.inl c1)] at hR;subst hR;clear HP hV;go_enter func159,ntmps159;go_wp2_with fail;go_ret;exact ⟨rfl,hV'.out,ag.refl _ _⟩
 have d1:=bV c1;by_cases c2:0<=a/\a<1024
 ·rw [vF.2 c2] at HP
  have w1:IntKind.i64.wrap (1024 - a)=1024 - a:=by rw [IntKind.wrap_i64];omega
  by_cases c3:1024 - a<n
  ·have d3:=bU c3
   exact ai3
  ·have d3:=bV c3
   rw [if_neg zo] at hR;obtain ⟨aa,rfl⟩:∃aa:Nat,a=(aa:Int):=⟨a.toNat,zo⟩;obtain ⟨nn,rfl⟩:∃nn:Nat,n=(nn:Int):=⟨n.toNat,zo⟩;simp only [Int.toNat_natCast] at hR;have hsum:aa+nn<=1024:=zo;have HK:=ae (JL B b aa nn fr V w hV hsum);have HRf:=ae (rQ B b call V w hV hk);have WH:=ae (λ(hh:∀q,aa<=q->q<aa+nn->(V.pg q).bP=false) W (h:bn W B b (V.ref call))=>adK B b aa nn tk (V.ref call) W h hsum hh);obtain ⟨cs,A,m,cap,hkb,hc,_⟩:=hV.ex;have hhg:=ae (λp (h:p<1024)=>(hkb.cell (1024+p / 16)).trans (hc.bP p h));clear hkb hc hV;cases hkd:qR V aa nn (λg=>g.kind==fr) with
   | false =>
    rw [hkd] at HK;have hf:qR V aa nn (λg=>g.kind==fr&&!g.bP)=false:=by
     rw [Bool.eq_false_iff];intro h;rw [Bool.eq_false_iff] at hkd;exact hkd (iQ.2 λq h1 h2=>by have:=iQ.1 h q h1 h2;rw [Bool.and_eq_true] at this;exact this.1)
    rw [if_pos hf] at hR;subst hR;clear HRf WH hhg hf hkd c3;go_enter func159,ntmps159;go_wp2_with fail;refine (HP.out _).mono ?_;rintro e9 w9 ⟨rfl,rfl⟩;go_wp2_with fail;refine HK.out.mono ?_;exact WG
   | true =>
    rw [hkd] at HK;have ac8:=ae hkd;have hR':=ae hR;clear hkd hR c3;go_enter func159,ntmps159;go_wp2_with fail;refine (HP.out _).mono ?_;rintro e9 w9 ⟨rfl,rfl⟩;go_wp2_with fail;refine HK.out.mono ?_;rintro e9 w9 ⟨rfl,rfl⟩;go_wp2_with fail
    go_loopw [13] (λu wr=>∃i:Nat,i<=nn/\u = zI ((aa+i:Nat):Int)/\Hid (∀q,aa<=q->q<aa+i->(V.pg q).bP=false)/\wr=w) (λu _=>aa+nn - (intOf u).toNat)
    case atStart=>exact ⟨0,zo,rfl,ae (λ_ _ _=>by omega),rfl⟩
    case round =>
     obtain ⟨i,hi,rfl,hA,hw⟩:=hrel;have hw':=hw.symm;clear hw;subst hw';by_cases hlt:i<nn
     ·obtain ⟨p,hp⟩:=ah (aa+i)
      have hlt':decide ((p:Int)<(aa:Int)+(nn:Int))=true:=by rw [decide_eq_true_eq];omega
      have hpl:(p:Int)<1024:=zo;have hdv:Int.tdiv (p:Int) 16=((p / 16:Nat):Int):=by rw [Int.tdiv_eq_ediv_of_nonneg zo];omega
      have hdl:((p / 16:Nat):Int)<64:=zo;have hcell:=hhg.out p zo;rw [hp];have hp':=ae hp;clear hp;cases hv:(V.pg p).bP with
      | false =>
       rw [hv] at hcell;have hA2:Hid (∀q,aa<=q->q<aa+(i+1)->(V.pg q).bP=false):=ae (λq h1 h2=>by
        by_cases e:q=p
        ·subst e;exact hv
        ·exact hA.out q h1 (by have:=hp'.out;omega))
       clear hA hv;go_wp2_with fail;go_roundw
       case rel=>exact ⟨i+1,zo,by rw [show ((p:Int)+1)=((aa+(i+1):Nat):Int) by have:=hp'.out;omega],hA2,trivial⟩
       case measure=>have:=hp'.out;simp [intOf];omega
      | true =>
       rw [hv] at hcell;have hRf:Hid ((9,V)=R):=ae (by
        have hr:=hR'.out;rw [if_pos (by
         rw [Bool.eq_false_iff];intro h;have:=iQ.1 h p (by have:=hp'.out;omega) (by have:=hp'.out;omega);rw [hv] at this;simp at this)] at hr
        exact hr)
       clear hA hv;go_wp2_with fail;go_ret;rw [<-hRf.out];exact ⟨rfl,hV'.out,ag.refl _ _⟩
     ·obtain rfl:i=nn:=zo
      have hlt':decide (((aa+i:Nat):Int)<(aa:Int)+(i:Int))=false:=by simp
      have hR2:Hid ((if rZ V.rf call=true then (60,V.ref call) else (0,(V.ref call).dD aa i (λ_=>gW tk)))=R):=ae (by
       have hr:=hR'.out;rw [if_neg (by
        rw [Bool.not_eq_false];exact iQ.2 λq h1 h2=>by
         rw [hA.out q h1 h2,iQ.1 ac8.out q h1 h2];rfl)] at hr
       exact hr)
      have HS2:=ae (WH.out hA.out);generalize rZ V.rf call=rb at *;generalize V.ref call=V2 at *;clear hA WH hR' ac8;go_wp2_with fail;refine HRf.out.zr ?_;rintro w1 ⟨V1,F1⟩;cases rb with
      | true =>
       have jZ:=hR2.out;rw [if_pos rfl] at jZ;subst jZ;clear HS2 hR2;go_wp2_with fail;go_ret;exact ⟨rfl,V1,F1⟩
      | false =>
       have jZ:=hR2.out;rw [if_neg zd] at jZ;subst jZ;clear hR2;go_wp2_with fail;refine (HS2.out _ V1).zr ?_;rintro w2 ⟨V3,F3⟩;go_wp2_with fail;go_ret;exact ⟨rfl,V3,F1.trans F3⟩
 ·rw [xR.2 c2] at HP
  exact ai3
theorem Px {P:Prop} (h:P:=by
 go_wp2_with fail;refine HC.out.zr ?_;rintro w1 ⟨h1,h2⟩;go_wp2_with fail;go_ret;exact ⟨rfl,h1,h2⟩):P:=h
theorem Mq (B b:Nat) (a n:Int) (V:Vm) (w:World) (hV:bn w B b V) :
  Calls prog 99 #[zP b,zI a,zI n] w λe w'=>e= .returned (zI (bK V a n 0 0 1).1)/\eF B b (bK V a n 0 0 1).2 w w':=by
 have HC:=ae (oD B b a n 0 1 0 V w hV zd);clear hV;generalize bK V a n 0 0 1=R at *;go_enter func99,ntmps99;exact Px
theorem Py (B b:Nat) (a n:Int) (V:Vm) (w:World) (hV:bn w B b V) :
  Calls prog 111 #[zP b,zI a,zI n] w λe w'=>e= .returned (zI (bK V a n 2 1 2).1)/\eF B b (bK V a n 2 1 2).2 w w':=by
 have HC:=ae (oD B b a n 1 2 2 V w hV zd);clear hV;generalize bK V a n 2 1 2=R at *;go_enter func111,ntmps111;exact Px
theorem um (B b:Nat) (a n:Int) (V:Vm) (w:World) (hV:bn w B b V) :
  Calls prog 112 #[zP b,zI a,zI n] w λe w'=>e= .returned (zI (bK V a n 3 2 1).1)/\eF B b (bK V a n 3 2 1).2 w w':=by
 have HC:=ae (oD B b a n 2 1 3 V w hV zd);clear hV;generalize bK V a n 3 2 1=R at *;go_enter func112,ntmps112;exact Px
theorem ai4 {P:Prop} (h:P:=by
 subst hR;simp only [show ¬(7:Int)=0 by omega,if_false];go_enter func117,ntmps117;go_wp2_with fail
 (try simp only [Exit.inBlock,Exit.then]);refine bodyPost_ret (results_tmp3 rfl _ _ _) rfl ?_
 exact ⟨rfl,rfl⟩):P:=h
theorem ai5 {P:Prop} (h:P:=by
 clear hkd;go_enter func117,ntmps117;go_wp2_with fail
 (try simp only [Exit.inBlock,Exit.then]);refine bodyPost_ret (results_tmp3 rfl _ _ _) rfl ?_
 exact ⟨rfl,rfl⟩):P:=h
theorem Sd (B b:Nat) (a:Int) (V:Vm) (w:World) (hV:bn w B b V) :
  Calls prog 117 #[zP b,zI a] w λe w'=>e= .returned (.tuple #[zI (if xP V a=0 then a / 64 else 0),zI (if xP V a=0 then a % 64 else 0),zI (xP V a)])/\w=w':=by
 obtain ⟨R,hR⟩:=ah (xP V a);rw [hR];unfold xP at hR;by_cases c1:a<0
 ·have d1:=bU c1
  rw [if_pos (.inl c1)] at hR;exact ai4
 have d1:=bV c1;by_cases c2:65536<=a
 ·have d2:=bU c2
  rw [if_pos (.inr c2)] at hR;exact ai4
 have d2:=bV c2;rw [if_neg zo] at hR;obtain ⟨q,k,hqa,hq,hk⟩:∃q k:Nat,a=((q*64+k:Nat):Int)/\q<1024/\k<64:=⟨(a / 64).toNat,(a % 64).toNat,zo,zo,zo⟩;have e1:a / 64=(q:Int):=zo;have e2:a % 64=(k:Int):=zo;rw [e1,Int.toNat_natCast] at hR;rw [e1,e2];have hdv:Int.tdiv a 64=(q:Int):=by rw [Int.tdiv_eq_ediv_of_nonneg zo];exact e1
 have hmd:Int.tmod a 64=(k:Int):=by rw [Int.tmod_eq_emod_of_nonneg zo];exact e2
 have hql:(q:Int)<1024:=zo;have hwq:wrap64 (q:Int)=(q:Int):=by unfold wrap64;omega
 obtain ⟨cs,A,n,cap,hkb,hc,_⟩:=hV.ex;have c0:=(hkb.cell q).trans (hc.kind q hq);clear hkb hc hV e1 e2 hqa c1 c2;by_cases hkd:(V.pg q).kind=2
 ·rw [if_neg (by simp [hkd])] at hR
  subst hR;have dk:=Ha hkd;simp only [if_true];exact ai5
 ·rw [if_pos hkd] at hR
  subst hR;have dk:=gJ hkd;simp only [show ¬(61:Int)=0 by omega,if_false];exact ai5
theorem Sg (B b:Nat) (a v:Int) (V:Vm) (w:World) (hV:bn w B b V) :
  Calls prog 40 #[zP b,zI a,.int .u8 v] w λe w'=>e= .returned (zI (xP V a))/\eF B b (kT V a v) w w':=by
 have HW:=ae (Sd B b a V w hV);have hV':=ae hV;unfold eF;obtain ⟨P,hP⟩:=ah (kT V a v);rw [hP];unfold kT at hP;obtain ⟨R,hR⟩:=ah (xP V a);rw [hR] at hP HW ⊢;by_cases c0:R=0
 ·subst c0
  rw [if_pos rfl] at hP;simp only [if_true] at HW;have ha:¬(a<0\/65536<=a):=λhc=>by unfold xP at hR;rw [if_pos hc] at hR;omega
  obtain ⟨q,hq1⟩:∃q:Nat,a / 64=(q:Int):=⟨(a / 64).toNat,zo⟩;obtain ⟨k,hk1⟩:∃k:Nat,a % 64=(k:Int):=⟨(a % 64).toNat,zo⟩;rw [hq1,hk1] at hP HW;simp only [Int.toNat_natCast] at hP;have hq:q<1024:=zo;have hk:k<64:=zo;have hq2:(q:Int)<1024:=zo;have hk2:(k:Int)<64:=zo;have hset:=hV.JA hq hk v;rw [hP] at hset;have hset':=ae hset;obtain ⟨cs,A,n,cap,hkb,hc,_⟩:=hV.ex;have e1:=(hkb.cell (1088+q*64+k)).trans (hc.fe q hq k hk);have f1:=hkb.frozen;clear hkb hc hV hP hset hR ha hq1 hk1;go_enter func40,ntmps40;go_wp2_with fail;refine HW.out.mono ?_;rintro e9 w9 ⟨rfl,rfl⟩;go_wp2_with fail;go_ret;exact ⟨rfl,hset'.out.1,hset'.out.2⟩
 ·rw [if_neg c0] at hP
  simp only [if_neg c0] at HW;subst hP;have d0:=lV c0;clear hR hV;go_enter func40,ntmps40;go_wp2_with fail;refine HW.out.mono ?_;exact WG
theorem Si {q:Nat} (h:jJ (q:Int)=false) (hq:q<1024):(Int.tmod (q:Int) 16 != 0)=true:=by
 unfold jJ at h;rw [bne_iff_ne,Int.tmod_eq_emod_of_nonneg zo];simp at h;omega
theorem NQ {q:Nat} (h:jJ (q:Int)=true):(Int.tmod (q:Int) 16 != 0)=false/\q<1024/\∃g,q=g*16/\g<64:=by
 unfold jJ at h;simp at h;refine ⟨?_,zo,q / 16,zo,zo⟩;rw [Bool.eq_false_iff];intro hc;rw [bne_iff_ne,Int.tmod_eq_emod_of_nonneg zo] at hc;omega
theorem ai6 {P:Prop} (h:P:=by
 rw [<-adL.out] at hput;obtain rfl:=WI;have mO:=ae hput;obtain ⟨cs1,A1,n1,lG,adM,hc1,_⟩:=V1.ex;have adN:=hc1.bP q hq;rw [show q / 16=g by have:=adL.out;omega] at adN;have c2:=(adM.cell (1024+g)).trans adN;have f2:=adM.frozen;clear adM hc1 adN hput c1;go_wp2_with fail;go_ret;exact ⟨rfl,mO.out.1,F1.trans mO.out.2⟩):P:=h
theorem ai7 {P:Prop} (h:P:=by
 go_enter func42,ntmps42;go_wp2_with fail;refine (HP.out _).mono ?_;rintro e9 w9 ⟨rfl,rfl⟩;go_wp2_with fail;refine HK.out.mono ?_;rintro e9 w9 ⟨rfl,rfl⟩;go_wp2_with fail;go_ret;exact ⟨rfl,hV'.out,ag.refl _ _⟩):P:=h
theorem ai8 {P:Prop} (h:P:=by
 clear hf hV;go_enter func42,ntmps42;go_wp2_with fail;refine (HP.out _).mono ?_;rintro e9 w9 ⟨rfl,rfl⟩;go_wp2_with fail;go_ret;exact ⟨rfl,hV'.out,ag.refl _ _⟩):P:=h
theorem adO {P:Prop} (h:P:=by
 have WI:=hR5.out;rw [if_pos rfl] at WI;subst WI;go_wp2_with fail;go_ret;exact ⟨rfl,V1,F1⟩):P:=h
theorem WJ (B b:Nat) (p:Int) (V:Vm) (w:World) (hV:bn w B b V) (hG:iq V) :
  Calls prog 42 #[zP b,zI p] w λe w'=>e= .returned (zI (Go.Pol.dY V p).1)/\eF B b (Go.Pol.dY V p).2 w w':=by
 have hV':=ae hV;have HP:=ae (λW=>Fe p W);obtain ⟨R,hR⟩:=ah (Go.Pol.dY V p);rw [hR];unfold Go.Pol.dY at hR;by_cases c2:0<=p/\p<1024
 ·rw [vF.2 c2] at HP
  obtain ⟨q,rfl⟩:∃q:Nat,p=(q:Int):=⟨p.toNat,zo⟩;simp only [Int.toNat_natCast] at hR;have hq:q<1024:=zo;cases hf:jJ (q:Int) with
  | false =>
   rw [if_pos hf] at hR;subst hR;have d2:=Si hf hq;obtain ⟨rm,hrm⟩:=ah (Int.tmod (q:Int) 16);rw [hrm] at d2;exact ai8
  | true =>
   rw [if_neg (by simp [hf])] at hR;obtain ⟨d2,_,g,hqg,hg⟩:=NQ hf;obtain ⟨rm,hrm⟩:=ah (Int.tmod (q:Int) 16);rw [hrm] at d2;have hdv:Int.tdiv (q:Int) 16=(g:Int):=by rw [Int.tdiv_eq_ediv_of_nonneg zo];omega
   have hwg:wrap64 (g:Int)=(g:Int):=by unfold wrap64;omega
   have hgl:(g:Int)<64:=zo;have HK:=ae (JL B b q 16 2 V w hV zo);have HRf:=ae (rQ B b 5 V w hV zd);obtain ⟨cs,A,n,cap,hkb,hc,_⟩:=hV.ex;have hch:=hc.bP q hq;rw [show q / 16=g by omega] at hch;have c1:=(hkb.cell (1024+g)).trans hch;have hR':=ae hR;have hmk:gX V (q:Int) 16 5 (λg=>g.kind==2) (λg=>g.dQ true)=if qR V q 16 (λg=>g.kind==2)=false then (9,V) else if rZ V.rf 5=true then (60,V.ref 5) else (0,(V.ref 5).dD q 16 (λg=>g.dQ true)):=by
    unfold gX;rw [if_neg zo];simp only [Int.toNat_natCast];rfl
   cases hh:(V.pg q).bP with
   | true =>
    -- a bP page's group is ami as a whole
    have hall:qR V q 16 (λg=>g.kind==2)=true:=iQ.2 λr h1 h2=>by
     have hr:=hc.bP r zo;rw [show r / 16=g by omega,hch,hh] at hr;have:(V.pg r).bP=true:=by injection hr with hr;injection hr with hr;exact hr.symm
     simpa using hG.Bo r zo this
    rw [hall] at HK;rw [hh] at c1;have hR2:=hR'.out;rw [if_pos hh] at hR2;subst hR2;clear hf hV hkb hc hch hmk hall hR hqg;exact ai7
   | false =>
    rw [hh] at c1;have hR2:=hR'.out;rw [if_neg (by simp [hh]),hmk] at hR2;have jZ:=ae hR2;clear hf hV hkb hc hch hmk hR hR2 hR' hh;have adL:=ae hqg;clear hqg;generalize qR V q 16 (λg=>g.kind==2)=al at *;cases al with
    | false =>
     have CX:=jZ.out;rw [if_pos rfl] at CX;subst CX;exact ai7
    | true =>
     have CX:=jZ.out;rw [if_neg zd] at CX;have hR5:=ae CX;clear jZ CX;generalize rZ V.rf 5=rb at *;generalize V.ref 5=V2 at *;go_enter func42,ntmps42;go_wp2_with fail;refine (HP.out _).mono ?_;rintro e9 w9 ⟨rfl,rfl⟩;go_wp2_with fail;refine HK.out.mono ?_;rintro e9 w9 ⟨rfl,rfl⟩;go_wp2_with fail;refine HRf.out.zr ?_;rintro w1 ⟨V1,F1⟩;cases rb with
     | true =>
      exact adO
     | false =>
      have WI:=hR5.out;rw [if_neg zd] at WI;have hput:=V1.YW hg true;exact ai6
 ·rw [xR.2 c2] at HP
  have hf:jJ p=false:=by
   unfold jJ;rw [Bool.eq_false_iff];intro h;simp at h;omega
  rw [if_pos hf] at hR;subst hR;exact ai8
theorem ai9 {P:Prop} (h:P:=by
 clear hf hV;go_enter func44,ntmps44;go_wp2_with fail;refine (HP.out _).mono ?_;rintro e9 w9 ⟨rfl,rfl⟩;go_wp2_with fail;go_ret;exact ⟨rfl,hV'.out,ag.refl _ _⟩):P:=h
theorem Sj (B b:Nat) (p:Int) (V:Vm) (w:World) (hV:bn w B b V) :
  Calls prog 44 #[zP b,zI p] w λe w'=>e= .returned (zI (Go.Pol.jU V p).1)/\eF B b (Go.Pol.jU V p).2 w w':=by
 have hV':=ae hV;have HP:=ae (λW=>Fe p W);obtain ⟨R,hR⟩:=ah (Go.Pol.jU V p);rw [hR];unfold Go.Pol.jU at hR;by_cases c2:0<=p/\p<1024
 ·rw [vF.2 c2] at HP
  obtain ⟨q,rfl⟩:∃q:Nat,p=(q:Int):=⟨p.toNat,zo⟩;have hq:q<1024:=zo;cases hf:jJ (q:Int) with
  | false =>
   rw [if_pos hf] at hR;subst hR;have d2:=Si hf hq;obtain ⟨rm,hrm⟩:=ah (Int.tmod (q:Int) 16);rw [hrm] at d2;exact ai9
  | true =>
   rw [if_neg (by simp [hf])] at hR;obtain ⟨d2,_,g,hqg,hg⟩:=NQ hf;obtain ⟨rm,hrm⟩:=ah (Int.tmod (q:Int) 16);rw [hrm] at d2;have hdv:Int.tdiv (q:Int) 16=(g:Int):=by rw [Int.tdiv_eq_ediv_of_nonneg zo];omega
   have hwg:wrap64 (g:Int)=(g:Int):=by unfold wrap64;omega
   have hgl:(g:Int)<64:=zo;have HRf:=ae (rQ B b 6 V w hV zd);obtain ⟨cs,A,n,cap,hkb,hc,_⟩:=hV.ex;have hch:=hc.bP q hq;rw [show q / 16=g by omega] at hch;have c1:=(hkb.cell (1024+g)).trans hch;have hall:qR V q 16 (λg=>g.bP)=(V.pg q).bP:=by
    rw [Bool.eq_iff_iff,iQ];constructor
    ·intro h;exact h q zo zo
    ·intro h r h1 h2
     have hr:=hc.bP r zo;rw [show r / 16=g by omega,hch,h] at hr
     injection hr with hr;injection hr with hr;exact hr.symm
   have hmk:gX V (q:Int) 16 6 (λg=>g.bP) (λg=>g.dQ false)=if qR V q 16 (λg=>g.bP)=false then (9,V) else if rZ V.rf 6=true then (60,V.ref 6) else (0,(V.ref 6).dD q 16 (λg=>g.dQ false)):=by
    unfold gX;rw [if_neg zo];simp only [Int.toNat_natCast];rfl
   have hR2:Hid ((if (V.pg q).bP=false then (9,V) else if rZ V.rf 6=true then (60,V.ref 6) else (0,(V.ref 6).dD q 16 (λg=>g.dQ false)))=R):=ae (by rw [<-hall,<-hmk];exact hR);have adL:=ae hqg;clear hf hV hkb hc hch hall hR hqg hmk;generalize (V.pg q).bP=hh at *;cases hh with
   | false =>
    have jZ:=hR2.out;rw [if_pos rfl] at jZ;subst jZ;go_enter func44,ntmps44;go_wp2_with fail;refine (HP.out _).mono ?_;exact WG
   | true =>
    have jZ:=hR2.out;rw [if_neg zd] at jZ;have hR5:=ae jZ;clear hR2 jZ;generalize rZ V.rf 6=rb at *;generalize V.ref 6=V2 at *;go_enter func44,ntmps44;go_wp2_with fail;refine (HP.out _).mono ?_;rintro e9 w9 ⟨rfl,rfl⟩;go_wp2_with fail;refine HRf.out.zr ?_;rintro w1 ⟨V1,F1⟩;cases rb with
    | true =>
     exact adO
    | false =>
     have WI:=hR5.out;rw [if_neg zd] at WI;have hput:=V1.YW hg false;exact ai6
 ·rw [xR.2 c2] at HP
  have hf:jJ p=false:=by
   unfold jJ;rw [Bool.eq_false_iff];intro h;simp at h;omega
  rw [if_pos hf] at hR;subst hR;exact ai9
end Go.Proofs.YtlgcpjhimomiaaaGreat
