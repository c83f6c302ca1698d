/- Texts RWalkT, RWalkU. -/
import Derived.Test.YtlgcpjhimomiaaaGreatO16
set_option maxRecDepth 100000
set_option maxHeartbeats 12800000
namespace Go.Pol
open Go Go.RowKit Go.Proofs.Tryz
theorem uU.MV {y bs bb x:Nat} {r:Cr} {v:Value} {pt pc:Option Addr} {q:Cr} {u:Value} {a b:Int} {W:World} {t t2:TypeId} (h:af W y t (K8 (some ⟨bs,0,none⟩) (some ⟨bb,0,none⟩) r v pt pc q u)) (k:af W x t2 #[.int .u8 a,zI b]):uU y bs bb x r v b W :=
 ⟨h.cell 0,h.cell 1,h.cell 2,h.cell 3,h.cell 4,h.cell 5,h.cell 6,h.cell 7,h.cell 8,h.cell 9,h.cell 10,k.cell 1⟩
def yQ (y ts tb x:Nat) (r:Cr) (v:Value) (b:Int) (W:World):Prop:=W.cell? ⟨y,11,none⟩=some (.pointer (some ⟨ts,0,none⟩))/\W.cell? ⟨y,12,none⟩=some (.pointer (some ⟨tb,0,none⟩))/\W.cell? ⟨y,13,none⟩=some (zI r.pg)/\W.cell? ⟨y,14,none⟩=some (zI r.n)/\W.cell? ⟨y,15,none⟩=some (zI r.f)/\W.cell? ⟨y,16,none⟩=some (zI r.bk)/\W.cell? ⟨y,17,none⟩=some (zI r.ev)/\W.cell? ⟨y,18,none⟩=some (zI r.node)/\W.cell? ⟨y,19,none⟩=some (zI r.live)/\W.cell? ⟨y,20,none⟩=some v/\W.cell? ⟨y,21,none⟩=some (.bool r.cl)/\W.cell? ⟨x,1,none⟩=some (zI b)
theorem yQ.of {y ts tb x:Nat} {ps pb:Option Addr} {q r:Cr} {u v:Value} {a b:Int} {W:World} {t t2:TypeId} (h:af W y t (K8 ps pb q u (some ⟨ts,0,none⟩) (some ⟨tb,0,none⟩) r v)) (k:af W x t2 #[.int .u8 a,zI b]):yQ y ts tb x r v b W :=
 ⟨h.cell 11,h.cell 12,h.cell 13,h.cell 14,h.cell 15,h.cell 16,h.cell 17,h.cell 18,h.cell 19,h.cell 20,h.cell 21,k.cell 1⟩
end Go.Pol
namespace Go.Proofs.YtlgcpjhimomiaaaGreat
open Go Go.Proofs Go.RowKit Go.Pol Go.Shelf Tryz
attribute [local go_sem] Oper.semAt_some aC au aB ai
theorem nX (y:Nat) (ps pb pt pc:Option Addr) (r q:Cr) (v u:Value) (b:Int) (w:World) (ky:af w y 47 (K8 ps pb r v pt pc q u)) :
  zK 35 #[zP y,zI b] w (zI (uO q b)):=by
 have HN:=ae (λW=>zX q.pg q.n q.f q.bk q.ev b W (Ce q b) rfl);have hF:uO q b=if (Ce q b).2=0 then (Ce q b).1 else q.pg:=rfl
 unfold ek at HN;generalize Ce q b=S at *;obtain ⟨sp,se⟩:=S;simp only at HN hF;rw [hF];dsimp only [K8] at ky;clear hF;have cy:=ky.cell;by_cases hse:se=0
 ·subst hse
  rw [if_pos rfl];go_enter func35,ntmps35;go_wp2_with fail;refine (HN.out _).zr λw1 hb=>?_
  go_wp2_with fail;go_ret;exact ⟨rfl,hb⟩
 ·have d:=gJ hse
  rw [if_neg hse];clear hse;go_enter func35,ntmps35;go_wp2_with fail;refine (HN.out _).zr λw1 hb=>?_
  have c1:=(ky.call hb).cell;go_wp2_with fail;go_ret;exact ⟨rfl,hb⟩
theorem zT4 {P:Prop} (h:P:=by
 have nZ:=(Below.refl w4.heap.size w4).drew;obtain ⟨P5,qA,pK,hk5,yH⟩:=lM nZ P4 nH uB hk4 hq4;have B5:=B4.trans (nZ.mono (Nat.le_trans hN B4.size));refine bT ?_;refine bM (yQ y ts tb x r (.slice A' r.kept.length cap') b) [0,17,18,19,20,21,22] zk ?_;generalize w4.drew=w5 at *;have hS:=yQ.of qA pK;dsimp only [yQ] at hS ⊢;clear P4 nH uB hk4 hq4 B4 nZ;refine ig 0 ?_;refine dE 1 hS ?_;refine dE 2 hS ?_;refine dE 3 hS ?_;refine dE 4 hS ?_;refine dE 5 hS ?_;refine dE 6 hS ?_;refine dE 7 hS ?_;refine dE 8 hS ?_;refine dE 9 hS ?_;refine dE 10 hS ?_;refine dE 11 hS ?_;refine dE 12 hS ?_;refine dE 13 hS ?_;refine dE 14 hS ?_;refine gD 15 λK hK=>?_
 go_simp;refine ((wC.out w5 P5.ref P5.wy yH)).mono ?_;rintro (e w6 ⟨v6,rfl,⟨A6,c6,rfl,HY,MQ,He⟩,T6⟩);refine hK.out _ _ (λ_=>yQ.of (T6.blk P5.ref qA zd zd) (T6.blk P5.ref pK zd zd)) (λhS=>?_);clear hK K;replace hS:=hS rfl;try simp only [Act.put,iE,iF,iG]
 have P6:=P5.GZ T6;have jE:=(T6.blk P5.ref qA zd zd);have uD:=(T6.blk P5.ref pK zd zd);have wZ:=T6.kept P5.ref hk5;have B6:=B5.trans (P5.yl T6 (Nat.le_trans hN B5.size));clear P5 qA pK hk5 yH B5 T6;refine dE 16 hS ?_;refine ig 17 ?_;refine ig 18 ?_;refine ig 19 ?_;refine ig 20 ?_;have F7:=Bf w6 y sr (.slice A6 sr.kept.length c6);have yP:=Be jE sr (.slice A6 sr.kept.length c6);have Bq:=F7.blk uD (λe=>by have e:x=y:=e;rw [e] at uD;exact uD.ne jE zd);have P7:=P6.Ch jE F7;have Yi:=He.far F7 (λg cs hg e=>by have e:g=y:=e;rw [e] at hg;exact hg.ne jE zd);have FH:=wZ.far F7 (λg cs hg e=>by have e:g=y:=e;rw [e] at hg;exact hg.ne jE zd);have B7:=B6.trans (F7.below (Nat.le_trans hN B6.size) (λk hk e=>by have e:k=y:=e;have:=P6.lo;omega));have Qh:=jE.cell;have Qi:=jE.frozen;refine gD 21 λKK tT=>?_
 go_simp;refine tT.out _ (Aw w6 y sr (.slice A6 sr.kept.length c6)) (λh=>absurd h zd) (λ_=>?_);clear tT KK;generalize Aw w6 y sr (.slice A6 sr.kept.length c6)=w7 at *;try simp only [Act.put,iE,iF,iG]
 refine ig 22 ?_;refine bE zk ?_ _;refine aS ?_;clear P6 jE uD He wZ B6 F7 Qh Qi hS;have BA:gI w7 N y bs bb ts tb R (sV,sL,sr):=⟨P7,⟨A3,c3,A6,c6,yP,FH,hl3,Yj,Yi,HY,MQ⟩,hinv⟩;have B8:=B7;clear P7 yP Bq FH Yi B7 hinv;go_wp2_with fail;refine (uP N y bs bb ts tb R _ _ BA).zr λw9 jS=>?_
 go_wp2_with fail;go_ret;exact ⟨rfl,BA.call jS,B8.trans (jS.mono (Nat.le_trans hN B8.size))⟩):P:=h
theorem QA {P:Prop} (h:P:=by
 go_wp2_with fail;go_meet
 case rel=>exact ⟨rfl,rfl⟩):P:=h
theorem MW (N y bs bb ts tb:Nat) (R:List Ru) (V:Vm) (L:List Nd) (r:Cr) (a b:Int) (w:World) (h:gI w N y bs bb ts tb R (V,L,r)) (hN:N<=w.heap.size) (ha:0<=a/\a<=255) (hmm:a % 12=0\/a % 12=1\/a % 12=2\/a % 12=3) :
  Calls prog 9 #[zP y,.agg #[.int .u8 a,zI b]] w λe w'=>e= .returned (.bool true)/\gI w' N y bs bb ts tb R (rX (V,L,r) (a,b))/\Below N w w':=by
 have hinv:=yj h.inv (a,b);have hnl:bq r=0->r.node.toNat<L.length:=λ_=>h.inv.node
 have hG:=h.inv.sys.1.good;have hO:=h.inv.eO;have h2:L.length=2:=h.inv.two;have hpr:=lu h.inv.Dt b;have P:=h.both;obtain ⟨A,cap,A',cap',ky,hk,hl,hm,hk',hl',hm'⟩:=h.two;simp only at hG hO P ky hk hl hm hk' hl' hm' hpr;have uS:=hG.kinds;have hb0:=aQ w (.cells #[.int .u8 a,zI b] 50);have kx:=af.new w 50 #[.int .u8 a,zI b];obtain ⟨P0,qB,hk0,hq0⟩:=vO hb0 P ky hk hk';have B0:=hb0.mono hN;obtain ⟨x,hx⟩:=ah (w.heap.size);rw [hx] at kx;obtain ⟨U,hU⟩:=ah (rX (V,L,r) (a,b));rw [hU] at hinv ⊢;unfold rX at hU;simp only at hU;obtain ⟨m,jO⟩:=ah (a % 12);have ht:Int.tmod a 12=m:=by rw [Int.tmod_eq_emod_of_nonneg ha.1];exact jO
 rw [jO] at hU hmm;have hpl:=h.inv.Dt;clear h jO P ky hk hk' hb0;rw [if_pos zo] at hU;have uV:=ae (λW h1 h2 h3=>vK bs bb V L r b A cap W h1 uS h2 hO hnl hl hm h3);have wC:=ae (λW h1 h2 h3=>Ye N ts tb V L r b A' cap' W h1 h2 hO hnl hl' hm' h3);generalize dh V L r b=S at *;obtain ⟨sr,se,sV,sL⟩:=S;simp only at uV wC hU;subst hU;go_enter func9,ntmps9;go_upto_region 1 with fail
 generalize w.alloc _=w0 at *;try simp only [hx]
 have cx:=kx.cell;go_wp2_with fail;refine (nX y _ _ _ _ r r _ _ b w0 qB).zr λw1 hc1=>?_
 obtain ⟨P1,pO,mE,hk1,hq1⟩:=lM hc1 P0 qB kx hk0 hq0;have B1:=B0.trans (hc1.mono (by have:=B0.size;omega));have cx1:=mE.cell;clear P0 qB kx hk0 hq0 B0 cx hc1;go_upto_if 53 with fail
 go_cut [53] from 54 to 57 (λsv W=>.bool true=sv/\w1=W)
 case first =>
  clear P1 pO hk1 hq1;rcases hmm with rfl|rfl|rfl|rfl
  ·exact QA
  ·exact QA
  ·exact QA
  ·exact QA
 obtain ⟨rfl,rfl⟩:=hcut;go_upto_region 10 with fail
 have lC:=(Below.refl w1.heap.size w1).drew;obtain ⟨P2,jA,gY,hk2,hq2⟩:=lM lC P1 pO mE hk1 hq1;have B2:=B1.trans (lC.mono (Nat.le_trans hN B1.size));refine bT ?_;refine bM (uU y bs bb x r (.slice A r.kept.length cap) b) [0,17,18,19,20,21,22] zk ?_;generalize w1.drew=w2 at *;have hS:=uU.MV jA gY;dsimp only [uU] at hS ⊢;clear P1 pO mE hk1 hq1 B1 lC;refine ig 0 ?_;refine dE 1 hS ?_;refine dE 2 hS ?_;refine dE 3 hS ?_;refine dE 4 hS ?_;refine dE 5 hS ?_;refine dE 6 hS ?_;refine dE 7 hS ?_;refine dE 8 hS ?_;refine dE 9 hS ?_;refine dE 10 hS ?_;refine dE 11 hS ?_;refine dE 12 hS ?_;refine dE 13 hS ?_;refine dE 14 hS ?_;refine gD 15 λK hK=>?_
 go_simp;refine ((uV.out w2 P2.sys P2.eO hk2)).mono ?_;rintro (e w3 ⟨v3,rfl,⟨A3,c3,rfl,hl3,Yj,hk3⟩,T3⟩);refine hK.out _ _ (λ_=>uU.MV (T3.blk P2.sys jA zd zd) (T3.blk P2.sys gY zd zd)) (λhS=>?_);clear hK K;replace hS:=hS rfl;try simp only [Act.put,iE,iF,iG]
 have P3:=P2.prog T3;have gT:=(T3.blk P2.sys jA zd zd);have lH:=(T3.blk P2.sys gY zd zd);have hq3:=T3.kept P2.sys hq2;have B3:=B2.trans (P2.below T3 (Nat.le_trans hN B2.size));clear P2 jA gY hk2 hq2 B2 T3;refine dE 16 hS ?_;refine ig 17 ?_;refine ig 18 ?_;refine ig 19 ?_;refine ig 20 ?_;have F4:=xq w3 y sr (.slice A3 sr.kept.length c3);have nH:=xm gT sr (.slice A3 sr.kept.length c3);have uB:=F4.blk lH (λe=>by have e:x=y:=e;rw [e] at lH;exact lH.ne gT zd);have P4:=P3.Ch gT F4;have hk4:=hk3.far F4 (λg cs hg e=>by have e:g=y:=e;rw [e] at hg;exact hg.ne gT zd);have hq4:=hq3.far F4 (λg cs hg e=>by have e:g=y:=e;rw [e] at hg;exact hg.ne gT zd);have B4:=B3.trans (F4.below (Nat.le_trans hN B3.size) (λk hk e=>by have e:k=y:=e;have:=P3.lo;omega));have ED:=gT.cell;have Yk:=gT.frozen;refine gD 21 λKK tT=>?_
 go_simp;refine tT.out _ (xh w3 y sr (.slice A3 sr.kept.length c3)) (λh=>absurd h zd) (λ_=>?_);clear tT KK;generalize xh w3 y sr (.slice A3 sr.kept.length c3)=w4 at *;try simp only [Act.put,iE,iF,iG]
 refine ig 22 ?_;refine bE zk ?_ _;refine aS ?_;clear P3 gT lH hk3 hq3 B3 F4 ED Yk hS;go_upto_region 11 with fail
 exact zT4
theorem akZ {P:Prop} (h:P:=by
 have B8:=B7;clear P7 yP Bq FH Yi B7 hinv;go_wp2_with fail;refine (uP N y bs bb ts tb R _ _ BA).zr λw9 jS=>?_
 go_wp2_with fail;go_ret;exact ⟨rfl,BA.call jS,B8.trans (jS.mono (Nat.le_trans hN B8.size))⟩):P:=h
theorem ak0 {P:Prop} (h:P:=by
 clear P1 pO hk1 hq1;rcases hmm with rfl|rfl
 ·go_wp2_with fail
  go_meet
  case rel=>exact ⟨rfl,rfl⟩
 ·go_wp2_with fail
  go_meet
  case rel=>exact ⟨rfl,rfl⟩):P:=h
theorem Ik (N y bs bb ts tb:Nat) (R:List Ru) (V:Vm) (L:List Nd) (r:Cr) (a b:Int) (w:World) (h:gI w N y bs bb ts tb R (V,L,r)) (hN:N<=w.heap.size) (ha:0<=a/\a<=255) (hmm:a % 12=4\/a % 12=5) :
  Calls prog 9 #[zP y,.agg #[.int .u8 a,zI b]] w λe w'=>e= .returned (.bool true)/\gI w' N y bs bb ts tb R (rX (V,L,r) (a,b))/\Below N w w':=by
 have hinv:=yj h.inv (a,b);have hnl:bq r=0->r.node.toNat<L.length:=λ_=>h.inv.node
 have hG:=h.inv.sys.1.good;have hO:=h.inv.eO;have h2:L.length=2:=h.inv.two;have hpr:=lu h.inv.Dt b;have P:=h.both;obtain ⟨A,cap,A',cap',ky,hk,hl,hm,hk',hl',hm'⟩:=h.two;simp only at hG hO P ky hk hl hm hk' hl' hm' hpr;have uS:=hG.kinds;have hb0:=aQ w (.cells #[.int .u8 a,zI b] 50);have kx:=af.new w 50 #[.int .u8 a,zI b];obtain ⟨P0,qB,hk0,hq0⟩:=vO hb0 P ky hk hk';have B0:=hb0.mono hN;obtain ⟨x,hx⟩:=ah (w.heap.size);rw [hx] at kx;obtain ⟨U,hU⟩:=ah (rX (V,L,r) (a,b));rw [hU] at hinv ⊢;unfold rX at hU;simp only at hU;obtain ⟨m,jO⟩:=ah (a % 12);have ht:Int.tmod a 12=m:=by rw [Int.tmod_eq_emod_of_nonneg ha.1];exact jO
 rw [jO] at hU hmm;have hpl:=h.inv.Dt;clear h jO P ky hk hk' hb0;rw [if_neg zo,if_pos zo] at hU;have n0:(m==0)=false:=by rw [beq_eq_false_iff_ne];omega
 have n1:(m==1)=false:=by rw [beq_eq_false_iff_ne];omega
 have n2:(m==2)=false:=by rw [beq_eq_false_iff_ne];omega
 have n3:(m==3)=false:=by rw [beq_eq_false_iff_ne];omega
 have uV:=ae (λW h3=>GA r b A cap W hl hm h3);have wC:=ae (λW h3=>Qn r b A' cap' W hl' hm' h3);generalize iN r b=S at *;obtain ⟨sr,se⟩:=S;simp only at uV wC hU;subst hU;go_enter func9,ntmps9;go_upto_region 1 with fail
 generalize w.alloc _=w0 at *;try simp only [hx]
 have cx:=kx.cell;go_wp2_with fail;refine (nX y _ _ _ _ r r _ _ b w0 qB).zr λw1 hc1=>?_
 obtain ⟨P1,pO,mE,hk1,hq1⟩:=lM hc1 P0 qB kx hk0 hq0;have B1:=B0.trans (hc1.mono (by have:=B0.size;omega));have cx1:=mE.cell;clear P0 qB kx hk0 hq0 B0 cx hc1;go_upto_if 100 with fail
 go_cut [100] from 101 to 102 (λsv W=>.bool true=sv/\w1=W)
 case first =>
  exact ak0
 obtain ⟨rfl,rfl⟩:=hcut;go_upto_region 14 with fail
 have lC:=(Below.refl w1.heap.size w1).drew;obtain ⟨P2,jA,gY,hk2,hq2⟩:=lM lC P1 pO mE hk1 hq1;have B2:=B1.trans (lC.mono (Nat.le_trans hN B1.size));refine bT ?_;refine bM (uU y bs bb x r (.slice A r.kept.length cap) b) [0,9,10,11,12,13,14] zk ?_;generalize w1.drew=w2 at *;have hS:=uU.MV jA gY;dsimp only [uU] at hS ⊢;clear P1 pO mE hk1 hq1 B1 lC;refine ig 0 ?_;refine dE 1 hS ?_;refine dE 2 hS ?_;refine dE 3 hS ?_;refine dE 4 hS ?_;refine dE 5 hS ?_;refine dE 6 hS ?_;refine gD 7 λK hK=>?_
 go_simp;refine ((uV.out w2 hk2)).mono ?_;rintro (e w3 ⟨v3,rfl,⟨A3,c3,rfl,hl3,Yj,hk3⟩,hb3⟩);refine hK.out _ _ (λ_=>uU.MV (jA.call hb3) (gY.call hb3)) (λhS=>?_);clear hK K;replace hS:=hS rfl;try simp only [Act.put,iE,iF,iG]
 have T3:=aR.below P2.sys P2.eO hb3;have P3:=P2.prog T3;have gT:=(T3.blk P2.sys jA zd zd);have lH:=(T3.blk P2.sys gY zd zd);have hq3:=T3.kept P2.sys hq2;have B3:=B2.trans (P2.below T3 (Nat.le_trans hN B2.size));clear P2 jA gY hk2 hq2 B2 T3;refine dE 8 hS ?_;refine ig 9 ?_;refine ig 10 ?_;refine ig 11 ?_;refine ig 12 ?_;have F4:=xq w3 y sr (.slice A3 sr.kept.length c3);have nH:=xm gT sr (.slice A3 sr.kept.length c3);have uB:=F4.blk lH (λe=>by have e:x=y:=e;rw [e] at lH;exact lH.ne gT zd);have P4:=P3.Ch gT F4;have hk4:=hk3.far F4 (λg cs hg e=>by have e:g=y:=e;rw [e] at hg;exact hg.ne gT zd);have hq4:=hq3.far F4 (λg cs hg e=>by have e:g=y:=e;rw [e] at hg;exact hg.ne gT zd);have B4:=B3.trans (F4.below (Nat.le_trans hN B3.size) (λk hk e=>by have e:k=y:=e;have:=P3.lo;omega));have ED:=gT.cell;have Yk:=gT.frozen;refine gD 13 λKK tT=>?_
 go_simp;refine tT.out _ (xh w3 y sr (.slice A3 sr.kept.length c3)) (λh=>absurd h zd) (λ_=>?_);clear tT KK;generalize xh w3 y sr (.slice A3 sr.kept.length c3)=w4 at *;try simp only [Act.put,iE,iF,iG]
 refine ig 14 ?_;refine bE zk ?_ _;refine aS ?_;clear P3 gT lH hk3 hq3 B3 F4 ED Yk hS;go_upto_region 15 with fail
 have nZ:=(Below.refl w4.heap.size w4).drew;obtain ⟨P5,qA,pK,hk5,yH⟩:=lM nZ P4 nH uB hk4 hq4;have B5:=B4.trans (nZ.mono (Nat.le_trans hN B4.size));refine bT ?_;refine bM (yQ y ts tb x r (.slice A' r.kept.length cap') b) [0,9,10,11,12,13,14] zk ?_;generalize w4.drew=w5 at *;have hS:=yQ.of qA pK;dsimp only [yQ] at hS ⊢;clear P4 nH uB hk4 hq4 B4 nZ;refine ig 0 ?_;refine dE 1 hS ?_;refine dE 2 hS ?_;refine dE 3 hS ?_;refine dE 4 hS ?_;refine dE 5 hS ?_;refine dE 6 hS ?_;refine gD 7 λK hK=>?_
 go_simp;refine ((wC.out w5 yH)).mono ?_;rintro (e w6 ⟨v6,rfl,⟨A6,c6,rfl,HY,MQ,He⟩,hb6⟩);refine hK.out _ _ (λ_=>yQ.of (qA.call hb6) (pK.call hb6)) (λhS=>?_);clear hK K;replace hS:=hS rfl;try simp only [Act.put,iE,iF,iG]
 have T6:=bO.below P5.ref P5.wy hb6;have P6:=P5.GZ T6;have jE:=(T6.blk P5.ref qA zd zd);have uD:=(T6.blk P5.ref pK zd zd);have wZ:=T6.kept P5.ref hk5;have B6:=B5.trans (P5.yl T6 (Nat.le_trans hN B5.size));clear P5 qA pK hk5 yH B5 T6;refine dE 8 hS ?_;refine ig 9 ?_;refine ig 10 ?_;refine ig 11 ?_;refine ig 12 ?_;have F7:=Bf w6 y sr (.slice A6 sr.kept.length c6);have yP:=Be jE sr (.slice A6 sr.kept.length c6);have Bq:=F7.blk uD (λe=>by have e:x=y:=e;rw [e] at uD;exact uD.ne jE zd);have P7:=P6.Ch jE F7;have Yi:=He.far F7 (λg cs hg e=>by have e:g=y:=e;rw [e] at hg;exact hg.ne jE zd);have FH:=wZ.far F7 (λg cs hg e=>by have e:g=y:=e;rw [e] at hg;exact hg.ne jE zd);have B7:=B6.trans (F7.below (Nat.le_trans hN B6.size) (λk hk e=>by have e:k=y:=e;have:=P6.lo;omega));have Qh:=jE.cell;have Qi:=jE.frozen;refine gD 13 λKK tT=>?_
 go_simp;refine tT.out _ (Aw w6 y sr (.slice A6 sr.kept.length c6)) (λh=>absurd h zd) (λ_=>?_);clear tT KK;generalize Aw w6 y sr (.slice A6 sr.kept.length c6)=w7 at *;try simp only [Act.put,iE,iF,iG]
 refine ig 14 ?_;refine bE zk ?_ _;refine aS ?_;clear P6 jE uD He wZ B6 F7 Qh Qi hS;have BA:gI w7 N y bs bb ts tb R (V,L,sr):=⟨P7,⟨A3,c3,A6,c6,yP,FH,hl3,Yj,Yi,HY,MQ⟩,hinv⟩;exact akZ
theorem Lf (N y bs bb ts tb:Nat) (R:List Ru) (V:Vm) (L:List Nd) (r:Cr) (a b:Int) (w:World) (h:gI w N y bs bb ts tb R (V,L,r)) (hN:N<=w.heap.size) (ha:0<=a/\a<=255) (hmm:a % 12=6\/a % 12=7) (hb1 : -9223372036854775808<=b) (hb2:b<=9223372036854775807) :
  Calls prog 9 #[zP y,.agg #[.int .u8 a,zI b]] w λe w'=>e= .returned (.bool true)/\gI w' N y bs bb ts tb R (rX (V,L,r) (a,b))/\Below N w w':=by
 have hinv:=yj h.inv (a,b);have hnl:bq r=0->r.node.toNat<L.length:=λ_=>h.inv.node
 have hG:=h.inv.sys.1.good;have hO:=h.inv.eO;have h2:L.length=2:=h.inv.two;have hpr:=lu h.inv.Dt b;have P:=h.both;obtain ⟨A,cap,A',cap',ky,hk,hl,hm,hk',hl',hm'⟩:=h.two;simp only at hG hO P ky hk hl hm hk' hl' hm' hpr;have uS:=hG.kinds;have hb0:=aQ w (.cells #[.int .u8 a,zI b] 50);have kx:=af.new w 50 #[.int .u8 a,zI b];obtain ⟨P0,qB,hk0,hq0⟩:=vO hb0 P ky hk hk';have B0:=hb0.mono hN;obtain ⟨x,hx⟩:=ah (w.heap.size);rw [hx] at kx;obtain ⟨U,hU⟩:=ah (rX (V,L,r) (a,b));rw [hU] at hinv ⊢;unfold rX at hU;simp only at hU;obtain ⟨m,jO⟩:=ah (a % 12);have ht:Int.tmod a 12=m:=by rw [Int.tmod_eq_emod_of_nonneg ha.1];exact jO
 rw [jO] at hU hmm;have hpl:=h.inv.Dt;clear h jO P ky hk hk' hb0;rw [if_neg zo,if_neg zo,if_pos zo] at hU;have n0:(m==0)=false:=by rw [beq_eq_false_iff_ne];omega
 have n1:(m==1)=false:=by rw [beq_eq_false_iff_ne];omega
 have n2:(m==2)=false:=by rw [beq_eq_false_iff_ne];omega
 have n3:(m==3)=false:=by rw [beq_eq_false_iff_ne];omega
 have n4:(m==4)=false:=by rw [beq_eq_false_iff_ne];omega
 have n5:(m==5)=false:=by rw [beq_eq_false_iff_ne];omega
 have uV:=ae (λW h1 h2 h3=>J8 bs bb V L r b A cap W h1 uS h2 hO hnl hl hm h3 hb1 hb2);have wC:=ae (λW h1 h2 h3=>Ug N ts tb V L r b A' cap' W h1 h2 hO hnl hl' hm' h3);generalize bZ V L r b=S at *;obtain ⟨sr,se,sV,sL⟩:=S;simp only at uV wC hU;subst hU;go_enter func9,ntmps9;go_upto_region 1 with fail
 generalize w.alloc _=w0 at *;try simp only [hx]
 have cx:=kx.cell;go_wp2_with fail;refine (nX y _ _ _ _ r r _ _ b w0 qB).zr λw1 hc1=>?_
 obtain ⟨P1,pO,mE,hk1,hq1⟩:=lM hc1 P0 qB kx hk0 hq0;have B1:=B0.trans (hc1.mono (by have:=B0.size;omega));have cx1:=mE.cell;clear P0 qB kx hk0 hq0 B0 cx hc1;go_upto_if 129 with fail
 go_cut [129] from 130 to 131 (λsv W=>.bool true=sv/\w1=W)
 case first =>
  exact ak0
 obtain ⟨rfl,rfl⟩:=hcut;go_upto_region 18 with fail
 have lC:=(Below.refl w1.heap.size w1).drew;obtain ⟨P2,jA,gY,hk2,hq2⟩:=lM lC P1 pO mE hk1 hq1;have B2:=B1.trans (lC.mono (Nat.le_trans hN B1.size));refine bT ?_;refine bM (uU y bs bb x r (.slice A r.kept.length cap) b) [0,17,18,19,20,21,22] zk ?_;generalize w1.drew=w2 at *;have hS:=uU.MV jA gY;dsimp only [uU] at hS ⊢;clear P1 pO mE hk1 hq1 B1 lC;refine ig 0 ?_;refine dE 1 hS ?_;refine dE 2 hS ?_;refine dE 3 hS ?_;refine dE 4 hS ?_;refine dE 5 hS ?_;refine dE 6 hS ?_;refine dE 7 hS ?_;refine dE 8 hS ?_;refine dE 9 hS ?_;refine dE 10 hS ?_;refine dE 11 hS ?_;refine dE 12 hS ?_;refine dE 13 hS ?_;refine dE 14 hS ?_;refine gD 15 λK hK=>?_
 go_simp;refine ((uV.out w2 P2.sys P2.eO hk2)).mono ?_;rintro (e w3 ⟨v3,rfl,⟨A3,c3,rfl,hl3,Yj,hk3⟩,T3⟩);refine hK.out _ _ (λ_=>uU.MV (T3.blk P2.sys jA zd zd) (T3.blk P2.sys gY zd zd)) (λhS=>?_);clear hK K;replace hS:=hS rfl;try simp only [Act.put,iE,iF,iG]
 have P3:=P2.prog T3;have gT:=(T3.blk P2.sys jA zd zd);have lH:=(T3.blk P2.sys gY zd zd);have hq3:=T3.kept P2.sys hq2;have B3:=B2.trans (P2.below T3 (Nat.le_trans hN B2.size));clear P2 jA gY hk2 hq2 B2 T3;refine dE 16 hS ?_;refine ig 17 ?_;refine ig 18 ?_;refine ig 19 ?_;refine ig 20 ?_;have F4:=xq w3 y sr (.slice A3 sr.kept.length c3);have nH:=xm gT sr (.slice A3 sr.kept.length c3);have uB:=F4.blk lH (λe=>by have e:x=y:=e;rw [e] at lH;exact lH.ne gT zd);have P4:=P3.Ch gT F4;have hk4:=hk3.far F4 (λg cs hg e=>by have e:g=y:=e;rw [e] at hg;exact hg.ne gT zd);have hq4:=hq3.far F4 (λg cs hg e=>by have e:g=y:=e;rw [e] at hg;exact hg.ne gT zd);have B4:=B3.trans (F4.below (Nat.le_trans hN B3.size) (λk hk e=>by have e:k=y:=e;have:=P3.lo;omega));have ED:=gT.cell;have Yk:=gT.frozen;refine gD 21 λKK tT=>?_
 go_simp;refine tT.out _ (xh w3 y sr (.slice A3 sr.kept.length c3)) (λh=>absurd h zd) (λ_=>?_);clear tT KK;generalize xh w3 y sr (.slice A3 sr.kept.length c3)=w4 at *;try simp only [Act.put,iE,iF,iG]
 refine ig 22 ?_;refine bE zk ?_ _;refine aS ?_;clear P3 gT lH hk3 hq3 B3 F4 ED Yk hS;go_upto_region 19 with fail
 exact zT4
theorem Lg (N y bs bb ts tb:Nat) (R:List Ru) (V:Vm) (L:List Nd) (r:Cr) (a b:Int) (w:World) (h:gI w N y bs bb ts tb R (V,L,r)) (hN:N<=w.heap.size) (ha:0<=a/\a<=255) (hmm:a % 12=11) :
  Calls prog 9 #[zP y,.agg #[.int .u8 a,zI b]] w λe w'=>e= .returned (.bool true)/\gI w' N y bs bb ts tb R (rX (V,L,r) (a,b))/\Below N w w':=by
 have hinv:=yj h.inv (a,b);have hnl:bq r=0->r.node.toNat<L.length:=λ_=>h.inv.node
 have hG:=h.inv.sys.1.good;have hO:=h.inv.eO;have h2:L.length=2:=h.inv.two;have hpr:=lu h.inv.Dt b;have P:=h.both;obtain ⟨A,cap,A',cap',ky,hk,hl,hm,hk',hl',hm'⟩:=h.two;simp only at hG hO P ky hk hl hm hk' hl' hm' hpr;have uS:=hG.kinds;have hb0:=aQ w (.cells #[.int .u8 a,zI b] 50);have kx:=af.new w 50 #[.int .u8 a,zI b];obtain ⟨P0,qB,hk0,hq0⟩:=vO hb0 P ky hk hk';have B0:=hb0.mono hN;obtain ⟨x,hx⟩:=ah (w.heap.size);rw [hx] at kx;obtain ⟨U,hU⟩:=ah (rX (V,L,r) (a,b));rw [hU] at hinv ⊢;unfold rX at hU;simp only at hU;obtain ⟨m,jO⟩:=ah (a % 12);have ht:Int.tmod a 12=m:=by rw [Int.tmod_eq_emod_of_nonneg ha.1];exact jO
 rw [jO] at hU hmm;have hpl:=h.inv.Dt;clear h jO P ky hk hk' hb0;rw [if_neg zo,if_neg zo,if_neg zo,if_neg zo,if_neg zo,if_neg zo] at hU;have uV:=ae (λW h1 h2 h3=>Em bs bb V L r A cap W h1 uS h2 hO hnl hl hm h3);have wC:=ae (λW h1 h2 h3=>UC N ts tb V L r A' cap' W h1 h2 hO hnl hl' hm' h3);generalize dI V L r=S at *;obtain ⟨sr,se,sV,sL⟩:=S;simp only at uV wC hU;subst hU;subst hmm;go_enter func9,ntmps9;go_upto_region 1 with fail
 generalize w.alloc _=w0 at *;try simp only [hx]
 have cx:=kx.cell;go_wp2_with fail;refine (nX y _ _ _ _ r r _ _ b w0 qB).zr λw1 hc1=>?_
 obtain ⟨P1,pO,mE,hk1,hq1⟩:=lM hc1 P0 qB kx hk0 hq0;have B1:=B0.trans (hc1.mono (by have:=B0.size;omega));have cx1:=mE.cell;clear P0 qB kx hk0 hq0 B0 cx hc1;go_upto_region 4 with fail
 have lC:=(Below.refl w1.heap.size w1).drew;obtain ⟨P2,jA,gY,hk2,hq2⟩:=lM lC P1 pO mE hk1 hq1;have B2:=B1.trans (lC.mono (Nat.le_trans hN B1.size));refine bT ?_;refine bM (uU y bs bb x r (.slice A r.kept.length cap) b) [0,15,16,17,18,19,20] zk ?_;generalize w1.drew=w2 at *;have hS:=uU.MV jA gY;dsimp only [uU] at hS ⊢;clear P1 pO mE hk1 hq1 B1 lC;refine ig 0 ?_;refine dE 1 hS ?_;refine dE 2 hS ?_;refine dE 3 hS ?_;refine dE 4 hS ?_;refine dE 5 hS ?_;refine dE 6 hS ?_;refine dE 7 hS ?_;refine dE 8 hS ?_;refine dE 9 hS ?_;refine dE 10 hS ?_;refine dE 11 hS ?_;refine dE 12 hS ?_;refine gD 13 λK hK=>?_
 go_simp;refine ((uV.out w2 P2.sys P2.eO hk2)).mono ?_;rintro (e w3 ⟨v3,rfl,⟨A3,c3,rfl,hl3,Yj,hk3⟩,T3⟩);refine hK.out _ _ (λ_=>uU.MV (T3.blk P2.sys jA zd zd) (T3.blk P2.sys gY zd zd)) (λhS=>?_);clear hK K;replace hS:=hS rfl;try simp only [Act.put,iE,iF,iG]
 have P3:=P2.prog T3;have gT:=(T3.blk P2.sys jA zd zd);have lH:=(T3.blk P2.sys gY zd zd);have hq3:=T3.kept P2.sys hq2;have B3:=B2.trans (P2.below T3 (Nat.le_trans hN B2.size));clear P2 jA gY hk2 hq2 B2 T3;refine dE 14 hS ?_;refine ig 15 ?_;refine ig 16 ?_;refine ig 17 ?_;refine ig 18 ?_;have F4:=xq w3 y sr (.slice A3 sr.kept.length c3);have nH:=xm gT sr (.slice A3 sr.kept.length c3);have uB:=F4.blk lH (λe=>by have e:x=y:=e;rw [e] at lH;exact lH.ne gT zd);have P4:=P3.Ch gT F4;have hk4:=hk3.far F4 (λg cs hg e=>by have e:g=y:=e;rw [e] at hg;exact hg.ne gT zd);have hq4:=hq3.far F4 (λg cs hg e=>by have e:g=y:=e;rw [e] at hg;exact hg.ne gT zd);have B4:=B3.trans (F4.below (Nat.le_trans hN B3.size) (λk hk e=>by have e:k=y:=e;have:=P3.lo;omega));have ED:=gT.cell;have Yk:=gT.frozen;refine gD 19 λKK tT=>?_
 go_simp;refine tT.out _ (xh w3 y sr (.slice A3 sr.kept.length c3)) (λh=>absurd h zd) (λ_=>?_);clear tT KK;generalize xh w3 y sr (.slice A3 sr.kept.length c3)=w4 at *;try simp only [Act.put,iE,iF,iG]
 refine ig 20 ?_;refine bE zk ?_ _;refine aS ?_;clear P3 gT lH hk3 hq3 B3 F4 ED Yk hS;go_upto_region 5 with fail
 have nZ:=(Below.refl w4.heap.size w4).drew;obtain ⟨P5,qA,pK,hk5,yH⟩:=lM nZ P4 nH uB hk4 hq4;have B5:=B4.trans (nZ.mono (Nat.le_trans hN B4.size));refine bT ?_;refine bM (yQ y ts tb x r (.slice A' r.kept.length cap') b) [0,15,16,17,18,19,20] zk ?_;generalize w4.drew=w5 at *;have hS:=yQ.of qA pK;dsimp only [yQ] at hS ⊢;clear P4 nH uB hk4 hq4 B4 nZ;refine ig 0 ?_;refine dE 1 hS ?_;refine dE 2 hS ?_;refine dE 3 hS ?_;refine dE 4 hS ?_;refine dE 5 hS ?_;refine dE 6 hS ?_;refine dE 7 hS ?_;refine dE 8 hS ?_;refine dE 9 hS ?_;refine dE 10 hS ?_;refine dE 11 hS ?_;refine dE 12 hS ?_;refine gD 13 λK hK=>?_
 go_simp;refine ((wC.out w5 P5.ref P5.wy yH)).mono ?_;rintro (e w6 ⟨v6,rfl,⟨A6,c6,rfl,HY,MQ,He⟩,T6⟩);refine hK.out _ _ (λ_=>yQ.of (T6.blk P5.ref qA zd zd) (T6.blk P5.ref pK zd zd)) (λhS=>?_);clear hK K;replace hS:=hS rfl;try simp only [Act.put,iE,iF,iG]
 have P6:=P5.GZ T6;have jE:=(T6.blk P5.ref qA zd zd);have uD:=(T6.blk P5.ref pK zd zd);have wZ:=T6.kept P5.ref hk5;have B6:=B5.trans (P5.yl T6 (Nat.le_trans hN B5.size));clear P5 qA pK hk5 yH B5 T6;refine dE 14 hS ?_;refine ig 15 ?_;refine ig 16 ?_;refine ig 17 ?_;refine ig 18 ?_;have F7:=Bf w6 y sr (.slice A6 sr.kept.length c6);have yP:=Be jE sr (.slice A6 sr.kept.length c6);have Bq:=F7.blk uD (λe=>by have e:x=y:=e;rw [e] at uD;exact uD.ne jE zd);have P7:=P6.Ch jE F7;have Yi:=He.far F7 (λg cs hg e=>by have e:g=y:=e;rw [e] at hg;exact hg.ne jE zd);have FH:=wZ.far F7 (λg cs hg e=>by have e:g=y:=e;rw [e] at hg;exact hg.ne jE zd);have B7:=B6.trans (F7.below (Nat.le_trans hN B6.size) (λk hk e=>by have e:k=y:=e;have:=P6.lo;omega));have Qh:=jE.cell;have Qi:=jE.frozen;refine gD 19 λKK tT=>?_
 go_simp;refine tT.out _ (Aw w6 y sr (.slice A6 sr.kept.length c6)) (λh=>absurd h zd) (λ_=>?_);clear tT KK;generalize Aw w6 y sr (.slice A6 sr.kept.length c6)=w7 at *;try simp only [Act.put,iE,iF,iG]
 refine ig 20 ?_;refine bE zk ?_ _;refine aS ?_;clear P6 jE uD He wZ B6 F7 Qh Qi hS;have BA:gI w7 N y bs bb ts tb R (sV,sL,sr):=⟨P7,⟨A3,c3,A6,c6,yP,FH,hl3,Yj,Yi,HY,MQ⟩,hinv⟩;exact akZ
theorem ak1 {P:Prop} (h:P:=by
 have BA:gI w3 N y bs bb ts tb R _:=⟨P3,⟨A,cap,A',cap',gT,hk3,hl,hm,hq3,hl',hm'⟩,hinv⟩;have B8:=B3;clear P3 gT lH hk3 hq3 B3 hinv;go_wp2_with fail;refine (uP N y bs bb ts tb R _ _ BA).zr λw9 jS=>?_
 go_wp2_with fail;go_ret;exact ⟨rfl,BA.call jS,B8.trans (jS.mono (Nat.le_trans hN B8.size))⟩):P:=h
theorem Lh (N y bs bb ts tb:Nat) (R:List Ru) (V:Vm) (L:List Nd) (r:Cr) (a b:Int) (w:World) (h:gI w N y bs bb ts tb R (V,L,r)) (hN:N<=w.heap.size) (ha:0<=a/\a<=255) (hmm:a % 12=8) :
  Calls prog 9 #[zP y,.agg #[.int .u8 a,zI b]] w λe w'=>e= .returned (.bool true)/\gI w' N y bs bb ts tb R (rX (V,L,r) (a,b))/\Below N w w':=by
 have hinv:=yj h.inv (a,b);have hnl:bq r=0->r.node.toNat<L.length:=λ_=>h.inv.node
 have hG:=h.inv.sys.1.good;have hO:=h.inv.eO;have h2:L.length=2:=h.inv.two;have hpr:=lu h.inv.Dt b;have P:=h.both;obtain ⟨A,cap,A',cap',ky,hk,hl,hm,hk',hl',hm'⟩:=h.two;simp only at hG hO P ky hk hl hm hk' hl' hm' hpr;have uS:=hG.kinds;have hb0:=aQ w (.cells #[.int .u8 a,zI b] 50);have kx:=af.new w 50 #[.int .u8 a,zI b];obtain ⟨P0,qB,hk0,hq0⟩:=vO hb0 P ky hk hk';have B0:=hb0.mono hN;obtain ⟨x,hx⟩:=ah (w.heap.size);rw [hx] at kx;obtain ⟨U,hU⟩:=ah (rX (V,L,r) (a,b));rw [hU] at hinv ⊢;unfold rX at hU;simp only at hU;obtain ⟨m,jO⟩:=ah (a % 12);have ht:Int.tmod a 12=m:=by rw [Int.tmod_eq_emod_of_nonneg ha.1];exact jO
 rw [jO] at hU hmm;have hpl:=h.inv.Dt;clear h jO P ky hk hk' hb0;rw [if_neg zo,if_neg zo,if_neg zo,if_pos zo] at hU;obtain ⟨pp,Ii⟩:=ah (uO r b);rw [Ii] at hU hpr;have uV:=ae (λW h=>VZ bs (pp*64) ((pp+1) % 256) V W h);have wC:=ae (λW h=>Sg N ts (pp*64) ((pp+1) % 256) V W h);obtain ⟨er,her⟩:=ah (xP V (pp*64));rw [her] at uV wC;have hw8:IntKind.u8.wrap (pp+1)=(pp+1) % 256:=rfl;subst hU;subst hmm;go_enter func9,ntmps9;go_upto_region 1 with fail
 generalize w.alloc _=w0 at *;try simp only [hx]
 have cx:=kx.cell;go_wp2_with fail;refine (nX y _ _ _ _ r r _ _ b w0 qB).zr λw1 hc1=>?_
 obtain ⟨P1,pO,mE,hk1,hq1⟩:=lM hc1 P0 qB kx hk0 hq0;have B1:=B0.trans (hc1.mono (by have:=B0.size;omega));have cx1:=mE.cell;clear P0 qB kx hk0 hq0 B0 cx hc1;rw [Ii];have cy1:=pO.cell;clear her Ii;go_wp2_with fail;refine (uV.out w1 P1.sys).zr λw2 h2'=>?_
 have T2:=aR.iX P1.sys P1.eO h2';have P2:=P1.prog T2;have jA:=T2.blk P1.sys pO zd zd;have gY:=T2.blk P1.sys mE zd zd;have hk2:=T2.kept P1.sys hk1;have hq2:=T2.kept P1.sys hq1;have B2:=B1.trans (P1.below T2 (Nat.le_trans hN B1.size));have cy2:=jA.cell;clear P1 pO mE hk1 hq1 B1 T2;clear cy1;go_wp2_with fail;refine (wC.out w2 P2.ref).zr λw3 h3'=>?_
 have T3:=bO.iX P2.ref P2.wy h3';have P3:=P2.GZ T3;have gT:=T3.blk P2.ref jA zd zd;have lH:=T3.blk P2.ref gY zd zd;have hk3:=T3.kept P2.ref hk2;have hq3:=T3.kept P2.ref hq2;have B3:=B2.trans (P2.yl T3 (Nat.le_trans hN B2.size));have ED:=gT.cell;clear P2 jA gY hk2 hq2 B2 T3;clear cy2 ED;exact ak1
theorem ak2 {P:Prop} (h:P:=by
 have BA:gI w5 N y bs bb ts tb R _:=⟨P5,⟨A,cap,A',cap',qA,hk5,hl,hm,yH,hl',hm'⟩,hinv⟩;have B8:=B5;clear P5 qA pK hk5 yH B5 hinv;go_wp2_with fail;refine (uP N y bs bb ts tb R _ _ BA).zr λw9 jS=>?_
 go_wp2_with fail;go_ret;exact ⟨rfl,BA.call jS,B8.trans (jS.mono (Nat.le_trans hN B8.size))⟩):P:=h
theorem Lj (N y bs bb ts tb:Nat) (R:List Ru) (V:Vm) (L:List Nd) (r:Cr) (a b:Int) (w:World) (h:gI w N y bs bb ts tb R (V,L,r)) (hN:N<=w.heap.size) (ha:0<=a/\a<=255) (hmm:a % 12=10) :
  Calls prog 9 #[zP y,.agg #[.int .u8 a,zI b]] w λe w'=>e= .returned (.bool true)/\gI w' N y bs bb ts tb R (rX (V,L,r) (a,b))/\Below N w w':=by
 have hinv:=yj h.inv (a,b);have hnl:bq r=0->r.node.toNat<L.length:=λ_=>h.inv.node
 have hG:=h.inv.sys.1.good;have hO:=h.inv.eO;have h2:L.length=2:=h.inv.two;have hpr:=lu h.inv.Dt b;have P:=h.both;obtain ⟨A,cap,A',cap',ky,hk,hl,hm,hk',hl',hm'⟩:=h.two;simp only at hG hO P ky hk hl hm hk' hl' hm' hpr;have uS:=hG.kinds;have hb0:=aQ w (.cells #[.int .u8 a,zI b] 50);have kx:=af.new w 50 #[.int .u8 a,zI b];obtain ⟨P0,qB,hk0,hq0⟩:=vO hb0 P ky hk hk';have B0:=hb0.mono hN;obtain ⟨x,hx⟩:=ah (w.heap.size);rw [hx] at kx;obtain ⟨U,hU⟩:=ah (rX (V,L,r) (a,b));rw [hU] at hinv ⊢;unfold rX at hU;simp only at hU;obtain ⟨m,jO⟩:=ah (a % 12);have ht:Int.tmod a 12=m:=by rw [Int.tmod_eq_emod_of_nonneg ha.1];exact jO
 rw [jO] at hU hmm;have hpl:=h.inv.Dt;clear h jO P ky hk hk' hb0;rw [if_neg zo,if_neg zo,if_neg zo,if_neg zo,if_neg zo,if_pos zo] at hU;have uV:=ae (λW h=>O3 bb 1 b L W h hO (by rw [h2];decide));have wC:=ae (λW h=>TE N tb 1 b L W h hO (by rw [h2];decide));generalize jX L 1 b=S at *;obtain ⟨se,sL⟩:=S;simp only at uV wC hU;rw [show ((1:Nat):Int)=1 from rfl] at uV wC;subst hU;subst hmm;go_enter func9,ntmps9;go_upto_region 1 with fail
 generalize w.alloc _=w0 at *;try simp only [hx]
 have cx:=kx.cell;go_wp2_with fail;refine (nX y _ _ _ _ r r _ _ b w0 qB).zr λw1 hc1=>?_
 obtain ⟨P1,pO,mE,hk1,hq1⟩:=lM hc1 P0 qB kx hk0 hq0;have B1:=B0.trans (hc1.mono (by have:=B0.size;omega));have cx1:=mE.cell;clear P0 qB kx hk0 hq0 B0 cx hc1;go_upto_region 31 with fail
 have lC:=(Below.refl w1.heap.size w1).drew;obtain ⟨P2,jA,gY,hk2,hq2⟩:=lM lC P1 pO mE hk1 hq1;have B2:=B1.trans (lC.mono (Nat.le_trans hN B1.size));refine bT ?_;refine bM (uU y bs bb x r (.slice A r.kept.length cap) b) [] zk ?_;generalize w1.drew=w2 at *;have hS:=uU.MV jA gY;dsimp only [uU] at hS ⊢;clear P1 pO mE hk1 hq1 B1 lC;refine aW 0 hS ?_;refine aW 1 hS ?_;refine aW 2 hS ?_;refine aW 3 hS ?_;refine aW 4 hS ?_;refine aW 5 hS ?_;refine gD 6 λK hK=>?_
 go_simp;refine ((uV.out w2 P2.eO)).mono ?_;rintro (e w3 ⟨rfl,h3'⟩);refine hK.out _ _ (λ_=>uU.MV ((aR.mU P2.sys h3').blk P2.sys jA zd zd) ((aR.mU P2.sys h3').blk P2.sys gY zd zd)) (λhS=>?_);clear hK K;replace hS:=hS rfl;try simp only [Act.put,iE,iF,iG]
 have T3:=aR.mU P2.sys h3';have P3:=P2.prog T3;have gT:=T3.blk P2.sys jA zd zd;have lH:=T3.blk P2.sys gY zd zd;have hk3:=T3.kept P2.sys hk2;have hq3:=T3.kept P2.sys hq2;have B3:=B2.trans (P2.below T3 (Nat.le_trans hN B2.size));have ED:=gT.cell;clear P2 jA gY hk2 hq2 B2 T3;refine aW 7 hS ?_;refine bE zk ?_ _;refine aS ?_;clear hS ED;go_upto_region 32 with fail
 have nZ:=(Below.refl w3.heap.size w3).drew;obtain ⟨P4,nH,uB,hk4,hq4⟩:=lM nZ P3 gT lH hk3 hq3;have B4:=B3.trans (nZ.mono (Nat.le_trans hN B3.size));refine bT ?_;refine bM (yQ y ts tb x r (.slice A' r.kept.length cap') b) [] zk ?_;generalize w3.drew=w4 at *;have hS:=yQ.of nH uB;dsimp only [yQ] at hS ⊢;clear P3 gT lH hk3 hq3 B3 nZ;refine aW 0 hS ?_;refine aW 1 hS ?_;refine aW 2 hS ?_;refine aW 3 hS ?_;refine aW 4 hS ?_;refine aW 5 hS ?_;refine gD 6 λK hK=>?_
 go_simp;refine ((wC.out w4 P4.wy)).mono ?_;rintro (e w5 ⟨rfl,h5'⟩);refine hK.out _ _ (λ_=>yQ.of ((bO.mU P4.ref h5').blk P4.ref nH zd zd) ((bO.mU P4.ref h5').blk P4.ref uB zd zd)) (λhS=>?_);clear hK K;replace hS:=hS rfl;try simp only [Act.put,iE,iF,iG]
 have T5:=bO.mU P4.ref h5';have P5:=P4.GZ T5;have qA:=T5.blk P4.ref nH zd zd;have pK:=T5.blk P4.ref uB zd zd;have hk5:=T5.kept P4.ref hk4;have yH:=T5.kept P4.ref hq4;have B5:=B4.trans (P4.yl T5 (Nat.le_trans hN B4.size));have cy5:=qA.cell;clear P4 nH uB hk4 hq4 B4 T5;refine aW 7 hS ?_;refine bE zk ?_ _;refine aS ?_;clear hS cy5;exact ak2
theorem MX (N y bs bb ts tb:Nat) (R:List Ru) (V:Vm) (L:List Nd) (r:Cr) (a b:Int) (w:World) (h:gI w N y bs bb ts tb R (V,L,r)) (hN:N<=w.heap.size) (ha:0<=a/\a<=255) (hmm:a % 12=9) :
  Calls prog 9 #[zP y,.agg #[.int .u8 a,zI b]] w λe w'=>e= .returned (.bool true)/\gI w' N y bs bb ts tb R (rX (V,L,r) (a,b))/\Below N w w':=by
 have hinv:=yj h.inv (a,b);have hnl:bq r=0->r.node.toNat<L.length:=λ_=>h.inv.node
 have hG:=h.inv.sys.1.good;have hO:=h.inv.eO;have h2:L.length=2:=h.inv.two;have hpr:=lu h.inv.Dt b;have P:=h.both;obtain ⟨A,cap,A',cap',ky,hk,hl,hm,hk',hl',hm'⟩:=h.two;simp only at hG hO P ky hk hl hm hk' hl' hm' hpr;have uS:=hG.kinds;have hb0:=aQ w (.cells #[.int .u8 a,zI b] 50);have kx:=af.new w 50 #[.int .u8 a,zI b];obtain ⟨P0,qB,hk0,hq0⟩:=vO hb0 P ky hk hk';have B0:=hb0.mono hN;obtain ⟨x,hx⟩:=ah (w.heap.size);rw [hx] at kx;obtain ⟨U,hU⟩:=ah (rX (V,L,r) (a,b));rw [hU] at hinv ⊢;unfold rX at hU;simp only at hU;obtain ⟨m,jO⟩:=ah (a % 12);have ht:Int.tmod a 12=m:=by rw [Int.tmod_eq_emod_of_nonneg ha.1];exact jO
 rw [jO] at hU hmm;have hpl:=h.inv.Dt;clear h jO P ky hk hk' hb0;rw [if_neg zo,if_neg zo,if_neg zo,if_neg zo,if_pos zo] at hU;obtain ⟨pp,Ii⟩:=ah (uO r b);rw [Ii] at hU hpr;obtain ⟨rm,hrm,hrz⟩:∃rm,Int.tmod pp 16=rm/\pp % 16=rm:=⟨_,rfl,by rw [Int.tmod_eq_emod_of_nonneg hpr.1]⟩;rw [hrz] at hU;have axE:0<=rm/\rm<16:=zo;clear hrz;obtain ⟨q,hq⟩:=ah (pp - rm);rw [hq] at hU;have uV:=ae (λW h=>VW bs q V W h);have wC:=ae (λW h=>WJ N ts q V W h hG);unfold joC at hU;obtain ⟨J,hJ⟩:=ah (Go.Pol.dY V q);rw [hJ] at uV wC hU;obtain ⟨je,jV⟩:=J;simp only at uV wC hU;have HSp:=ae (λW h=>RP bs q jV W h);have HSr:=ae (λW h=>Sj N ts q jV W h);obtain ⟨K,hK⟩:=ah (jU jV q);rw [hK] at HSp HSr hU;obtain ⟨ke,kV⟩:=K;simp only at HSp HSr hU;subst hmm;go_enter func9,ntmps9;go_upto_region 1 with fail
 generalize w.alloc _=w0 at *;try simp only [hx]
 have cx:=kx.cell;go_wp2_with fail;refine (nX y _ _ _ _ r r _ _ b w0 qB).zr λw1 hc1=>?_
 obtain ⟨P1,pO,mE,hk1,hq1⟩:=lM hc1 P0 qB kx hk0 hq0;have B1:=B0.trans (hc1.mono (by have:=B0.size;omega));have cx1:=mE.cell;clear P0 qB kx hk0 hq0 B0 cx hc1;rw [Ii];have cy1:=pO.cell;clear hJ hK Ii;go_wp2_with fail;try rw [hq]
 refine (uV.out w1 P1.sys).zr λw2 h2'=>?_
 have T2:=aR.iX P1.sys P1.eO h2';have P2:=P1.prog T2;have jA:=T2.blk P1.sys pO zd zd;have gY:=T2.blk P1.sys mE zd zd;have hk2:=T2.kept P1.sys hk1;have hq2:=T2.kept P1.sys hq1;have B2:=B1.trans (P1.below T2 (Nat.le_trans hN B1.size));have cy2:=jA.cell;clear P1 pO mE hk1 hq1 B1 T2;clear cy1;go_wp2_with fail;try rw [hq]
 refine (wC.out w2 P2.ref).zr λw3 h3'=>?_
 have T3:=bO.iX P2.ref P2.wy h3';have P3:=P2.GZ T3;have gT:=T3.blk P2.ref jA zd zd;have lH:=T3.blk P2.ref gY zd zd;have hk3:=T3.kept P2.ref hk2;have hq3:=T3.kept P2.ref hq2;have B3:=B2.trans (P2.yl T3 (Nat.le_trans hN B2.size));have ED:=gT.cell;clear P2 jA gY hk2 hq2 B2 T3;clear cy2;by_cases hj:je=8
 case neg =>
  have hj':=lV hj;rw [if_neg hj] at hU;subst hU;clear hj ED;exact ak1
 subst hj;rw [if_pos rfl] at hU;subst hU;go_wp2_with fail;try rw [hq]
 refine (HSp.out w3 P3.sys).zr λw4 h4'=>?_
 have T4:=aR.iX P3.sys P3.eO h4';have P4:=P3.prog T4;have nH:=T4.blk P3.sys gT zd zd;have uB:=T4.blk P3.sys lH zd zd;have hk4:=T4.kept P3.sys hk3;have hq4:=T4.kept P3.sys hq3;have B4:=B3.trans (P3.below T4 (Nat.le_trans hN B3.size));have cy4:=nH.cell;clear P3 gT lH hk3 hq3 B3 T4;clear ED;go_wp2_with fail;try rw [hq]
 refine (HSr.out w4 P4.ref).zr λw5 h5'=>?_
 have T5:=bO.iX P4.ref P4.wy h5';have P5:=P4.GZ T5;have qA:=T5.blk P4.ref nH zd zd;have pK:=T5.blk P4.ref uB zd zd;have hk5:=T5.kept P4.ref hk4;have yH:=T5.kept P4.ref hq4;have B5:=B4.trans (P4.yl T5 (Nat.le_trans hN B4.size));have cy5:=qA.cell;clear P4 nH uB hk4 hq4 B4 T5;clear cy4 cy5;exact ak2
theorem abk (N y bs bb ts tb:Nat) (R:List Ru) (S:Vm×List Nd×Cr) (a b:Int) (w:World) (h:gI w N y bs bb ts tb R S) (hN:N<=w.heap.size) (ha:0<=a/\a<=255) (hb1 : -9223372036854775808<=b) (hb2:b<=9223372036854775807) :
  Calls prog 9 #[zP y,.agg #[.int .u8 a,zI b]] w λe w'=>e= .returned (.bool true)/\gI w' N y bs bb ts tb R (rX S (a,b))/\Below N w w':=by
 obtain ⟨V,L,r⟩:=S;have hm:0<=a % 12/\a % 12<12:=zo;by_cases h1:a % 12<4
 ·exact MW N y bs bb ts tb R V L r a b w h hN ha zo
 by_cases h2:a % 12<6
 ·exact Ik N y bs bb ts tb R V L r a b w h hN ha zo
 by_cases h3:a % 12<8
 ·exact Lf N y bs bb ts tb R V L r a b w h hN ha zo hb1 hb2
 by_cases h4:a % 12=8
 ·exact Lh N y bs bb ts tb R V L r a b w h hN ha h4
 by_cases h5:a % 12=9
 ·exact MX N y bs bb ts tb R V L r a b w h hN ha h5
 by_cases h6:a % 12=10
 ·exact Lj N y bs bb ts tb R V L r a b w h hN ha h6
 ·exact Lg N y bs bb ts tb R V L r a b w h hN ha zo
end Go.Proofs.YtlgcpjhimomiaaaGreat
