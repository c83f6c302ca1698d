/- Texts RWalkO, RWalkP, RWalkQ. -/
import Derived.Test.YtlgcpjhimomiaaaGreatO15
set_option maxRecDepth 100000
set_option maxHeartbeats 12800000
namespace Go.Pol
open Go Go.RowKit Go.Proofs.Tryz
theorem Yf {K:List Sp} (hK:Can K) {a:Int} (ha:a<=1024) (k:Nat):dz (λj=>mem (j:Int) K) 0 a true k=mem (k:Int) (setOf (K++bJ 0 a)):=by
 rw [Ko hK (mF (Int.le_refl 0) ha),wX];unfold dz;by_cases h:(k:Int)<a
 ·rw [if_pos ⟨zo,h⟩,decide_eq_true zo,decide_eq_true h];simp
 ·rw [if_neg (λe=>h e.2),decide_eq_false h];simp
theorem Uz (n:Nat) (V:Vm) (L:List Nd) (K:List Sp) (e:Int) (xa xb xn:Int):dA n (V,L,K,e) (xa,xb,xn)=if (bK V xa xb 3 2 1).1=0 then ((bK V xa xb 3 2 1).2,(jb L n xb).2,az K (aZ [(xn,xb)] (0,1024)),e) else ((bK V xa xb 3 2 1).2,L,K,if e=0 then (bK V xa xb 3 2 1).1 else e):=rfl
end Go.Pol
namespace Go.Proofs.YtlgcpjhimomiaaaGreat
open Go Go.Proofs Go.RowKit Go.Pol Go.Shelf Tryz
attribute [local go_sem] Oper.semAt_some aC au aB ai
theorem akT {P:Prop} (h:P:=by
 go_wp2_with fail;change bodyPost _ _ _ _ _ (aP w9 (w.heap.size+1) ⟨a0,j,f,bk,ev,nn,lv,Kt,true⟩ (.slice At mt yE));have aX:=aK dX ⟨a0,j,f,bk,ev,nn,lv,Kt,true⟩ (.slice At mt yE);have F9:=aL w9 (w.heap.size+1) ⟨a0,j,f,bk,ev,nn,lv,Kt,true⟩ (.slice At mt yE);generalize aP w9 (w.heap.size+1) ⟨a0,j,f,bk,ev,nn,lv,Kt,true⟩ (.slice At mt yE)=w9 at *;dsimp only [aj] at aX;have di:=aX.cell;refine bodyPost_ret (v:=.tuple #[.agg (aj ⟨a0,j,f,bk,ev,nn,lv,Kt,true⟩ (.slice At mt yE)),zI je]) (by simp [results,results47,go_sem,di,aj]) rfl ?_;have T9:=T4.fresh F9 hlt (λk hk=>by subst hk;omega) (λk hk=>by subst hk;exact ⟨_,_,dX,zd,zd⟩);exact ⟨_,rfl,⟨At,yE,by rw [hmt.out],by rw [hmt.out];exact hct,Zz,hk4.far F9 (λg cs hg e=>by have e:g=w.heap.size+1:=e;subst e;exact dX.ne hg zd)⟩,T9⟩):P:=h
theorem Qz (B bs bb:Nat) (V:Vm) (L:List Nd) (a0 nb:Nat) (f bk ev:Int) (nn a:Nat) (K:List Sp) (cl:Bool) (A:Option Addr) (m cap:Nat) (w:World) (hV:bn w B bs V) (hB:ed w B bb L) (hO:bf L) (hnl:nn<L.length) (hm:K.length=m) (hcap:m<=cap) (hcm:cap<=maxLen) (hk:KeptAt w A K) (hok:NV ⟨a0,nb,f,bk,ev,nn,a,K,cl⟩) :
  Calls prog 47 #[zP bs,zP bb,.agg (aj ⟨a0,nb,f,bk,ev,nn,a,K,cl⟩ (.slice A m cap))] w λe w'=>∃v,e= .returned (.tuple #[v,zI (dI V L ⟨a0,nb,f,bk,ev,nn,a,K,cl⟩).2.1])/\Dc (dI V L ⟨a0,nb,f,bk,ev,nn,a,K,cl⟩).1 w' v/\bO B bs bb (dI V L ⟨a0,nb,f,bk,ev,nn,a,K,cl⟩).2.2.1 (dI V L ⟨a0,nb,f,bk,ev,nn,a,K,cl⟩).2.2.2 w w':=by
 have hr:=hk.ru;have hlt:=hV.lt;have hp:dO (a0:Int) nb f bk ev:=hok.plan;have hab:a0+nb<=1024:=by have:=hp.Cv;have:=hp.n1;omega
 have jC:Go.Pol.Can K:=hok.can;have hz:bQ (a0:Int) nb f bk ev=0:=bR.2 hp;have hs1:aG (ay (a0:Int) nb f bk ev)<=1024:=(lL hp).2;have hck:bq ⟨a0,nb,f,bk,ev,nn,a,K,cl⟩=0:=fw.2 hok;have hal:a<=1024:=by
  have h1:(a:Int)<=pJ ⟨a0,nb,f,bk,ev,nn,a,K,cl⟩:=hok.Ff;have h2:=AZ (r:=⟨a0,nb,f,bk,ev,nn,a,K,cl⟩) hp;omega
 have HK:=ae (λW h=>iC ⟨a0,nb,f,bk,ev,nn,a,K,cl⟩ A cap W (by simp only;omega) hcm h);have nV:=ae (λW h=>qy ⟨a0,nb,f,bk,ev,nn,a,K,cl⟩ A cap W h jC);rw [hck] at HK;obtain ⟨G,hG⟩:=ah (dI V L ⟨a0,nb,f,bk,ev,nn,a,K,cl⟩);rw [hG];unfold dI at hG;rw [if_neg (by rw [hck];simp)] at hG;simp only [Int.toNat_natCast] at hG;have Di:Go.Pol.Can (setOf (K++bJ 0 (a:Int))):=nO _;have hmA:∀k:Nat,k<1024->dz (λj=>mem (j:Int) K) 0 (a:Int) true k=mem (k:Int) (setOf (K++bJ 0 (a:Int))):=λk _=>Yf jC zo k
 have hset:∀f':Nat->Bool,(∀k:Nat,k<1024->f' k=mem (k:Int) (setOf (K++bJ 0 (a:Int))))->ji (pG (ay (a0:Int) nb f bk ev) f' 1024)=jf (bW (setOf (K++bJ 0 (a:Int))) 0 (ay (a0:Int) nb f bk ev)):=λf' h=>Ol Di hs1 (bN hp).1 (bN hp).2 h
 have hall:=(Dh Di hp).1;have Af:=Bb Di hp;generalize setOf (K++bJ 0 (a:Int))=AL at *;have akU:=ae hmA;obtain ⟨RL,Qv⟩:=ah (ay (a0:Int) nb f bk ev);obtain ⟨R,hR⟩:=ah (bW AL 0 RL);have wY:=ae (λ(W:World) (v:Value) (cs:Array Value) (hM:bC cs (dz (λj=>mem (j:Int) K) 0 (a:Int) true))=>K6 ⟨a0,nb,f,bk,ev,nn,a,K,cl⟩ v cs (dz (λj=>mem (j:Int) K) 0 (a:Int) true) W hM hz);simp only at wY;rw [hset _ hmA,Qv,hR] at wY;have X8:=ae (λ(W:World) (v:Value) (cs:Array Value) (g:Nat->Bool) (x:iO) (hM:bC cs g) (hx:Fv 0 RL x)=>Ey ⟨a0,nb,f,bk,ev,nn,a,K,cl⟩ v cs g x false W hM hz (by simp only;rw [Qv];exact hx) hs1);rw [Qv] at hG hall Af;rw [hR] at hG hall Af;have Qw:=ae hall;have Oo:=ae Af;have akV:=ae Di;clear hset hmA hall Af Qv hR hok hp hz hs1 jC Di hck;rw [hm] at HK nV;have hm':=ae hm;have hb0:=below_alloc2 (aQ w (.cells (aj ⟨(a0:Int),(nb:Int),f,bk,ev,(nn:Int),(a:Int),K,cl⟩ (.slice A m cap)) 28)) (.cells (aj bD zN) 28);have k0:=(af.new w 28 (aj ⟨(a0:Int),(nb:Int),f,bk,ev,(nn:Int),(a:Int),K,cl⟩ (.slice A m cap))).dV (.cells (aj bD zN) 28);have kR:=af.oG w (.cells (aj ⟨(a0:Int),(nb:Int),f,bk,ev,(nn:Int),(a:Int),K,cl⟩ (.slice A m cap)) 28) 28 (aj bD zN);have hr0:=ae (hr.on hb0);dsimp only [aj,bD] at k0 hb0 kR hr0 HK ⊢;have kZ:=ae hk;dsimp only [aj] at nV wY X8;have hBr:=ae hB;have X9:=ae hV;have wB:=ae hG;clear hr hk hm hB hV hG;go_enter func47,ntmps47;go_wp2_with fail;refine (HK.out _ hr0.out).zr λw1 hb1=>?_
 obtain ⟨k1,aT⟩:=bY hb1 k0 kR;have B1:=hb0.zt hb1;have hr1:=hr0.out.on hb1;obtain ⟨c1,jw⟩:=bB k1 aT;have jy:=aT.frozen;clear HK k0 kR hb0 hr0 hb1;go_upto_if 26 with fail
 go_cut [] from 27 to 87 (λW=>∃(Vt:Vm) (Lt:List Nd) (lv:Int) (Kt:List Sp) (At:Option Addr) (mt yE:Nat),Hid (((gP Vt ⟨a0,nb,f,bk,ev,nn,lv,Kt,true⟩).1,(gP Vt ⟨a0,nb,f,bk,ev,nn,lv,Kt,true⟩).2.1,(gP Vt ⟨a0,nb,f,bk,ev,nn,lv,Kt,true⟩).2.2,Lt)=G)/\af W w.heap.size 28 (aj ⟨a0,nb,f,bk,ev,nn,lv,Kt,true⟩ (.slice At mt yE))/\af W (w.heap.size+1) 28 (aj bD zN)/\bO B bs bb Vt Lt w W/\KeptAt W At Kt/\Hid (Kt.length=mt)/\mt<=yE/\yE<=maxLen)
 case first =>
  cases cl with
  | true =>
   have hG2:=wB.out;rw [if_pos rfl] at hG2;have T1:=bO.below X9.out hBr.out B1;go_wp2_with fail;go_meet
   case rel=>exact ⟨V,L,(a:Int),K,A,m,cap,ae hG2,k1,aT,T1,kZ.out.call B1,hm',hcap,hcm⟩
  | false =>
   have hG2:=wB.out;rw [if_neg zs] at hG2;have wB:=ae hG2;clear hG2;go_wp2_with fail;refine (nV.out _ hr1).mono ?_;rintro e w4 ⟨cs,rfl,nE,hb4⟩;have hb5:=aQ w4 (.cells zeroCells189 189);have kH:=af.new w4 189 zeroCells189;have k4:=(k1.call hb4).call hb5;have dX:=(aT.call hb4).call hb5;have B4:=(B1.zt hb4).trans (hb5.mono (by have:=B1.size;have:=hb4.size;omega));have Ya:=ik.size;have hsz:=nE.size;have hone:=nE.one;obtain ⟨dd,hd⟩:=ah (w4.heap.size);have hwd:w.heap.size+2<=dd:=by have h1:=aT.lt;have h2:=hb4.size;omega
   rw [hd] at kH;clear hb5 hb4 k1 aT B1 c1 jw jy hr1 nV;go_upto_region 6 with (refine wpList_store_mid rfl 189 (.tmp 9) (.tmp 28) rfl dd 0 cs rfl rfl (lN cs _ _ dd hsz Ya kH).2.2 (by rw [hsz];kernel_rfl) hone ?_)
   obtain ⟨yh,F2,_⟩:=lN cs _ _ dd hsz Ya kH;have k5:=F2.blk k4 zo;have nA:=F2.blk dX zo;have B5:=B4.trans (F2.below (by have:=B4.size;omega) (λk hk e=>by omega));generalize (w4.alloc _).setCells dd 0 cs.toList=w5 at *;clear kH k4 dX B4 F2 hone Ya hsz hd;have hM0:bC cs (dz (λj=>mem (j:Int) K) 0 ((0:Nat):Int) true):=nE.congr (λp _=>by unfold dz;rw [if_neg zo]);go_wp2_with fail
   go_loopw [10] (λv10 wr=>∃(i:Nat) (ps:Array Value),v10 = zI i/\i<=a/\af wr w.heap.size 28 (aj ⟨a0,nb,f,bk,ev,nn,a,K,false⟩ (.slice A m cap))/\af wr (w.heap.size+1) 28 (aj bD zN)/\af wr dd 189 ps/\bC ps (dz (λj=>mem (j:Int) K) 0 (i:Int) true)/\Below w.heap.size w wr) (λv _=>a - (intOf v).toNat)
   case atStart=>exact ⟨0,cs,rfl,zo,k5,nA,yh,hM0,B5⟩
   case round =>
    clear k5 nA yh hM0 B5 nE;obtain ⟨i,ps,rfl,hia,k6,oK,Bz,hP,B6⟩:=hrel;dsimp only [aj,bD] at k6 oK;have c6:=k6.cell;by_cases asP:i<a
    ·have d1:decide ((i:Int)<(a:Int))=true:=by rw [decide_eq_true_eq];omega
     have hi:i<1024:=zo;have hold:=(Bz.cell i).trans (hP.at_ i hi);have fM:=Bz.frozen;have hM2:=ae (hP.set (g:=dz (λj=>mem (j:Int) K) 0 ((i+1:Nat):Int) true) i hi true (by rw [ko _ _ i true zo,if_pos rfl]) (λj hj=>by rw [ko _ _ i true zo,if_neg hj]));generalize dz (λj=>mem (j:Int) K) 0 (i:Int) true i=b0 at hold;have F:ag (λk=>k=dd) wr (wr.setCell ⟨dd,i,none⟩ (.bool true)):=ag.setCell (T:=λk=>k=dd) (p:=⟨dd,i,none⟩) (ag.refl _ _) (λ_=>rfl) _;have sF:=B6.size;clear hP;go_wp2_with fail;go_roundw
     case rel=>exact ⟨i+1,_,by go_num,zo,F.blk k6 zo,F.blk oK zo,Bz.aM i (.bool true),hM2.out,B6.trans (F.below zo (λk hk e=>by omega))⟩
     case measure=>exact zm
    obtain rfl:i=a:=zo;have d1:decide ((i:Int)<(i:Int))=false:=by rw [decide_eq_false_iff_not];omega
    have Ut:=hP.size;have Uu:=ae (λW=>wY.out W (.slice A m cap) ps hP);have hMA:=ae (hP.congr (λk hk=>akU.out k hk));clear wY hP asP
    go_wp2_with (refine wpList_load_mid rfl 189 (.tmp 9) rfl dd 0 rfl ps.toList _ (dZ Bz) underlying189 rfl (by rw [Array.length_toList,Ut];kernel_rfl) ?_;rw [Array.toArray_toList])
    refine (Uu.out _).mono ?_;rintro e w8 ⟨Ar,asI,rfl,hkR,hlR,hcR,rU⟩;have T8:=(bO.below X9.out hBr.out B6).aU rU;obtain ⟨k8,Qr,MR⟩:=mY rU k6 oK Bz;clear B6 k6 oK Bz c6 Uu rU Ut;have G5:=ae (Az R);obtain ⟨rl,hrl⟩:=ah (R.length);rw [Az,hrl] at hlR ⊢;have G6:=ae hrl;have hrm:rl<=maxLen:=zo;unfold maxLen at hrm;clear hrl;go_wp2_with fail
    go_loopw [8,12,13] (λv8 v12 v13 wr=>∃(j:Nat) (z0:Int) (Vi:Vm) (Li:List Nd) (Ki:List Sp) (ei:Int) (MU:Array Value),v8 = zI z0/\v12 = zI ei/\v13 = zI j/\j<=rl/\Hid ((R.take j).foldl (dA nn) (V,L,AL,0)=(Vi,Li,Ki,ei))/\Hid (bf Li)/\nn<Li.length/\Go.Pol.Can Ki/\af wr w.heap.size 28 (aj ⟨a0,nb,f,bk,ev,nn,i,K,false⟩ (.slice A m cap))/\af wr (w.heap.size+1) 28 (aj bD zN)/\af wr dd 189 MU/\Hid (bC MU (λk=>mem (k:Int) Ki))/\bO B bs bb Vi Li w wr/\KeptAt wr Ar (jf R)) (λ_ _ v _=>rl - (intOf v).toNat)
    case atStart=>exact ⟨0,0,V,L,AL,0,ps,rfl,rfl,rfl,zo,ae (by rw [List.take_zero];rfl),ae hO,hnl,akV.out,k8,Qr,MR,hMA,T8,hkR⟩
    case round =>
     clear k8 Qr MR T8 hkR hMA;obtain ⟨j,z0,Vi,Li,Ki,ei,MU,rfl,rfl,rfl,hj,hfo,hOi,hni,Qm,k9,aX,Qx,ML,T9,oV⟩:=hrel;dsimp only [aj,bD] at k9 aX;by_cases hjr:j<rl
     ·have d1:decide ((j:Int)<(rl:Int))=true:=by rw [decide_eq_true_eq];omega
      have hjR:j<R.length:=by rw [G6.out];exact hjr
      obtain ⟨rb,ro,rfl,hrb,q5,q6⟩:=oV.ru.at_' (k:=j) (by rw [G5.out];exact hjR);have hxm:R.getD j (0,0,0)∈R:=by rw [List.getD_eq_getElem?_getD,List.getElem?_eq_getElem hjR];exact List.getElem_mem hjR
      have hst:=Uq nn R j hjR (V,L,AL,0);rw [hfo.out] at hst;have hrun:=(Qw.out _ hxm).1;have kK:=Oo.out _ hxm;rw [ma] at q5 q6;obtain ⟨x,Yb⟩:=ah (R.getD j (0,0,0));rw [Yb] at q5 q6 hst hrun kK;obtain ⟨xa,xb,xn⟩:=x;have Es:=ae Yb;rw [Uz] at hst;simp only at q5 q6 kK;have oq:=Can.one kK;have wH:=av.1 kK;simp only at wH;have j5:=ae hst;have e1:=λx:Ext wr=>x.cell q5
      have e2:=λx:Ext wr=>x.cell q6
      clear hst Yb hxm hfo;go_upto_region 15 with fail
      refine df 11 zk zk ?_;simp only [List.take_succ_cons,List.take_zero,List.drop_succ_cons,List.drop_zero]
      repeat (go_big_quiet_step (fail))
      refine wpQuiet_nil ?_;intro z;have Tz:=T9.aU z.le;have kz:=k9.call z.le;have EA:=aX.call z.le;have Lc:=Qx.call z.le;have hkz:=oV.call z.le;have HD:=ae (um B bs xa xb Vi z.w Tz.sys);clear q5 q6 e1 e2 T9 k9 aX Qx oV;go_wp2_with fail;refine HD.out.zr λw9 h9=>?_
      have S9:=bO.iX Tz.sys Tz.eO h9;have qx:=Tz.trans S9;have k12:=S9.blk Tz.sys kz zd zd;have AB:=S9.blk Tz.sys EA zd zd;have yD:=S9.blk Tz.sys Lc zd zd;have sj:=S9.kept Tz.sys hkz;clear h9 S9 Tz kz EA Lc hkz HD;obtain ⟨J,hJ⟩:=ah (bK Vi xa xb 3 2 1);rw [hJ] at j5 qx;simp only [hJ];obtain ⟨je,jV⟩:=J;simp only at j5 qx ⊢;have hst:=j5.out;clear hJ j5;by_cases hj0:je=0
      ·subst hj0
       rw [if_pos rfl] at hst;obtain ⟨g5,o5,Yc,hg5,q5,q6⟩:=sj.ru.at_' (k:=j) (by rw [G5.out];exact hjR);cases Yc;rw [ma,Es.out] at q5 q6;simp only at q5 q6;have Uv:=ae (λW h=>Dm B bb nn xb Li W h hOi.out hni);have hGo:=ae (sU hOi.out hni xb);have WU:=qj Li nn xb;obtain ⟨GV,hGV⟩:=ah (jb Li nn xb);rw [hGV] at Uv hst hGo WU;obtain ⟨ge,gL⟩:=GV;simp only at Uv hst hGo WU;have j5:=ae hst;have e0:=λx:Ext w9=>(x.blk k12).cell
       have e1:=λx:Ext w9=>x.cell q5
       have e2:=λx:Ext w9=>x.cell q6
       clear hst hGV;go_upto_region 17 with fail
       refine df 8 zk zk ?_;simp only [List.take_succ_cons,List.take_zero,List.drop_succ_cons,List.drop_zero]
       repeat (go_big_quiet_step (fail))
       refine wpQuiet_nil ?_;intro z2;have Tz:=qx.aU z2.le;have kz:=k12.call z2.le;have EA:=AB.call z2.le;have Lc:=yD.call z2.le;have hkz:=sj.call z2.le;clear q5 q6 e0 e1 e2 qx k12 AB yD sj;go_wp2_with fail;refine (Uv.out _ Tz.eO).zr λQk h13=>?_
       have S13:=bO.mU Tz.sys h13;have Ql:=Tz.trans S13;have k13:=S13.blk Tz.sys kz zd zd;have Ux:=S13.blk Tz.sys EA zd zd;have Oq:=S13.blk Tz.sys Lc zd zd;have yC:=S13.kept Tz.sys hkz;clear h13 S13 Tz kz EA Lc hkz Uv;obtain ⟨g5,o5,Yc,hg5,q5,q6⟩:=yC.ru.at_' (k:=j) (by rw [G5.out];exact hjR);cases Yc;rw [ma,Es.out] at q5 q6;simp only at q5 q6;have e0:=λx:Ext Qk=>(x.blk k13).cell
       have e1:=λx:Ext Qk=>x.cell q5
       have e2:=λx:Ext Qk=>x.cell q6
       have xx:=ML.out.size;have hld:=λzz:Ext Qk=>run_loadVar_mid (P:=prog) zz.w dd 0 189 MU.toList _ (dZ (zz.blk Oq)) underlying189 rfl (by rw [Array.length_toList,xx];kernel_rfl)
       simp only [Array.toArray_toList] at hld;have HMx:=ae (λW=>X8.out W (.slice A m cap) MU (λk=>mem (k:Int) Ki) (xa,xb,xn) ML.out hrun);have EC:=ae hld;clear hld;go_upto_region 18 with fail
       refine df 6 zk zk ?_;simp only [List.take_succ_cons,List.take_zero,List.drop_succ_cons,List.drop_zero];go_big_quiet_step (fail);refine l9 (.tmp 9) 189 ⟨dd,0,none⟩ (.agg MU) rfl rfl rfl (by rintro _ ⟨zz,rfl⟩;exact EC.out zz) ?_;simp only [Act.put,List.setIfInBounds_toArray,List.set_cons_zero,List.set_cons_succ]
       repeat (go_big_quiet_step (fail))
       refine wpQuiet_nil ?_;intro z3;have Dr:=Ql.aU z3.le;have k14:=k13.call z3.le;have Uy:=Ux.call z3.le;have G7:=Oq.call z3.le;have Am:=yC.call z3.le;clear q5 q6 e0 e1 e2 Ql k13 Ux Oq yC EC;go_wp2_with fail;refine (HMx.out _).mono ?_;rintro e w15 ⟨cs',rfl,Ot,afT⟩;have KZ:=Dr.aU afT;obtain ⟨k15,Zy,Ld,Ao⟩:=vO afT k14 Uy G7 Am;have Yg:=Ot.size;have ahO:=Ot.one;clear Dr k14 Uy G7 Am afT HMx
       go_wp2_with (refine wpList_store_mid rfl 189 (.tmp 9) (.tmp 75) rfl dd 0 cs' rfl rfl (lN cs' _ _ dd Yg xx Ld).2.2 (by rw [Yg];kernel_rfl) ahO ?_)
       obtain ⟨asR,F16,_⟩:=lN cs' _ _ dd Yg xx Ld;have k16:=F16.blk k15 zo;have asS:=F16.blk Zy zo;have T16:=KZ.fresh F16 hlt (λk hk=>by subst hk;omega) (λk hk=>by subst hk;exact ⟨_,_,Ld,zd,zd⟩);have Zt:=Ao.far F16 (λg cs hg e=>by have e:g=dd:=e;subst e;exact Ld.ne hg zd);have asT:=ae (Ot.congr (λq _=>XX Qm oq q));generalize w15.setCells dd 0 cs'.toList=w16 at *;clear KZ k15 Zy Ld Ao F16 Ot;go_roundw
       case rel=>exact ⟨j+1,_,jV,gL,_,ei,cs',rfl,rfl,by go_num,zo,j5,hGo,by rw [WU];exact hni,qo Qm oq,k16,asS,asR,asT,T16,Zt⟩
       case measure=>exact zm
      have hj1:=lV hj0;rw [if_neg hj0] at hst;by_cases he0:ei=0
      ·subst he0
       rw [if_pos rfl] at hst;have j5:=ae hst;clear hst hj0;go_wp2_with fail;go_roundw
       case rel=>exact ⟨j+1,_,jV,Li,Ki,je,MU,rfl,rfl,by go_num,zo,j5,hOi,hni,Qm,k12,AB,yD,ML,qx,sj⟩
       case measure=>exact zm
      ·have he1:=lV he0
       rw [if_neg he0] at hst;have j5:=ae hst;clear hst hj0 he0;go_wp2_with fail;go_roundw
       case rel=>exact ⟨j+1,_,jV,Li,Ki,ei,MU,rfl,rfl,by go_num,zo,j5,hOi,hni,Qm,k12,AB,yD,ML,qx,sj⟩
       case measure=>exact zm
     obtain rfl:j=rl:=zo;have d1:decide ((j:Int)<(j:Int))=false:=by rw [decide_eq_false_iff_not];omega
     have afV:=hfo.out;rw [List.take_of_length_le (by rw [G6.out];omega)] at afV;have hG:=wB.out;rw [afV] at hG;simp only at hG;have xx:=ML.out.size;have pF:=lq MU _ wr ML.out;rw [Un Qm] at pF;clear hfo afV wB oV
     go_wp2_with (refine wpList_load_mid rfl 189 (.tmp 9) rfl dd 0 rfl MU.toList _ (dZ Qx) underlying189 rfl (by rw [Array.length_toList,xx];kernel_rfl) ?_;rw [Array.toArray_toList])
     refine pF.mono ?_;rintro e wq ⟨Aq,cq,rfl,hkq,hlq,hcq,hbq⟩;obtain ⟨mq,hmq⟩:=ah (Ki.length);rw [hmq] at hlq;have hmt:=ae hmq;have hct:=hlq;have Zz:=hcq;obtain ⟨kq,Bw⟩:=bY hbq k9 aX;have Tq:=T9.aU hbq;have cqx:=kq.cell;have fqx:=kq.frozen;have F4:=((ag.refl (λk=>k=w.heap.size) wq).setCell (p:=⟨w.heap.size,6,none⟩) (λ_=>rfl) (zI 0)).setCell (p:=⟨w.heap.size,7,none⟩) (λ_=>rfl) (.slice Aq mq cq);have k10:=(kq.aM 6 (zI 0)).aM 7 (.slice Aq mq cq);have lJ:=F4.blk Bw zo;have wo:=Tq.fresh F4 hlt (λk hk=>by subst hk;omega) (λk hk=>by subst hk;exact ⟨_,_,kq,zd,zd⟩);have hk10:=hkq.far F4 (λg cs hg e=>by have e:g=w.heap.size:=e;subst e;exact kq.ne hg zd);simp only [List.setIfInBounds_toArray,List.set_cons_zero,List.set_cons_succ] at k10;rw [hmq];clear k9 aX Qx T9 pF ML hmq hkq;go_upto_region 22 with fail
     generalize (wq.setCell ⟨w.heap.size,6,none⟩ _).setCell ⟨w.heap.size,7,none⟩ _=iV at *;obtain ⟨c10,asU⟩:=bB k10 lJ;obtain ⟨asV,f10⟩:=tu lJ k10;clear kq Bw Tq cqx fqx F4;by_cases he0:ei=0
     case neg =>
      have he1:=gJ he0;rw [if_pos he0] at hG;subst hG;clear he0;go_wp2_with fail;change bodyPost _ _ _ _ _ (aP iV (w.heap.size+1) ⟨a0,nb,f,bk,ev,nn,0,Ki,false⟩ (.slice Aq mq cq));have aX:=aK lJ ⟨a0,nb,f,bk,ev,nn,0,Ki,false⟩ (.slice Aq mq cq);have F9:=aL iV (w.heap.size+1) ⟨a0,nb,f,bk,ev,nn,0,Ki,false⟩ (.slice Aq mq cq);generalize aP iV (w.heap.size+1) ⟨a0,nb,f,bk,ev,nn,0,Ki,false⟩ (.slice Aq mq cq)=w9 at *;dsimp only [aj] at aX;have di:=aX.cell;refine bodyPost_ret (v:=.tuple #[.agg (aj ⟨a0,nb,f,bk,ev,nn,0,Ki,false⟩ (.slice Aq mq cq)),zI ei]) (by simp [results,results47,go_sem,di,aj]) rfl ?_;have T9:=wo.fresh F9 hlt (λk hk=>by subst hk;omega) (λk hk=>by subst hk;exact ⟨_,_,lJ,zd,zd⟩);exact ⟨_,rfl,⟨Aq,cq,by rw [hmt.out],by rw [hmt.out];exact hct,Zz,hk10.far F9 (λg cs hg e=>by have e:g=w.heap.size+1:=e;subst e;exact lJ.ne hg zd)⟩,T9⟩
     subst he0;rw [if_neg zs] at hG;have F5:=(ag.refl (λk=>k=w.heap.size) iV).setCell (p:=⟨w.heap.size,8,none⟩) (λ_=>rfl) (.bool true);have kt:=k10.aM 8 (.bool true);have kRt:=F5.blk lJ zo;have Tt:=wo.fresh F5 hlt (λk hk=>by subst hk;omega) (λk hk=>by subst hk;exact ⟨_,_,k10,zd,zd⟩);have hkt:=hk10.far F5 (λg cs hg e=>by have e:g=w.heap.size:=e;subst e;exact k10.ne hg zd);simp only [List.setIfInBounds_toArray,List.set_cons_zero,List.set_cons_succ] at kt;clear lJ wo hk10 asU asV;have hGH:=ae hG;go_wp2_with fail;go_meet
     case rel=>exact ⟨Vi,Li,0,Ki,Aq,mq,cq,hGH,kt,kRt,Tt,hkt,hmt,hct,Zz⟩
 case rest =>
  obtain ⟨Vt,Lt,lv,Kt,At,mt,yE,hG0,kt,kRt,Tt,hkt,hmt,hct,Zz⟩:=hcut;have hG:=hG0.out;obtain ⟨wt,rfl⟩:∃wt,wt=wc:=⟨_,rfl⟩;dsimp only [aj,bD] at kt kRt;clear hG0 nV wY X8 wB Qw Oo akV akU X9 hBr kZ hO hnl;obtain ⟨SL,Ib⟩:=ah (qG Vt (a0:Int) (nb:Int));have Tj:=ae ((Uo Vt (a:=a0) (j:=nb) hab).symm.trans Ib);unfold gP at hG;simp only at hG;rw [Ib] at hG;obtain ⟨P,hP⟩:=ah (iP SL Vt);rw [hP] at hG;have hPH:=ae hP;have hGH:=ae hG;have hbg:=aQ wt (.cells zeroCells189 189);have kg:=af.new wt 189 zeroCells189;obtain ⟨kt1,akW⟩:=bY hbg kt kRt;have Tt1:=Tt.aU hbg;have akX:=hkt.call hbg;obtain ⟨gd,hgd⟩:=ah (wt.heap.size);have hgs:w.heap.size+2<=gd:=by have:=kRt.lt;omega
  rw [hgd] at kg;clear Ib hP hG hbg kt kRt Tt hkt;go_upto_region 26 with fail
  try simp only [hgd]
  generalize wt.alloc _=wg at *;have hZg:=ik;generalize zeroCells189=Zg at *;have hMg:bC Zg (Cg Vt a0 0):=hZg.congr (λp _=>by
   symm;unfold Cg;rw [Bool.and_eq_false_iff,Bool.and_eq_false_iff,decide_eq_false_iff_not,decide_eq_false_iff_not];exact .inl zo)
  have ct1:=kt1.cell;clear hZg hgd;go_wp2_with fail;clear ct1
  go_loopw [15] (λv15 wr=>∃(j:Nat) (ps:Array Value),v15 = zI ((a0+j:Nat):Int)/\j<=nb/\af wr w.heap.size 28 (aj ⟨a0,nb,f,bk,ev,nn,lv,Kt,true⟩ (.slice At mt yE))/\af wr (w.heap.size+1) 28 (aj bD zN)/\af wr gd 189 ps/\Hid (bC ps (Cg Vt a0 j))/\bO B bs bb Vt Lt w wr/\KeptAt wr At Kt) (λv _=>a0+nb - (intOf v).toNat)
  case atStart=>exact ⟨0,Zg,rfl,zo,kt1,akW,kg,ae hMg,Tt1,akX⟩
  case round =>
   clear kt1 akW kg hMg Tt1 akX;obtain ⟨j,ps,rfl,hj,k1,aT,Ig,hM1,T1,hk1⟩:=hrel;dsimp only [aj,bD] at k1 aT;have c1:=k1.cell;by_cases hjn:j<nb
   ·have d1:decide (((a0+j:Nat):Int)<(a0:Int)+(nb:Int))=true:=by rw [decide_eq_true_eq];omega
    obtain ⟨p,hp⟩:=ah (a0+j);have hp1:p<1024:=zo;obtain ⟨rcs,rA,rn,asY,hkb,hc,_⟩:=T1.sys.ex;have q0:=(hkb.cell p).trans (hc.kind p hp1);have hold:=(Ig.cell p).trans (hM1.out.at_ p hp1);have fG:=Ig.frozen;have hM2:=ae (hM1.out.set (g:=Cg Vt a0 (j+1)) p hp1 ((Vt.pg p).kind==3) (by rw [K7,if_pos hp.symm,hp]) (λq hq=>by rw [K7,if_neg zo]));generalize Cg Vt a0 j p=b0 at hold;generalize (Vt.pg p).kind=kd at *;rw [hp] at d1 ⊢;have F:ag (λk=>k=gd) wr (wr.setCell ⟨gd,p,none⟩ (.bool (kd==3))):=ag.setCell (T:=λk=>k=gd) (p:=⟨gd,p,none⟩) (ag.refl _ _) (λ_=>rfl) _;have T2:=T1.fresh F hlt (λk hk=>by subst hk;omega) (λk hk=>by subst hk;exact ⟨_,_,Ig,zd,zd⟩);have hk2:=hk1.far F (λg cs hg e=>by have e:g=gd:=e;subst e;exact Ig.ne hg zd);clear T1 hM1 hkb hc hk1;go_wp2_with fail;go_roundw
    case rel=>exact ⟨j+1,_,by rw [show a0+(j+1)=p+1 by omega];go_num,zo,F.blk k1 zo,F.blk aT zo,Ig.aM p (.bool (kd==3)),hM2,T2,hk2⟩
    case measure=>exact zm
   obtain rfl:j=nb:=zo;have d1:decide (((a0+j:Nat):Int)<(a0:Int)+(j:Int))=false:=by rw [decide_eq_false_iff_not];omega
   have asZ:=hM1.out.size;have pF:=lq ps _ wr hM1.out;rw [Tj.out] at pF;have axD:=ae (Eq.refl SL.length)
   go_wp2_with (refine wpList_load_mid rfl 189 (.tmp 14) rfl gd 0 rfl ps.toList _ (dZ Ig) underlying189 rfl (by rw [Array.length_toList,asZ];kernel_rfl) ?_;rw [Array.toArray_toList])
   refine pF.mono ?_;rintro e wq ⟨Aq,cq,rfl,hkq,hlq,hcq,hbq⟩;obtain ⟨k2,cK⟩:=bY hbq k1 aT;have T2:=T1.aU hbq;have hk2:=hk1.call hbq;obtain ⟨sl,hsl⟩:=ah (SL.length);rw [hsl] at hlq ⊢;have akY:=ae hsl;have hsm:sl<=maxLen:=zo;unfold maxLen at hsm;clear hsl k1 aT Ig hM1 T1 hk1 c1 pF;go_wp2_with fail
   go_loopw [17] (λv17 wr=>∃(i:Nat) (Vi:Vm),v17 = zI i/\i<=sl/\Hid (iP (SL.drop i) Vi=P)/\af wr w.heap.size 28 (aj ⟨a0,j,f,bk,ev,nn,lv,Kt,true⟩ (.slice At mt yE))/\af wr (w.heap.size+1) 28 (aj bD zN)/\bO B bs bb Vi Lt w wr/\KeptAt wr Aq SL/\KeptAt wr At Kt) (λv _=>sl - (intOf v).toNat)
   case atStart=>exact ⟨0,Vt,rfl,zo,ae (by rw [List.drop_zero];exact hPH.out),k2,cK,T2,hkq,hk2⟩
   case round =>
    clear k2 cK T2 hkq hk2;obtain ⟨i,Vi,rfl,hi,hpr,k3,fC,T3,hq3,hk3⟩:=hrel;dsimp only [aj,bD] at k3 fC;by_cases his:i<sl
    ·have d1:decide ((i:Int)<(sl:Int))=true:=by rw [decide_eq_true_eq];omega
     have hiS:i<SL.length:=by rw [akY.out];exact his
     obtain ⟨rb,ro,rfl,hrb,q5,q6⟩:=hq3.ru.at_' (k:=i) hiS;have G8:=hpr.out;rw [Go.Pol.drop_cons (0,0) SL i hiS,iP] at G8;generalize SL.getD i (0,0)=x at *;obtain ⟨xa,xb⟩:=x;simp only at q5 q6 G8;have ZA:=ae G8;have e1:=λx:Ext wr=>x.cell q5
     have e2:=λx:Ext wr=>x.cell q6
     clear hpr G8 hiS;go_upto_region 34 with fail
     refine df 11 zk zk ?_;simp only [List.take_succ_cons,List.take_zero,List.drop_succ_cons,List.drop_zero]
     repeat (go_big_quiet_step (fail))
     refine wpQuiet_nil ?_;intro z;have Tz:=T3.aU z.le;have kz:=k3.call z.le;have EA:=fC.call z.le;have hqz:=hq3.call z.le;have hkz:=hk3.call z.le;have HD:=ae (BS B bs xa xb Vi z.w Tz.sys);clear q5 q6 e1 e2 T3 k3 fC hq3 hk3;go_wp2_with fail;refine HD.out.zr λw9 h9=>?_
     have S9:=bO.iX Tz.sys Tz.eO h9;have T4:=Tz.trans S9;have k4:=S9.blk Tz.sys kz zd zd;have dX:=S9.blk Tz.sys EA zd zd;have hq4:=S9.kept Tz.sys hqz;have hk4:=S9.kept Tz.sys hkz;clear h9 S9 Tz kz EA hqz hkz HD;obtain ⟨J,hJ⟩:=ah (bK Vi xa xb 4 3 1);rw [hJ] at ZA T4;simp only [hJ];obtain ⟨je,jV⟩:=J;simp only at ZA T4 ⊢;have Ou:=ZA.out;obtain ⟨c4,XO⟩:=bB k4 dX;have XP:=dX.frozen;clear hJ ZA;by_cases hj0:je=0
     ·subst hj0
      rw [if_neg zs] at Ou;have as0:=ae Ou;clear Ou;go_wp2_with fail;go_roundw
      case rel=>exact ⟨i+1,jV,by go_num,zo,as0,k4,dX,T4,hq4,hk4⟩
      case measure=>exact zm
     have hj1:=gJ hj0;rw [if_pos hj0] at Ou;have hG2:=hGH.out;rw [<-Ou] at hG2;simp only at hG2;rw [if_pos hj0] at hG2;subst hG2;clear Ou hGH hj0;exact akT
    obtain rfl:i=sl:=zo;have d1:decide ((i:Int)<(i:Int))=false:=by rw [decide_eq_false_iff_not];omega
    have G8:=hpr.out;rw [List.drop_of_length_le (by rw [akY.out];omega)] at G8;have hG2:=hGH.out;rw [<-G8] at hG2;rw [show iP [] Vi=(0,Vi) from rfl] at hG2;simp only [ne_eq,not_true_eq_false,if_false] at hG2;have HD:=ae (BQ B bs (a0:Int) (j:Int) Vi wr T3.sys);obtain ⟨J,hJ⟩:=ah (bK Vi (a0:Int) (j:Int) 1 1 0);rw [hJ] at hG2 HD;obtain ⟨je,jV⟩:=J;simp only at hG2 HD;have hG3:=ae hG2;have c3:=k3.cell;clear hJ hG2 G8 hpr hGH;go_wp2_with fail;refine HD.out.zr λw9 h9=>?_
    have S9:=bO.iX T3.sys T3.eO h9;have T4:=T3.trans S9;have k4:=S9.blk T3.sys k3 zd zd;have dX:=S9.blk T3.sys fC zd zd;have hk4:=S9.kept T3.sys hk3;obtain ⟨c4,XO⟩:=bB k4 dX;have XP:=dX.frozen;have hG4:=hG3.out;clear h9 S9 T3 k3 fC hk3 hq3 c3 HD hG3;by_cases hj0:je=0
    ·subst hj0
     simp only [not_true_eq_false,if_false] at hG4;subst hG4;go_wp2_with fail;change bodyPost _ _ _ _ _ (aP w9 (w.heap.size+1) bD zN);have aX:=aK dX bD zN;have F9:=aL w9 (w.heap.size+1) bD zN;generalize aP w9 (w.heap.size+1) bD zN=w9 at *;dsimp only [aj] at aX;have di:=aX.cell;refine bodyPost_ret (v:=.tuple #[.agg (aj bD zN),zI 0]) (by simp [results,results47,go_sem,di,aj]) rfl ?_;have T9:=T4.fresh F9 hlt (λk hk=>by subst hk;omega) (λk hk=>by subst hk;exact ⟨_,_,dX,zd,zd⟩);exact ⟨_,rfl,⟨none,0,rfl,Nat.le_refl _,by unfold maxLen;omega,KeptAt.none _ _⟩,T9⟩
    have hj1:=gJ hj0;rw [if_pos hj0] at hG4;subst hG4;clear hj0;exact akT
theorem UC (B bs bb:Nat) (V:Vm) (L:List Nd) (r:Cr) (A:Option Addr) (cap:Nat) (w:World) (hV:bn w B bs V) (hB:ed w B bb L) (hO:bf L) (hnl:bq r=0->r.node.toNat<L.length) (hcap:r.kept.length<=cap) (hcm:cap<=maxLen) (hk:KeptAt w A r.kept) :
  Calls prog 47 #[zP bs,zP bb,.agg (aj r (.slice A r.kept.length cap))] w λe w'=>∃v,e= .returned (.tuple #[v,zI (dI V L r).2.1])/\Dc (dI V L r).1 w' v/\bO B bs bb (dI V L r).2.2.1 (dI V L r).2.2.2 w w':=by
 by_cases h0:bq r=0
 ·have hok:=fw.1 h0
  have hn:=hnl h0;have hn0:=hok.node.1;have hl0:=hok.C9;have hp0:=hok.plan.Cv;have hp1:=hok.plan.n0;obtain ⟨pg,n,f,bk,ev,node,live,K,cl⟩:=r;simp only at hn hn0 hl0 hcap hk hp0 hp1;obtain ⟨a0,rfl⟩:∃a0:Nat,pg=a0:=⟨pg.toNat,zo⟩;obtain ⟨nb,rfl⟩:∃nb:Nat,n=nb:=⟨n.toNat,zo⟩;obtain ⟨nn,rfl⟩:∃nn:Nat,node=nn:=⟨node.toNat,zo⟩;obtain ⟨a,rfl⟩:∃a:Nat,live=a:=⟨live.toNat,zo⟩;rw [Int.toNat_natCast] at hn;exact Qz B bs bb V L a0 nb f bk ev nn a K cl A _ cap w hV hB hO hn rfl hcap hcm hk hok
 have hr:=hk.ru;have HK:=ae (λW h=>iC r A cap W hcap hcm h);have hG:dI V L r=(r,bq r,V,L):=by unfold dI;rw [if_pos h0]
 rw [hG];generalize bq r=ck at *;obtain ⟨pg,n,f,bk,ev,node,live,K,cl⟩:=r;simp only at hcap hcm hr hk HK ⊢;obtain ⟨m,hm0⟩:=ah (K.length);rw [hm0] at hcap HK ⊢;have hm:=ae hm0;have hb0:=below_alloc2 (aQ w (.cells (aj ⟨pg,n,f,bk,ev,node,live,K,cl⟩ (.slice A m cap)) 28)) (.cells (aj bD zN) 28);have k0:=(af.new w 28 (aj ⟨pg,n,f,bk,ev,node,live,K,cl⟩ (.slice A m cap))).dV (.cells (aj bD zN) 28);have kR:=af.oG w (.cells (aj ⟨pg,n,f,bk,ev,node,live,K,cl⟩ (.slice A m cap)) 28) 28 (aj bD zN);have hr0:=ae (hr.on hb0);dsimp only [aj,bD] at k0 hb0 kR hr0 HK ⊢;have kZ:=ae hk;have h0':(ck != 0)=true:=by simpa using h0
 clear hm0 hr hk hnl hG h0;go_enter func47,ntmps47;go_wp2_with fail;refine (HK.out _ hr0.out).zr λw1 hb1=>?_
 obtain ⟨k1,aT⟩:=bY hb1 k0 kR;have B1:=hb0.zt hb1;have hr1:=hr0.out.on hb1;obtain ⟨c1,jw⟩:=bB k1 aT;have jy:=aT.frozen;clear HK k0 kR hb0 hr0 hb1;go_wp2_with fail;change bodyPost _ _ _ _ _ (aP w1 (w.heap.size+1) ⟨pg,n,f,bk,ev,node,live,K,cl⟩ (.slice A m cap));have aX:=aK aT ⟨pg,n,f,bk,ev,node,live,K,cl⟩ (.slice A m cap);have F9:=aL w1 (w.heap.size+1) ⟨pg,n,f,bk,ev,node,live,K,cl⟩ (.slice A m cap);have B9:=dG B1 (g:=(w.heap.size+1)) zo ⟨pg,n,f,bk,ev,node,live,K,cl⟩ (.slice A m cap);generalize aP w1 (w.heap.size+1) ⟨pg,n,f,bk,ev,node,live,K,cl⟩ (.slice A m cap)=w9 at *;dsimp only [aj] at aX;have di:=aX.cell;refine bodyPost_ret (v:=.tuple #[.agg (aj ⟨pg,n,f,bk,ev,node,live,K,cl⟩ (.slice A m cap)),zI ck]) (by simp [results,results47,go_sem,di,aj]) rfl ?_;exact Fj
theorem Yh (B:Nat) (A:Option Addr) (n cap:Nat) (l:List Ru) (w:World) (hn:l.length=n) (hz:A=none->cap=0) (hB:B<=w.heap.size) (hr:Rd w B A (fl iU l)) :
  Calls prog 29 #[.agg #[.slice A n cap]] w λe w'=>((iy l).2≠0/\e= .returned (.tuple #[.pointer none,zI (iy l).2])\/(iy l).2=0/\∃b,e= .returned (.tuple #[zP b,zI 0])/\bn w' B b (vS iM l)/\w.heap.size<=b)/\Below w.heap.size w w':=by
 have hb0:=aQ w (.cells #[.slice A n cap] 31);have k0:=af.new w 31 #[.slice A n cap];have c0:=k0.cell;have r0:=(hr.more hB).fB hb0;have HS:=ae (λW h=>Sb A n cap l W hn h);unfold JK at HS;have kZ:=ae hr;have Sr:=ae hn;have hzH:=ae hz;have hP:=ae (λ(h:(iy l).2=0)=>(show vS iM l={ iM with rf:=Pb l } by unfold vS;rw [if_pos h]));have uG:=ae (NL (l:=l));generalize (iy l).2=re at *;clear hr hn hz;by_cases h0:re=0
 case neg =>
  have d0:=gJ h0;have Qe:=ae h0;simp only [if_neg h0] at HS;clear h0;have hb2:=λ(w1:World) (B1:Below w.heap.size w w1)=>B1.alloc B1.size (.cells (aH zN (λ_=>0) (λ_=>0)).toArray 58)
  go_enter func29,ntmps29;go_wp2_with fail;refine (HS.out _ r0).zr λw1 hb1=>?_
  have B1:=hb0.zt hb1;have B2:=hb2 w1 B1;clear hb2 hb1 HS c0 k0;unfold aH at B2;unfold ic aH;go_wp2_with fail;go_ret2;exact ⟨.inl ⟨Qe.out,rfl⟩,B2⟩
 subst h0;simp only [if_true] at HS;go_enter func29,ntmps29;go_wp2_with fail;refine (HS.out _ r0).zr λw1 hb1=>?_
 have B1:=hb0.zt hb1;have hB2:=B1.alloc B1.size (.cells (aH (.slice A n cap) (λ_=>0) (λ_=>0)).toArray 58);have hzs:=zeroCells123_size;have hzz:=ac9;obtain ⟨zc,hzc⟩:=ah (zeroCells123);rw [hzc] at hzs hzz;have hne:¬zc=#[]:=λe=>by rw [e] at hzs;simp at hzs
 have hC:=ae (agR hzz (.slice A n cap));have kz:=af.new w1 58 (aH (.slice A n cap) (λ_=>0) (λ_=>0)).toArray;clear hzz c0 k0 HS r0;unfold aH at hB2 kz;unfold ic aH;go_upto_region 4 with fail
 generalize w1.alloc _=w2 at *;have cz:=kz.cell;have hB3:=hB2.alloc hB2.size (.cells (eX zc 66624 (aH (.slice A n cap) (λ_=>0) (λ_=>0))) 123);have kS:=af.new w2 123 (eX zc 66624 (aH (.slice A n cap) (λ_=>0) (λ_=>0)));have hbs:=hB2.size;go_wp2_with fail;go_ret2;refine ⟨⟨w2.heap.size,rfl,?_,hbs⟩,hB3⟩;rw [hP.out trivial];exact ⟨_,A,n,cap,kS,⟨hC.out.size,hC.out.kind,hC.out.bP,hC.out.fe,hC.out.rf⟩,⟨Sr.out,hzH.out⟩,kZ.out.vV (T:=λ_=>False) (ag.of_below hB3) (λ_ h=>h.elim),zo,uG.out trivial⟩
end Go.Proofs.YtlgcpjhimomiaaaGreat
