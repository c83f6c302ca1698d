/- Texts Lib, GLibR, GLibX, GSpecA, GLibS, GLibY, ZLib, ASpecA, GLibI. -/
import Derived.Below
import Derived.Laws.OwnMore
import Derived.Laws.MakeOwn
import Derived.Laws.CopyOwn
import Derived.Deep.RegionLaw
import Derived.Deep.AppendLies
import Derived.Deep.Draws
import Derived.Deep.QuietTactic
import Derived.BigQuiet
import Derived.Lib.Hide
import Derived.WalkKit
import Derived.WalkSpells
import Derived.WalkLawsBesides
import Derived.Maps.AppendAt
import Derived.StillTailTactics
import Derived.Deep.RegionHeld3
import Derived.Deep.DeepCutAuto
import Derived.Deep.DeepFit
import Derived.ChangeSame
import Derived.Deep.Slices
import Derived.Deep.Fields
import Derived.Lib.SmallJoins
import Derived.OpenShut
import Derived.ProofKit
import Derived.OpenVars
import Derived.JoinedOf
import Derived.RangeFuncNested
import Derived.RangeFuncBound
import Derived.RangeFuncCalls
import Derived.RangeFuncLeaves
import Derived.OwnWalkIn
import Derived.TacticsInMore
import Derived.LoopNIn
import Derived.LoopIn
import Derived.OrdersIn
import Derived.Laws.AppendOwn
namespace Go.Pol
theorem aQ (w:World) (o:Obj):Go.RowKit.Below w.heap.size w (w.alloc o):=(Go.RowKit.Below.refl w.heap.size w).alloc (Nat.le_refl _) o
theorem ae {p:Prop} (h:p):Go.RowKit.Hid p:=h
theorem ah {α:Sort _} (a:α):∃x,a=x:=⟨a,rfl⟩
open Go Go.RowKit
structure ZI
instance:CoeFun ZI (λ_=>Int->Value):=⟨λ_=>Value.int .i64⟩
def zI:ZI:=⟨⟩
structure ZP where b:Nat
instance (b:Nat):CoeDep ZP ⟨b⟩ Value:=⟨.pointer (some ⟨b,0,none⟩)⟩
abbrev zP (b:Nat):ZP:=⟨b⟩
structure ZN
instance:CoeOut ZN Value:=⟨λ_=>.slice none 0 0⟩
def zN:ZN:=⟨⟩
theorem zo {p:Prop} (h:p:=by omega):p:=h
theorem zk {p:Prop} (h:p:=by kernel_rfl):p:=h
theorem zd {p:Prop} (h:p:=by decide):p:=h
theorem zs {p:Prop} (h:p:=by simp):p:=h
theorem zm {p:Prop} (h:p:=by simp [intOf];omega):p:=h
theorem bU {p:Prop} [Decidable p] (h:p):decide p=true:=by simpa
theorem bV {p:Prop} [Decidable p] (h:¬p):decide p=false:=by simpa
theorem gJ {a b:Int} (h:¬a=b):(a != b)=true:=by simpa
theorem Ha {a b:Int} (h:a=b):(a != b)=false:=by simpa
theorem Hd {a b:Int} (h:a=b):(a==b)=true:=by simpa
theorem lV {a b:Int} (h:¬a=b):(a==b)=false:=by simpa
theorem QE {a:Bool} (h:¬a=true):a=false:=by simpa using h
theorem _root_.Go.RowKit.Below.zt {w a b:World} (h:Go.RowKit.Below w.heap.size w a) (k:Go.RowKit.Below a.heap.size a b):Go.RowKit.Below w.heap.size w b:=h.trans (k.mono h.size)
theorem _root_.Go.Calls.zr {P:Program} {f:FuncId} {args:Array Value} {w:World} {v:Value} {B:World->Prop} {R:Ending->World->Prop} (h:Calls P f args w λe w'=>e= .returned v/\B w') (k:∀w',B w'->R (.returned v) w'):Calls P f args w R:=h.mono λe w' h=>by rw [h.1];exact k w' h.2
theorem _root_.Go.CallsIn.zr {F:Fence} {n:Nat} {P:Program} {f:FuncId} {args:Array Value} {w:World} {v:Value} {B:World->Prop} {R:Ending->World->Prop} (h:CallsIn F n P f args w λe w'=>e= .returned v/\B w') (k:∀w',B w'->R (.returned v) w'):CallsIn F n P f args w R:=h.mono λe w' h=>by rw [h.1];exact k w' h.2
theorem iE {α:Type} (l:List α) (i:Nat) (a:α):l.toArray.setIfInBounds i a=(l.set i a).toArray:=List.setIfInBounds_toArray ..
theorem iF {α:Type} (a b:α) (l:List α):(a::l).set 0 b=b::l:=rfl
theorem iG {α:Type} (a b:α) (l:List α) (i:Nat):(a::l).set (i+1) b=a::l.set i b:=rfl
def Rd (w:World) (B:Nat) (A:Option Addr) (xs:List Value):Prop :=
 ∀k (h:k<xs.length),∃b o,A=some ⟨b,o,none⟩/\b<B/\w.cell? ⟨b,o+k,none⟩=some xs[k]
section
variable {w w':World} {B B':Nat} {A:Option Addr} {xs:List Value}
theorem Rd.keep (h:Rd w B A xs) (hk:∀p:Addr,p.block<B->w'.cell? p=w.cell? p):Rd w' B A xs:=λk hl=>by
 obtain ⟨b,o,e,hb,hc⟩:=h k hl;exact ⟨b,o,e,hb,(hk _ hb).trans hc⟩
theorem Rd.more (h:Rd w B A xs) (hB:B<=B'):Rd w B' A xs:=λk hl=>by
 obtain ⟨b,o,e,hb,hc⟩:=h k hl;exact ⟨b,o,e,zo,hc⟩
theorem Rd.below (h:Rd w B A xs) (hb:Below B w w'):Rd w' B A xs:=h.keep λ_ hp=>hb.cell hp
theorem Rd.nil:Rd w B A []:=λk h=>absurd h zs
end
def RI (w:World) (B:Nat) (A:Option Addr) (xs:List Int):Prop:=Rd w B A (xs.map (Value.int .i64))
section
variable {w w':World} {B B':Nat} {A:Option Addr} {xs:List Int}
theorem RI.at_ (h:RI w B A xs) {k:Nat} (hk:k<xs.length) :
  ∃b o,A=some ⟨b,o,none⟩/\b<B/\w.cell? ⟨b,o+k,none⟩=some (zI (xs.getD k 0)):=by
 obtain ⟨b,o,e,hb,hc⟩:=h k (by simpa using hk);refine ⟨b,o,e,hb,hc.trans ?_⟩;simp [List.getD_eq_getElem?_getD,hk]
theorem RI.below (h:RI w B A xs) (hb:Below B w w'):RI w' B A xs:=Rd.below h hb
theorem RI.more (h:RI w B A xs) (hB:B<=B'):RI w B' A xs:=Rd.more h hB
theorem RI.nil:RI w B A []:=Rd.nil
end
def RU (w:World) (B:Nat) (A:Option Addr) (us:List (Int×Int)):Prop :=
 ∀k,k<us.length->∃b o,A=some ⟨b,o,none⟩/\b<B/\w.cell? ⟨b,o+k*2,none⟩=some (zI (us.getD k (0,0)).1)/\w.cell? ⟨b,o+k*2+1,none⟩=some (zI (us.getD k (0,0)).2)
section
variable {w w':World} {B B':Nat} {A:Option Addr} {us:List (Int×Int)}
theorem RU.keep (h:RU w B A us) (hk:∀p:Addr,p.block<B->w'.cell? p=w.cell? p):RU w' B A us:=λk hl=>by
 obtain ⟨b,o,e,hb,hc,hd⟩:=h k hl;exact ⟨b,o,e,hb,(hk _ hb).trans hc,(hk _ hb).trans hd⟩
theorem RU.below (h:RU w B A us) (hb:Below B w w'):RU w' B A us:=h.keep λ_ hp=>hb.cell hp
theorem RU.more (h:RU w B A us) (hB:B<=B'):RU w B' A us:=λk hl=>by
 obtain ⟨b,o,e,hb,hc⟩:=h k hl;exact ⟨b,o,e,zo,hc⟩
theorem RU.at_' (h:RU w B A us) {k:Nat} (hk:k<us.length):∃b o,A=some ⟨b,o,none⟩/\b<B/\w.cell? ⟨b,o+k*2,none⟩=some (zI (us.getD k (0,0)).1)/\w.cell? ⟨b,o+k*2+1,none⟩=some (zI (us.getD k (0,0)).2):=h k hk
theorem RU.nil:RU w B A []:=λk h=>absurd h zs
end
def af (w:World) (g:Nat) (t:TypeId) (cs:Array Value):Prop:=w.heap[g]? = some (.cells cs t (0,0))
section
variable {w w':World} {g:Nat} {t:TypeId} {cs:Array Value}
theorem af.lt (h:af w g t cs):g<w.heap.size:=by
 by_cases hlt:g<w.heap.size
 ·exact hlt
 ·unfold af at h;rw [Array.getElem?_eq_none zo] at h;cases h
theorem af.cell (h:af w g t cs) (i:Nat):w.cell? ⟨g,i,none⟩=cs[i]? := cell_of_row w g i cs t (0,0) h
theorem af.frozen (h:af w g t cs) (i:Nat):w.frozen? ⟨g,i,none⟩=false:=by
 unfold af at h;simp [World.frozen?,h]
theorem af.new (w:World) (t:TypeId) (cs:Array Value):af (w.alloc (.cells cs t)) w.heap.size t cs:=heap_alloc_new w _
theorem af.drew (h:af w g t cs):af w.drew g t cs:=h
theorem af.alloc (h:af w g t cs) (o:Obj):af (w.alloc o) g t cs:=(Below.heap_alloc w o g h.lt).trans h
theorem af.aM (h:af w g t cs) (i:Nat) (u:Value):af (w.setCell ⟨g,i,none⟩ u) g t (cs.setIfInBounds i u):=by
 unfold af at h ⊢;simp [World.setCell,Array.getElem?_modify,h]
theorem af.far (h:af w g t cs) {p:Addr} (hp:g≠p.block) (u:Value):af (w.setCell p u) g t cs:=(Below.heap_setCell w p u g hp).trans h
theorem af.call (h:af w g t cs) (hb:Below w.heap.size w w'):af w' g t cs:=(hb.block g h.lt).trans h
theorem af.vN {g':Nat} {t':TypeId} {cs':Array Value} (h:af w g t cs) (h':af w g' t' cs') (hne:t≠t'):g≠g':=by
 rintro rfl;unfold af at h h';rw [h] at h'
 injection h' with h'
 injection h' with _ ht
 exact hne ht
theorem af.grown {row:Option Nat} (h:af w g t cs) (hb:w.grownBy w' row) (hg:some g≠row):af w' g t cs:=(hb.block g h.lt hg).trans h
end
theorem bB {w:World} {g1 g2:Nat} {t1 t2:TypeId} {c1 c2:Array Value} (h1:af w g1 t1 c1) (h2:af w g2 t2 c2):(∀i,w.cell? ⟨g1,i,none⟩=c1[i]?)/\(∀i,w.cell? ⟨g2,i,none⟩=c2[i]?):=⟨h1.cell,h2.cell⟩
theorem mM {w:World} {g1 g2 g3:Nat} {t1 t2 t3:TypeId} {c1 c2 c3:Array Value} (h1:af w g1 t1 c1) (h2:af w g2 t2 c2) (h3:af w g3 t3 c3):(∀i,w.cell? ⟨g1,i,none⟩=c1[i]?)/\(∀i,w.cell? ⟨g2,i,none⟩=c2[i]?)/\(∀i,w.cell? ⟨g3,i,none⟩=c3[i]?):=⟨h1.cell,h2.cell,h3.cell⟩
theorem zL4 {w:World} {g1 g2 g3 g4:Nat} {t1 t2 t3 t4:TypeId} {c1 c2 c3 c4:Array Value} (h1:af w g1 t1 c1) (h2:af w g2 t2 c2) (h3:af w g3 t3 c3) (h4:af w g4 t4 c4):(∀i,w.cell? ⟨g1,i,none⟩=c1[i]?)/\(∀i,w.cell? ⟨g2,i,none⟩=c2[i]?)/\(∀i,w.cell? ⟨g3,i,none⟩=c3[i]?)/\(∀i,w.cell? ⟨g4,i,none⟩=c4[i]?):=⟨h1.cell,h2.cell,h3.cell,h4.cell⟩
theorem ZE {w:World} {g1 g2 g3 g4 g5:Nat} {t1 t2 t3 t4 t5:TypeId} {c1 c2 c3 c4 c5:Array Value} (h1:af w g1 t1 c1) (h2:af w g2 t2 c2) (h3:af w g3 t3 c3) (h4:af w g4 t4 c4) (h5:af w g5 t5 c5):(∀i,w.cell? ⟨g1,i,none⟩=c1[i]?)/\(∀i,w.cell? ⟨g2,i,none⟩=c2[i]?)/\(∀i,w.cell? ⟨g3,i,none⟩=c3[i]?)/\(∀i,w.cell? ⟨g4,i,none⟩=c4[i]?)/\(∀i,w.cell? ⟨g5,i,none⟩=c5[i]?):=⟨h1.cell,h2.cell,h3.cell,h4.cell,h5.cell⟩
theorem tu {w:World} {g1 g2:Nat} {t1 t2:TypeId} {c1 c2:Array Value} (h1:af w g1 t1 c1) (h2:af w g2 t2 c2):(∀i,w.frozen? ⟨g1,i,none⟩=false)/\(∀i,w.frozen? ⟨g2,i,none⟩=false):=⟨h1.frozen,h2.frozen⟩
theorem zF3 {w:World} {g1 g2 g3:Nat} {t1 t2 t3:TypeId} {c1 c2 c3:Array Value} (h1:af w g1 t1 c1) (h2:af w g2 t2 c2) (h3:af w g3 t3 c3):(∀i,w.frozen? ⟨g1,i,none⟩=false)/\(∀i,w.frozen? ⟨g2,i,none⟩=false)/\(∀i,w.frozen? ⟨g3,i,none⟩=false):=⟨h1.frozen,h2.frozen,h3.frozen⟩
class ZC (w w':World) (p:Prop) (q:outParam Prop):Prop where c:Go.RowKit.Below w.heap.size w w'->p->q
theorem bY {w w':World} {p1 q1 p2 q2:Prop} (h:Go.RowKit.Below w.heap.size w w') (a1:p1) (a2:p2) [ZC w w' p1 q1] [ZC w w' p2 q2]:q1/\q2:=⟨ZC.c h a1,ZC.c h a2⟩
theorem mY {w w':World} {p1 q1 p2 q2 p3 q3:Prop} (h:Go.RowKit.Below w.heap.size w w') (a1:p1) (a2:p2) (a3:p3) [ZC w w' p1 q1] [ZC w w' p2 q2] [ZC w w' p3 q3]:q1/\q2/\q3:=⟨ZC.c h a1,ZC.c h a2,ZC.c h a3⟩
theorem vO {w w':World} {p1 q1 p2 q2 p3 q3 p4 q4:Prop} (h:Go.RowKit.Below w.heap.size w w') (a1:p1) (a2:p2) (a3:p3) (a4:p4) [ZC w w' p1 q1] [ZC w w' p2 q2] [ZC w w' p3 q3] [ZC w w' p4 q4]:q1/\q2/\q3/\q4:=⟨ZC.c h a1,ZC.c h a2,ZC.c h a3,ZC.c h a4⟩
theorem lM {w w':World} {p1 q1 p2 q2 p3 q3 p4 q4 p5 q5:Prop} (h:Go.RowKit.Below w.heap.size w w') (a1:p1) (a2:p2) (a3:p3) (a4:p4) (a5:p5) [ZC w w' p1 q1] [ZC w w' p2 q2] [ZC w w' p3 q3] [ZC w w' p4 q4] [ZC w w' p5 q5]:q1/\q2/\q3/\q4/\q5:=⟨ZC.c h a1,ZC.c h a2,ZC.c h a3,ZC.c h a4,ZC.c h a5⟩
theorem zC6 {w w':World} {p1 q1 p2 q2 p3 q3 p4 q4 p5 q5 p6 q6:Prop} (h:Go.RowKit.Below w.heap.size w w') (a1:p1) (a2:p2) (a3:p3) (a4:p4) (a5:p5) (a6:p6) [ZC w w' p1 q1] [ZC w w' p2 q2] [ZC w w' p3 q3] [ZC w w' p4 q4] [ZC w w' p5 q5] [ZC w w' p6 q6]:q1/\q2/\q3/\q4/\q5/\q6:=⟨ZC.c h a1,ZC.c h a2,ZC.c h a3,ZC.c h a4,ZC.c h a5,ZC.c h a6⟩
theorem zC7 {w w':World} {p1 q1 p2 q2 p3 q3 p4 q4 p5 q5 p6 q6 p7 q7:Prop} (h:Go.RowKit.Below w.heap.size w w') (a1:p1) (a2:p2) (a3:p3) (a4:p4) (a5:p5) (a6:p6) (a7:p7) [ZC w w' p1 q1] [ZC w w' p2 q2] [ZC w w' p3 q3] [ZC w w' p4 q4] [ZC w w' p5 q5] [ZC w w' p6 q6] [ZC w w' p7 q7]:q1/\q2/\q3/\q4/\q5/\q6/\q7:=⟨ZC.c h a1,ZC.c h a2,ZC.c h a3,ZC.c h a4,ZC.c h a5,ZC.c h a6,ZC.c h a7⟩
theorem zC8 {w w':World} {p1 q1 p2 q2 p3 q3 p4 q4 p5 q5 p6 q6 p7 q7 p8 q8:Prop} (h:Go.RowKit.Below w.heap.size w w') (a1:p1) (a2:p2) (a3:p3) (a4:p4) (a5:p5) (a6:p6) (a7:p7) (a8:p8) [ZC w w' p1 q1] [ZC w w' p2 q2] [ZC w w' p3 q3] [ZC w w' p4 q4] [ZC w w' p5 q5] [ZC w w' p6 q6] [ZC w w' p7 q7] [ZC w w' p8 q8]:q1/\q2/\q3/\q4/\q5/\q6/\q7/\q8:=⟨ZC.c h a1,ZC.c h a2,ZC.c h a3,ZC.c h a4,ZC.c h a5,ZC.c h a6,ZC.c h a7,ZC.c h a8⟩
theorem zC9 {w w':World} {p1 q1 p2 q2 p3 q3 p4 q4 p5 q5 p6 q6 p7 q7 p8 q8 p9 q9:Prop} (h:Go.RowKit.Below w.heap.size w w') (a1:p1) (a2:p2) (a3:p3) (a4:p4) (a5:p5) (a6:p6) (a7:p7) (a8:p8) (a9:p9) [ZC w w' p1 q1] [ZC w w' p2 q2] [ZC w w' p3 q3] [ZC w w' p4 q4] [ZC w w' p5 q5] [ZC w w' p6 q6] [ZC w w' p7 q7] [ZC w w' p8 q8] [ZC w w' p9 q9]:q1/\q2/\q3/\q4/\q5/\q6/\q7/\q8/\q9:=⟨ZC.c h a1,ZC.c h a2,ZC.c h a3,ZC.c h a4,ZC.c h a5,ZC.c h a6,ZC.c h a7,ZC.c h a8,ZC.c h a9⟩
theorem an6 {w w':World} {p1 q1 p2 q2 p3 q3 p4 q4 p5 q5 p6 q6 p7 q7 p8 q8 p9 q9 p10 q10:Prop} (h:Go.RowKit.Below w.heap.size w w') (a1:p1) (a2:p2) (a3:p3) (a4:p4) (a5:p5) (a6:p6) (a7:p7) (a8:p8) (a9:p9) (a10:p10) [ZC w w' p1 q1] [ZC w w' p2 q2] [ZC w w' p3 q3] [ZC w w' p4 q4] [ZC w w' p5 q5] [ZC w w' p6 q6] [ZC w w' p7 q7] [ZC w w' p8 q8] [ZC w w' p9 q9] [ZC w w' p10 q10]:q1/\q2/\q3/\q4/\q5/\q6/\q7/\q8/\q9/\q10:=⟨ZC.c h a1,ZC.c h a2,ZC.c h a3,ZC.c h a4,ZC.c h a5,ZC.c h a6,ZC.c h a7,ZC.c h a8,ZC.c h a9,ZC.c h a10⟩
instance {w w':World} {g:Nat} {t:TypeId} {cs:Array Value}:ZC w w' (af w g t cs) (af w' g t cs):=⟨λh k=>k.call h⟩
theorem dM (b o j:Nat):(⟨b,o,none⟩:Addr).add j=⟨b,o+j,none⟩:=by
 unfold Addr.add;by_cases h:j=0 <;> simp [h]
structure Ext (W:World) where
 w:World
 le:Below W.heap.size W w
theorem Ext.cell {W:World} (x:Ext W) {p:Addr} {v:Value} (h:W.cell? p=some v):x.w.cell? p=some v:=by
 have hb:p.block<W.heap.size:=by
  by_cases hp:p.block<W.heap.size
  ·exact hp
  ·have:W.heap[p.block]? = none:=Array.getElem?_eq_none zo
   simp [World.cell?,this] at h
 exact (x.le.cell hb).trans h
theorem Ext.blk {W:World} (x:Ext W) {g:Nat} {t:TypeId} {cs:Array Value} (h:af W g t cs):af x.w g t cs:=h.call x.le
instance agt (W:World):Nonempty (Ext W):=⟨⟨W,Below.refl _ _⟩⟩
theorem Ext.call {P:Program} {f:FuncId} {args:Array Value} {W:World} {x:Ext W} {v:Value}
  (h:Calls P f args x.w λe w'=>e= .returned v/\Below x.w.heap.size x.w w'):Calls P f args x.w λe w''=>e= .returned v/\∃y:Ext W,w''=y.w :=
 h.mono λ_ w'' ⟨he,hb⟩=>⟨he,⟨w'',x.le.zt hb⟩,rfl⟩
theorem aD {P:Program} {id:Nat} {Q:Exit->Act->World->Prop} {a:Act} {w:World} {l:List Oper} (hm:P.follows .mixedOrders=true) (hB:Region.lexB .any l.toArray=true)
  (h:wpQuiet P l.toArray (λw'=>∃x:Ext w,w'=x.w) (λa'=>∀w',(∃x:Ext w,w'=x.w)->Q .normal a' w') l a):(Code.region id l.toArray true).wp P Q a w :=
 wp_region_quiet (C:=λw'=>∃x:Ext w,w'=x.w) hm hB ⟨⟨_,(Below.refl _ w).drew⟩,rfl⟩ (by simpa using h)
theorem UG {P:Program} (t e:TypeId) (i:TypeInfo) (z:Value) (ht:P.underlying t=some (.slice e)) (hi:P.info? e=some i) (hz:i.zero=some z) (hz1:z.cells=#[z]) (hs:i.size=1)
  (kl kc:IntKind) (n:Nat) (hbytes:i.bytes*n<=281474976710656) (h63:n<=9223372036854775807) (w:World) :
  (Instr.makeSlice t (.int kl (n:Int)) (.int kc (n:Int))).run P w= .ok (.slice (some ⟨w.heap.size,0,none⟩) n n) (w.alloc (.cells (Array.replicate n z) e)):=by
 have hb:(i.bytes:Int)*(n:Int)<=281474976710656:=by
  have h:((i.bytes*n:Nat):Int)<=281474976710656:=zo
  rwa [Int.natCast_mul] at h
 have hr:=run_make (P:=P) w t e i z ht hi hz kl kc n n zo zo hb zo;simp only [Int.toNat_natCast] at hr;rw [hr,hz1,hs,Nat.mul_one];congr 3;apply Array.toList_inj.1;rw [toList_madeCells_one,Array.toList_replicate]
theorem eT {k:IntKind} {a b:Int} (h:a=b):Ending.returned (.int k a)= .returned (.int k b):=by rw [h]
section
variable {P:Program} {ops:Array Oper} {md:Region.Mode} {C:World->Prop}
def Iu (P:Program) (md:Region.Mode) (ops:Array Oper) (C:World->Prop) (n:Nat) (L:Array Bool->Act->Prop):Nat->Array Bool->Act->Prop
 | 0,listed,a=>L listed a
 | f+1,listed,a=>Region.ready md ops listed≠[]/\∀i∈Region.ready md ops listed,i<n/\qOp P ops C i (Iu P md ops C n L f (listed.setIfInBounds i true)) a
theorem ym {n g:Nat} {L:Array Bool->Act->Prop} {Q':Exit->Act->World->Prop} (hL:∀listed a w,C w->L listed a->wpAny P md ops Q' g listed a w) :
  ∀(f:Nat) (listed:Array Bool) (a:Act) (w:World),C w->Iu P md ops C n L f listed a->wpAny P md ops Q' (f+g) listed a w
 | 0,listed,a,w,hw,h=>by rw [Nat.zero_add];exact hL _ _ _ hw h
 | f+1,listed,a,w,hw,h=>by
  rw [show f+1+g=(f+g)+1 by omega];exact ⟨λh0=>absurd h0 h.1,λi hi=>wpOp_of_qOp hw (λa' w' hw' h'=>ym hL f _ a' w' hw' h') (h.2 i hi).2⟩
theorem abt {P:Prop} (h:P:=by
 by_cases h:j<n
 ·exact h
 ·exact absurd hj (tail_waits hs hc hn inv _ i rfl hin hun j zo)):P:=h
theorem OA {n i:Nat} {oi:Oper} {v:Value} {L:Array Bool->Act->Prop} (hi:ops[i]? = some oi) (hsel:∀(j:Nat) (o:Oper) cs b,ops[j]? = some o->o.op≠.select cs b)
  (hs:Region.sinkB md ops n=true) (hc:Region.chainB md ops n=true) (hn:n<ops.size) (hin:i<n) (hdone:∀listed a,L listed a->∀j∈Region.ready md ops listed,n<=j) :
  ∀(f:Nat) (listed:Array Bool) (a:Act),HeadInv md ops n listed ->
   (∀j oj,ops[j]? = some oj->j≠i->listed.getD j true=false->(∀e∈oj.after,Region.binds md e=true->e.on≠i)->oi.apart ops oj=true) ->
   i∈Region.ready md ops listed->YieldsIn P ops C oi v a ->
   Iu P md ops C n L f (listed.setIfInBounds i true) (a.put oi.dst v)->Iu P md ops C n L (f+1) listed a:=by
 intro f;induction f with
 | zero =>
  intro listed a inv _ hr hy H;have hun:=(mem_ready.1 hr).1;refine ⟨λh=>(by rw [h] at hr;cases hr),λj hj=>?_⟩;have hjn:j<n:=by
   exact abt
  refine ⟨hjn,?_⟩;by_cases hji:j=i
  ·subst hji;exact hy.qOp hi H
  ·have:=hdone _ _ H j (ready_mono hj hji)
   omega
 | succ f ih =>
  intro listed a inv hfree hr hy H;have hun:=(mem_ready.1 hr).1;refine ⟨λh=>(by rw [h] at hr;cases hr),λj hj=>?_⟩;have hjn:j<n:=by
   exact abt
  refine ⟨hjn,?_⟩;by_cases hji:j=i
  ·subst hji;exact hy.qOp hi H
  ·have h1:=(H.2 j (ready_mono hj hji)).2
   obtain ⟨hjun,oj,hoj,hall⟩:=mem_ready.1 hj;have hnot:∀e∈oj.after,Region.binds md e=true->e.on≠i:=λe he hb heq=>by
    have h1:=hall e he hb;rw [heq,getD_both hun] at h1;cases h1
   have h2:=qOp_put hoj (hfree j oj hoj hji hjun hnot) (λcs b=>hsel i oi cs b hi) (λcs b=>hsel j oj cs b hoj) hy h1;have hfree':∀k ok,ops[k]? = some ok->k≠i->(listed.setIfInBounds j true).getD k true=false ->
     (∀e∈ok.after,Region.binds md e=true->e.on≠i)->oi.apart ops ok=true:=λk ok hk hki hu hno=>by
    refine hfree k ok hk hki ?_ hno;by_cases hjk:j=k
    ·subst hjk;exact hjun
    ·rw [getD_set_ne true hjk] at hu;exact hu
   refine qOp_mono (λa' h3=>ih (listed.setIfInBounds j true) a' (inv.set hj hjn) hfree' (ready_mono hr (Ne.symm hji)) h3.1 ?_) h2;rw [Array.setIfInBounds_comm _ _ hji];exact h3.2
theorem Ck {n g:Nat} {Lq:Act->Prop} (hsel:Region.noSelect ops=true) (hs:Region.sinkB md ops n=true) (hc:Region.chainB md ops n=true) (hn:n<ops.size) :
  ∀(l:List Oper) (k:Nat) (listed:Array Bool) (a:Act),(∀j,j<l.length->l[j]? = ops[k+j]?)->k+l.length=n->HeadInv md ops n listed ->
  Region.lexHead md ops g l.length k listed=true->wpQuiet P ops C Lq l a ->
  Iu P md ops C n (λlisted' a'=>Region.seqB md ops g n listed'=true/\Lq a') l.length listed a
 | [],k,listed,a,_,hk,_,hB,h=>by
  obtain rfl:k=n:=by simpa using hk
  exact ⟨by simpa [Region.lexHead] using hB,h⟩
 | o::l,k,listed,a,hl,hk,inv,hB,h=>by
  have h0:ops[k]? = some o:=by simpa using (hl 0 zs).symm
  simp only [List.length_cons,Region.lexHead,Bool.and_eq_true] at hB;obtain ⟨⟨hr,hf⟩,hB'⟩:=hB;have hkn:k<n:=by simp only [List.length_cons] at hk;omega
  have hr':k∈Region.ready md ops listed:=by simpa using hr
  have hst:qOp P ops C k (wpQuiet P ops C Lq l) a:=by unfold qOp;simp only [h0];exact h
  obtain ⟨v,hy,hK⟩:=yieldsIn_of_qOp h0 hst;exact OA h0 (Region.noSelect_spec hsel) hs hc hn hkn (λlisted' a' hL=>seqB_ready hL.1) l.length listed a inv (Region.free_spec h0 hf) hr' hy
   (Ck hsel hs hc hn l (k+1) _ _ (λj hj=>by have:=hl (j+1) (by simp;omega);simpa [Nat.add_assoc,Nat.add_comm 1 j] using this) (by simp only [List.length_cons] at hk;omega) (inv.set hr' hkn) hB' hK)
theorem ah3 {P:Prop} (h:P:=by
 have:=ym (Q':=Q) (g:=l.toArray.size - n) (λlisted a' w' hw' hL=>by
  obtain ⟨x,rfl⟩:=hw';have:=wpAny_of_seq (md:=.any) (Q':=Q) (l.drop n) n listed a' x.w (λj=>by simp [List.getElem?_drop]) (by rw [hdl];exact hL.1) (hL.2 x)
  rwa [hdl] at this) _ _ _ _ (⟨⟨_,(Below.refl _ w).drew⟩,rfl⟩:∃x:Ext w,({ w with drawn:=w.drawn+1 }:World)=x.w) H
 rw [htl,show n+(l.toArray.size - n)=l.toArray.size by omega] at this;exact this):P:=h
theorem df {id:Nat} {Q:Exit->Act->World->Prop} {a:Act} {w:World} {l:List Oper} (n:Nat) (hm:P.follows .mixedOrders=true) (hB:Region.lexTailB .any l.toArray n=true)
  (h:wpQuiet P l.toArray (λw'=>∃x:Ext w,w'=x.w) (λa'=>∀x:Ext w,wpList P l.toArray Q (l.drop n) a' x.w) (l.take n) a):(Code.region id l.toArray true).wp P Q a w:=by
 simp only [Region.lexTailB,Bool.and_eq_true,decide_eq_true_eq] at hB;obtain ⟨⟨⟨⟨hsel,hn⟩,hs⟩,hc⟩,hlex⟩:=hB;have hn':n<l.length:=by simpa using hn
 have htl:(l.take n).length=n:=by simp;omega
 have hdl:(l.drop n).length=l.toArray.size - n:=by simp
 have inv0:HeadInv .any l.toArray n (Array.replicate l.toArray.size false) :=
  ⟨zs,λj oj _ hl=>(by rw [getD_replicate_false] at hl;cases hl),λt _ ht=>getD_in (by simpa using ht) (getD_replicate_false _ _)⟩
 have H:=Ck (md:=.any) (g:=l.toArray.size - n) hsel hs hc hn (l.take n) 0 _ a (λj hj=>by
  have hj':j<n:=by rw [htl] at hj;exact hj
  simp [hj']) (by simpa using htl) inv0 (by rw [htl];exact hlex) h
 refine wp_region_any hm ?_;exact ah3
end
theorem abu (a d:Int) (s t:Nat) (ha : -s<=a/\a<=s) (hd : -t<=d/\d<=t) : -((s*t:Nat):Int)<=a*d/\a*d<=((s*t:Nat):Int):=by
 have h:(a*d).natAbs<=s*t:=by rw [Int.natAbs_mul];exact Nat.mul_le_mul zo zo
 omega
theorem QF (a d:Int) (ha : -10000<=a/\a<=10000) (hd : -10000<=d/\d<=10000):wrap64 (a*d)=a*d:=by
 have:=abu a d 10000 10000 zo zo;exact IntWalk.wrap64_in _ zo
theorem jF {a b:Bool} (h:a=b):Ending.returned (.bool a)= .returned (.bool b):=by rw [h]
theorem drop_cons {α:Type} (d:α) (xs:List α) (k:Nat) (h:k<xs.length):xs.drop k=xs.getD k d::xs.drop (k+1):=by
 rw [List.drop_eq_getElem_cons h];simp [List.getD_eq_getElem?_getD,h]
section
variable {P:Program} {Q:Exit->Act->World->Prop}
def tC (P:Program) (ops:Array Oper) (Q:Exit->Act->World->Prop) (Inv:(Nat->Bool)->Act->World->Prop):List Oper->Nat->Prop
 | [],_=>True
 | o::r,k=>(∀(D:Nat->Bool) (a:Act) (w:World),Inv D a w->D k=false->(∀e∈o.after,Region.binds .any e=true->D e.on=true) ->
   (if Region.wanted o (yielded ops a.tmps) then o.wp P a w (λa' w'=>Inv (λj=>j==k||D j) a' w') Q else Inv (λj=>j==k||D j) (a.put o.dst undef) w))/\tC P ops Q Inv r (k+1)
def pX:List Oper->Nat->Bool
 | [],_=>true
 | o::r,k=>o.after.all (λe=>!Region.binds .any e||decide (e.on<k))&&pX r (k+1)
theorem vP:∀(l:List Oper) (k:Nat),pX l k=true->∀i o,l[i]? = some o->∀e∈o.after,Region.binds .any e=true->e.on<k+i
 | [],_,_,_,_,h=>by simp at h
 | o::r,k,h,i,o',hi=>by
  simp only [pX,Bool.and_eq_true] at h;cases i with
  | zero =>
   simp at hi;subst hi;intro e he hb;have:=Array.all_eq_true'.1 h.1 e he;simpa [hb] using this
  | succ i =>
   intro e he hb;have:=vP r (k+1) h.2 i o' (by simpa using hi) e he hb;omega
theorem tC.at_ {ops:Array Oper} {Inv:(Nat->Bool)->Act->World->Prop}:∀(l:List Oper) (k:Nat),tC P ops Q Inv l k->∀i o,l[i]? = some o ->
  ∀(D:Nat->Bool) (a:Act) (w:World),Inv D a w->D (k+i)=false->(∀e∈o.after,Region.binds .any e=true->D e.on=true) ->
   (if Region.wanted o (yielded ops a.tmps) then o.wp P a w (λa' w'=>Inv (λj=>j==(k+i)||D j) a' w') Q else Inv (λj=>j==(k+i)||D j) (a.put o.dst undef) w)
 | [],_,_,i,o,hi=>by simp at hi
 | o::r,k,h,i,o',hi=>by
  cases i with
  | zero=>simp at hi;subst hi;exact h.1
  | succ i =>
   have:=tC.at_ r (k+1) h.2 i o' (by simpa using hi);rw [show k+1+i=k+(i+1) by omega] at this;exact this
theorem LG {l:List Oper} {Inv:(Nat->Bool)->Act->World->Prop} (hB:pX l 0=true) (hs:tC P l.toArray Q Inv l 0)
  (YD:∀D D' a w,(∀i,i<l.length->D i=D' i)->Inv D a w->Inv D' a w)
  (he:∀a w,Inv (λ_=>true) a w->Q .normal a w):∀(fuel:Nat) (listed:Array Bool) (a:Act) (w:World),listed.size=l.length->(l.length<=fuel+(listed.toList.filter id).length) ->
   Inv (λi=>listed.getD i true) a w->wpAny P .any l.toArray Q fuel listed a w:=by
 have hnil:∀(listed:Array Bool) (a:Act) (w:World),listed.size=l.length->Inv (λi=>listed.getD i true) a w->Region.ready .any l.toArray listed=[]->Q .normal a w:=by
  intro listed a w hsz hi hr;refine he a w (YD _ _ a w (λi hil=>?_) hi)
  -- the least place that is not listed would be ready
  have hmin:∀i,i<l.length->listed.getD i true=true:=by
   intro i;induction i using Nat.strongRecOn with
   | _ i ih =>
    intro hil;cases hb:listed.getD i true with
    | true=>rfl
    | false =>
     exfalso;obtain ⟨o,ho⟩:∃o,l[i]? = some o:=⟨l[i],List.getElem?_eq_getElem hil⟩;have:i∈Region.ready .any l.toArray listed:=mem_ready.2 ⟨hb,o,by simpa using ho,λe hem hbind=>by
      have hlt:=vP l 0 hB i o ho e hem hbind;have h1:=ih e.on zo zo;have h2:e.on<listed.size:=zo;simp [h2] at h1 ⊢;exact h1⟩
     rw [hr] at this;cases this
  exact hmin i hil
 intro fuel;induction fuel with
 | zero =>
  intro listed a w hsz hf hi;have hall:Region.ready .any l.toArray listed=[]:=by
   cases hr:Region.ready .any l.toArray listed with
   | nil=>rfl
   | cons i rs =>
    exfalso;have hmem:i∈Region.ready .any l.toArray listed:=by rw [hr];simp
    obtain ⟨hun,o,ho,_⟩:=mem_ready.1 hmem;have hil:i<l.length:=by have:=(Array.getElem?_eq_some_iff.1 ho).1;simpa using this
    have hlen:=List.length_filter_lt_length_iff_exists (p:=(id:Bool->Bool)) (l:=listed.toList) |>.2 ⟨listed.getD i true,by
     have:i<listed.size:=zo;simp [this],by simp [hun]⟩
    have:listed.toList.length=l.length:=by simpa using hsz
    omega
  exact ⟨hall,hnil listed a w hsz hi hall⟩
 | succ fuel ih =>
  intro listed a w hsz hf hi;refine ⟨hnil listed a w hsz hi,λi hmem=>?_⟩;obtain ⟨hun,o,ho,hall⟩:=mem_ready.1 hmem;have hil:i<l.length:=by have:=(Array.getElem?_eq_some_iff.1 ho).1;simpa using this
  have hst:=tC.at_ l 0 hs i o (by simpa using ho) (λi=>listed.getD i true) a w hi (by simpa using hun) (λe hem hbind=>by
   have h1:=hall e hem hbind;have h2:e.on<listed.size:=by have:=vP l 0 hB i o (by simpa using ho) e hem hbind;omega
   simp [h2] at h1 ⊢;exact h1)
  rw [Nat.zero_add] at hst;have hnext:∀a' w',Inv (λj=>j==i||listed.getD j true) a' w'->wpAny P .any l.toArray Q fuel (listed.setIfInBounds i true) a' w':=by
   intro a' w' h';refine ih _ a' w' (by simpa using hsz) ?_ (YD _ _ a' w' (λj hj=>?_) h')
   ·have hc:((listed.setIfInBounds i true).toList.filter id).length=(listed.toList.filter id).length+1:=by
     have hi':i<listed.toList.length:=by simp;omega
     have hf':listed.toList[i]=false:=by
      have:i<listed.size:=zo;simp [this] at hun;simpa using hun
     rw [Array.toList_setIfInBounds];have e1:=List.take_append_drop i listed.toList;have e2:listed.toList.drop i=false::listed.toList.drop (i+1):=by rw [List.drop_eq_getElem_cons hi',hf']
     have e3:listed.toList.set i true=listed.toList.take i++true::listed.toList.drop (i+1):=by
      rw [List.set_eq_take_append_cons_drop,if_pos hi']
     rw [e3]
     conv=>rhs;rw [<-e1,e2]
     simp;omega
    omega
   ·by_cases hji:j=i
    ·subst hji
     have:j<listed.size:=zo;simp [this]
    ·have:j<listed.size:=zo
     simp [hji,this,Ne.symm hji]
  unfold wpOp;rw [ho];show if Region.wanted o (yielded l.toArray a.tmps)=true then _ else _
  split
  ·rename_i hw
   rw [if_pos hw] at hst;exact .inl (Oper.wp_mono hnext hst)
  ·rename_i hw
   rw [if_neg hw] at hst;exact hnext _ _ hst
theorem QG {id:Nat} {a:Act} {w:World} {l:List Oper} (Inv:(Nat->Bool)->Act->World->Prop) (hm:P.follows .mixedOrders=true) (hB:pX l 0=true)
  (YD:∀D D' a w,(∀i,i<l.length->D i=D' i)->Inv D a w->Inv D' a w)
  (h0:∀D,(∀i,i<l.length->D i=false)->Inv D a { w with drawn:=w.drawn+1 }) (hs:tC P l.toArray Q Inv l 0) (he:∀a w,Inv (λ_=>true) a w->Q .normal a w):(Code.region id l.toArray true).wp P Q a w:=by
 refine wp_region_any hm (LG hB hs YD he _ _ _ _ zs zs (h0 _ (λi hi=>?_)));have:i<(Array.replicate l.toArray.size false).size:=by simpa using hi
 simp [hi]
end
structure ag (T:Nat->Prop) (A B:World):Prop where
 os:B.os=A.os
 tape:B.tape=A.tape
 output:B.output=A.output
 size:A.heap.size<=B.heap.size
 block:∀k,k<A.heap.size->¬T k->B.heap[k]? = A.heap[k]?
section
variable {T T':Nat->Prop} {A B C:World}
theorem ag.refl (T:Nat->Prop) (A:World):ag T A A:=⟨rfl,rfl,rfl,Nat.le_refl _,λ_ _ _=>rfl⟩
theorem ag.trans (h:ag T A B) (k:ag T B C):ag T A C :=
 ⟨k.os.trans h.os,k.tape.trans h.tape,k.output.trans h.output,Nat.le_trans h.size k.size,λi hi hT=>(k.block i (Nat.lt_of_lt_of_le hi h.size) hT).trans (h.block i hi hT)⟩
theorem ag.mono (h:ag T A B) (hT:∀k,k<A.heap.size->T k->T' k):ag T' A B:=⟨h.os,h.tape,h.output,h.size,λk hk hn=>h.block k hk (λht=>hn (hT k hk ht))⟩
theorem ag.trans' (h:ag T A B) (k:ag T' B C) (hT:∀i,i<A.heap.size->T' i->T i):ag T A C :=
 ⟨k.os.trans h.os,k.tape.trans h.tape,k.output.trans h.output,Nat.le_trans h.size k.size,λi hi hn=>(k.block i (Nat.lt_of_lt_of_le hi h.size) (λht=>hn (hT i hi ht))).trans (h.block i hi hn)⟩
theorem ag.of_below (h:Below A.heap.size A B):ag T A B:=⟨h.os,h.tape,h.output,h.size,λk hk _=>h.block k hk⟩
theorem ag.below {n:Nat} (h:ag T A B) (hn:n<=A.heap.size) (hT:∀k,k<n->¬T k):Below n A B:=⟨h.os,h.tape,h.output,h.size,λk hk=>h.block k zo (hT k hk)⟩
theorem ag.alloc (h:ag T A B) (o:Obj):ag T A (B.alloc o):=h.trans (.of_below ((Below.refl _ _).alloc (Nat.le_refl _) o))
theorem ag.drew (h:ag T A B):ag T A B.drew:=h.trans (.of_below ((Below.refl _ _).drew))
theorem ag.setCell (h:ag T A B) {p:Addr} (hp:p.block<A.heap.size->T p.block) (v:Value):ag T A (B.setCell p v):=by
 refine ⟨h.os,h.tape,h.output,Nat.le_trans h.size (KeepsWalks.setCell B p v).size,λk hk hT=>(Below.heap_setCell B p v k (λe=>?_)).trans (h.block k hk hT)⟩;exact hT (by rw [e];exact hp (by rw [<-e];exact hk))
theorem ag.putObj (h:ag T A B) {l:Nat} (hl:l<A.heap.size->T l) (o:Obj):ag T A (B.putObj l o) :=
 ⟨h.os,h.tape,h.output,by rw [World.putObj_size];exact h.size,λk hk hT=>(World.putObj_heap_other (λe=>hT (by rw [e];exact hl (by rw [<-e];exact hk)))).trans (h.block k hk hT)⟩
theorem ag.call (h:ag T A B) (hb:Below B.heap.size B C):ag T A C:=h.trans (.of_below hb)
theorem ag.blk {g:Nat} {t:TypeId} {cs:Array Value} (h:ag T A B) (hg:af A g t cs) (hT:¬T g):af B g t cs:=(h.block g hg.lt hT).trans hg
theorem ag.same {l:Nat} {o:Obj} (h:ag T A B) (hl:A.heap[l]? = some o) (hT:¬T l):B.heap[l]? = some o:=(h.block l (Array.getElem?_eq_some_iff.1 hl).1 hT).trans hl
theorem ag.cell {p:Addr} {v:Value} (h:ag T A B) (hc:A.cell? p=some v) (hT:¬T p.block):B.cell? p=some v:=by
 have hb:p.block<A.heap.size:=World.block_lt_of_cell? _ _ hc;have:=h.block p.block hb hT;simp only [World.cell?] at hc ⊢;rw [this];exact hc
theorem ag.ru {Bn:Nat} {Ad:Option Addr} {us:List (Int×Int)} (h:ag T A B) (hr:RU A Bn Ad us) (hT:∀b o,Ad=some ⟨b,o,none⟩->¬T b):RU B Bn Ad us:=λk hl=>by
 obtain ⟨b,o,e,hb,hc,hd⟩:=hr k hl;exact ⟨b,o,e,hb,h.cell hc (hT b o e),h.cell hd (hT b o e)⟩
end
def yR {α:Type} (P:Program) (g:Nat) (lb:Array Value) (encs:α->Array Value) (T K:Nat->Prop) (xs:List α) (w:World):Prop :=
 ∀(n l:Nat) (J Jx:List α->World->Prop) (W:World),ag (λk=>¬K k) w W ->
  (∀pre A B,J pre A->ag T A B->J pre B)->(∀pre A B,Jx pre A->ag T A B->Jx pre B) ->
  (∀m pre x W1,J pre W1->pre++[x] <+: xs->YieldAt Fence.wide m P l (encs x) W1 λe W' =>
   (e= .returned (.bool true)/\J (pre++[x]) W'/\ag (λk=>¬K k) W1 W')\/(e= .returned (.bool false)/\Jx (pre++[x]) W')) ->
  J [] W ->
  CallsIn Fence.wide n P g (#[.func (.yield l) #[] #[]]++lb) W λe W'=>(∃v,e= .returned v)/\(J xs W'\/∃pre,pre <+: xs/\Jx pre W')
theorem yR.later {α:Type} {P:Program} {g:Nat} {lb:Array Value} {encs:α->Array Value} {T K:Nat->Prop} {xs:List α} {w w':World}
  (h:yR P g lb encs T K xs w) (hw:ag (λk=>¬K k) w w'):yR P g lb encs T K xs w' :=
 λn l J Jx W hW=>h n l J Jx W (hw.trans hW)
def UH {α:Type} (D:Nat) (K:Nat->Prop) (I:List α->World->Prop) (Ix:Code->List α->World->Prop) (xs:List α) (W:World):Exit->Act->World->Prop
 | .normal,_,W'=>ag (λk=>¬(K k\/k=D\/k=D+1)) W W'/\I xs W'
 | .ret,_,W'=>ag (λk=>¬(k=D\/k=D+1)) W W'/\Ix .ret xs W'
 | .exit id,_,W'=>ag (λk=>¬(k=D\/k=D+1)) W W'/\Ix (.exit id) xs W'
 | .goto t,_,W'=>ag (λk=>¬(k=D\/k=D+1)) W W'/\Ix (.goto t) xs W'
 | .panic _,_,_=>False
 | .outgrown,_,_=>False
abbrev dB (D:Nat):Deferred:={ target:=.collected D,args:=#[] }
theorem zT3 {P:Prop} (h:P:=by
 rintro m pre x Wa ⟨hi,hl,hd⟩ hpre;have hlt:D+1<Wa.heap.size:=(Array.getElem?_eq_some_iff.1 hl).1;have hy:=run_yield (P:=P) (args:=encs x) hl (by rw [hrec];exact hps x);rw [hrec] at hy;refine ⟨fn,_,assign,body,hy,roundIn_of_wpIn trivial (hassign m (D+1) x Wa _ zo λa' Wb hab hax=>?_)⟩;have hlb:=hab.same hl id;have LH:=hab.same hd id;have hib:=hI pre Wa Wb hi (hab.mono λ_ _ h=>h.elim);have Iw:D+1<Wb.heap.size:=(Array.getElem?_eq_some_iff.1 hlb).1;refine ⟨_,run_beginRound hlb (by rw [hrec]),?_⟩;obtain ⟨Wc,hWc⟩:=ah (Wb.putObj (D+1) (.loop { rec .ready none with state:=.busy }));rw [hWc];have hbc:ag (λk=>k=D+1) Wb Wc:=by rw [<-hWc];exact ag.putObj (T:=λk=>k=D+1) (ag.refl _ Wb) (λ_=>rfl) _
 have hlc:Wc.heap[D+1]? = some (.loop { rec .ready none with state:=.busy }):=by rw [<-hWc];exact World.putObj_heap_same Iw
 have ZF:Wc.heap[D]? = some (.deferred (some [])):=hbc.same LH zo;have abv:D+1<Wc.heap.size:=(Array.getElem?_eq_some_iff.1 hlc).1;refine wpIn_mono (hbody m (D+1) pre x a' Wa Wc zo (hI pre Wb Wc hib (hbc.mono λ_ _ h=>.inr (.inr h))) (hAx _ x a' Wb Wc hax hbc) hpre hi ((hab.mono λ_ _ h=>h.elim:ag (λk=>k=D+1) Wa Wb).trans hbc)) ?_
 -- what 'endRound' makes of it
 have fin:∀(j:Option Code) (Wd:World),ag (λk=>¬(k=D\/k=D+1)) Wc Wd ->
   (Instr.endRound (D+1) j).run P Wd= .ok (.bool j.isNone) (Wd.putObj (D+1) (.loop (rec (if j.isNone then .ready else .done) j))) /\
   (Wd.putObj (D+1) (.loop (rec (if j.isNone then .ready else .done) j))).heap[D+1]? = some (.loop (rec (if j.isNone then .ready else .done) j)) /\
   (Wd.putObj (D+1) (.loop (rec (if j.isNone then .ready else .done) j))).heap[D]? = some (.deferred (some [])):=λj Wd hcd=>by
  have hld:=hcd.same hlc (λh=>h (.inr rfl));have he:=run_endRound (P:=P) j hld;rw [hrec] at he ⊢;exact ⟨he,World.putObj_heap_same (Array.getElem?_eq_some_iff.1 hld).1,(World.putObj_heap_other zo).trans (hcd.same ZF (λh=>h (.inl rfl)))⟩
 have back:∀(o:Obj) (Wd:World),ag (λk=>T k\/k=D\/k=D+1) Wd (Wd.putObj (D+1) o):=λo Wd=>(ag.refl _ Wd).putObj (λ_=>.inr (.inr rfl)) o
 intro e a3 Wd hp;cases e with
 | normal =>
  obtain ⟨hcd,hid⟩:=hp;obtain ⟨h1,h2,h3⟩:=fin none Wd (hcd.mono λk _ h h'=>h (.inr h'));refine ⟨_,_,h1,.inl ⟨rfl,⟨hI _ _ _ hid (back _ Wd),h2,h3⟩,?_⟩⟩;refine (((hab.mono λ_ _ h=>h.elim:ag (λk=>¬K k) Wa Wb).trans (hbc.mono λk _ h hk=>(Bh k hk).2 h)).trans (hcd.mono λk _ h hk=>h (.inl hk))).putObj (λ_ hk=>(Bh _ hk).2 rfl) _
 | ret =>
  obtain ⟨hcd,hid⟩:=hp;obtain ⟨h1,h2,h3⟩:=fin (some .ret) Wd hcd;exact ⟨_,_,h1,.inr ⟨rfl,.ret,hIx _ _ _ _ hid (back _ Wd),h2,h3⟩⟩
 | exit id =>
  obtain ⟨hcd,hid⟩:=hp;obtain ⟨h1,h2,h3⟩:=fin (some (.exit id)) Wd hcd;exact ⟨_,_,h1,.inr ⟨rfl,.exit id,hIx _ _ _ _ hid (back _ Wd),h2,h3⟩⟩
 | goto t =>
  obtain ⟨hcd,hid⟩:=hp;obtain ⟨h1,h2,h3⟩:=fin (some (.goto t)) Wd hcd;exact ⟨_,_,h1,.inr ⟨rfl,.goto t,hIx _ _ _ _ hid (back _ Wd),h2,h3⟩⟩
 | panic ch=>exact hp.elim
 | outgrown=>exact hp.elim):P:=h
theorem ah4 {P:Prop} (h:P:=by
 have back:∀(o:Obj) (Wd:World),ag (λk=>T k\/k=D\/k=D+1) Wd (Wd.putObj (D+1) o):=λo Wd=>(ag.refl _ Wd).putObj (λ_=>.inr (.inr rfl)) o
 rintro e W2 ⟨⟨v,rfl⟩,h2⟩;rcases h2 with ⟨hi,hl,hd⟩|⟨pre,hpre,c,hi,hl,hd⟩
 ·have he:=run_endLoop (P:=P) hl (by rw [hrec];simp)
  rw [hrec] at he;have hlt:D+1<W2.heap.size:=(Array.getElem?_eq_some_iff.1 hl).1;exact ⟨none,_,he,hdone _ (by rw [World.putObj_size];omega) (hI _ _ _ hi (back _ W2)) ((World.putObj_heap_other zo).trans hd)⟩
 ·have he:=run_endLoop (P:=P) hl (by rw [hrec];simp)
  rw [hrec] at he;have hlt:D+1<W2.heap.size:=(Array.getElem?_eq_some_iff.1 hl).1;exact ⟨some c,_,he,(wpIn_wide (n:=0)).2 (hstop c pre _ (by rw [World.putObj_size];omega) hpre (hIx _ _ _ _ hi (back _ W2)) ((World.putObj_heap_other zo).trans hd))⟩):P:=h
theorem QH {P:Prop} (h:P:=by
 rw [<-hW1,<-hD];have:=World.alloc_heap_new (w.alloc (.deferred (some []))) (.loop (rec .ready none))
 rwa [World.size_alloc] at this):P:=h
theorem Iy {P:Prop} (h:P:=by
 rw [<-hW1,<-hD];exact (Below.heap_alloc _ _ _ zs).trans (World.alloc_heap_new w _)):P:=h
theorem Iz {P:Prop} (h:P:=by
 rw [<-hW1,hrec,<-hD];exact run_enterLoop_outer _ _ _ _ _):P:=h
theorem Il {α:Type} {P:Program} {g:Operand} {ps:Array Tmp} {assign body:Code} {Q:Exit->Act->World->Prop} {a:Act} {w:World}
  {gf:Nat} {lb:Array Value} (hg:a.eval g= .func (.func gf) #[] lb) (eg:∀args w,(callFunc gf args).run P w= .ok (.enter gf args) w)
  {encs:α->Array Value} {T K:Nat->Prop} {xs:List α} (hseq:yR P gf lb encs T K xs w) (hps:∀x,(encs x).size=ps.size)
  (hT:∀k,T k->k<w.heap.size) (hK:∀k,K k->k<w.heap.size)
  (I:List α->World->Prop) (Ix:Code->List α->World->Prop)
  (hI:∀pre A B,I pre A->ag (λk=>T k\/k=w.heap.size\/k=w.heap.size+1) A B->I pre B)
  (hIx:∀c pre A B,Ix c pre A->ag (λk=>T k\/k=w.heap.size\/k=w.heap.size+1) A B->Ix c pre B)
  (h0:I [] w) (Ax:Nat->α->Act->World->Prop) (hAx:∀N x a' A B,Ax N x a' A->ag (λk=>k=w.heap.size+1) A B->Ax N x a' B)
  (hassign:∀(m l:Nat) (x:α) (W:World) (C:Act->World->Prop),w.heap.size+2<=W.heap.size->(∀a' W',ag (λ_=>False) W W'->Ax W.heap.size x a' W'->C a' W') ->
   assign.wpIn (Fence.wide.inRound l) m P (Exit.then C (λ_ _ _=>False)) { tmps:=(ps.zip (encs x)).foldl (λt (p,v)=>t.setIfInBounds p v) a.tmps,defers:=[] } W)
  (hbody:∀(m l:Nat) (pre:List α) (x:α) (a':Act) (Wa W:World),w.heap.size+2<=W.heap.size->I pre W->Ax Wa.heap.size x a' W->pre++[x] <+: xs->I pre Wa->ag (λk=>k=w.heap.size+1) Wa W ->
   body.wpIn (Fence.wide.inRound l) m P (UH w.heap.size K I Ix (pre++[x]) W) a' W)
  (hdone:∀(W:World),w.heap.size+2<=W.heap.size->I xs W->W.heap[w.heap.size]? = some (.deferred (some []))->Q .normal { a with defers:=dB w.heap.size::a.defers } W)
  (hstop:∀(c:Code) (pre:List α) (W:World),w.heap.size+2<=W.heap.size->pre <+: xs->Ix c pre W->W.heap[w.heap.size]? = some (.deferred (some []))->c.wp P Q { a with defers:=dB w.heap.size::a.defers } W) :
  (Code.rangeFunc g ps assign body).wp P Q a w:=by
 refine (wpIn_wide (n:=0)).1 (wpIn_rangeFunc λfn _=>?_);obtain ⟨D,hD⟩:=ah (w.heap.size)
 -- the loop's record, in its three states
 obtain ⟨rec,hrec⟩:∃rec:LoopState->Option Code->Loop,rec=λs p=>{ state:=s,pending:=p,fn,tmps:=a.tmps,params:=ps,assign,body,defers:=D }:=⟨_,rfl⟩
 obtain ⟨W1,hW1⟩:=ah ((w.alloc (.deferred (some []))).alloc (.loop (rec .ready none)));have hent:(Instr.enterLoop fn a.tmps ps assign body none).run P w= .ok (D+1,[dB D]) W1:=by
  exact Iz
 have mH:ag (λ_=>False) w W1:=by rw [<-hW1];exact ((ag.refl _ w).alloc _).alloc _
 have hl1:W1.heap[D+1]? = some (.loop (rec .ready none)):=by
  exact QH
 have hd1:W1.heap[D]? = some (.deferred (some [])):=by
  exact Iy
 rw [hD] at hT hK hI hIx hAx hassign hbody hdone hstop;refine ⟨D+1,[dB D],W1,{ target:=.fn (.func gf) lb,args:=#[.func (.yield (D+1)) #[] #[]] },W1,gf,#[.func (.yield (D+1)) #[] #[]]++lb,W1,hent,?_,λ_ _=>trivial,?_,λh=>(by cases h),?_⟩
 ·simp only [resolve,hg]
  simp [go_sem]
 ·simp [invoke,go_sem,eg]
 -- what the iterator carries: the loop's invariant, the record, the block for deferred calls
 let J:List α->World->Prop:=λpre W=>I pre W/\W.heap[D+1]? = some (.loop (rec .ready none))/\W.heap[D]? = some (.deferred (some []))
 let Jx:List α->World->Prop:=λpre W=>∃c,Ix c pre W/\W.heap[D+1]? = some (.loop (rec .done (some c)))/\W.heap[D]? = some (.deferred (some []))
 have xz:∀k,T k->k≠D/\k≠D+1:=λk hk=>by have:=hT k hk;omega
 have Bh:∀k,K k->k≠D/\k≠D+1:=λk hk=>by have:=hK k hk;omega
 refine (hseq _ (D+1) J Jx W1 (mH.mono (λ_ _ h=>h.elim)) (λpre A B h hf=>⟨hI pre A B h.1 (hf.mono λ_ _ ht=>.inl ht),hf.same h.2.1 (λh=>(xz _ h).2 rfl),hf.same h.2.2 (λh=>(xz _ h).1 rfl)⟩)
  (λpre A B h hf=>by
   obtain ⟨c,h1,h2,h3⟩:=h;exact ⟨c,hIx c pre A B h1 (hf.mono λ_ _ ht=>.inl ht),hf.same h2 (λh=>(xz _ h).2 rfl),hf.same h3 (λh=>(xz _ h).1 rfl)⟩)
  ?_ ⟨hI [] w W1 h0 (mH.mono λ_ _ h=>h.elim),hl1,hd1⟩).mono ?_
 ·-- a round
  exact zT3
 ·-- behind the iterator
  exact ah4
theorem bL {P:Program} {f:FuncId} {fn:Func} {c:Code} {args:Array Value} {w:World} {R:Ending->World->Prop}
  (hf:P.funcs[f]? = some fn) (hb:fn.body=some c) (h:c.wp P (bodyPostM Fence.wide 0 P fn R) { tmps:=args++Array.replicate (fn.ntmps - args.size) undef,defers:=[] } w):Calls P f args w R :=
 (callsIn_wide (n:=0)).1 (callsIn_of_wp_marks hf hb trivial (wpIn_wide.2 h))
theorem dF {P:Program} {fn:Func} {tmps:Array Value} {w:World} {R:Ending->World->Prop} {D:Nat} {v:Value} (hd:w.heap[D]? = some (.deferred (some [])))
  (hres:(results fn tmps).run P (w.putObj D (.deferred none))= .ok v (w.putObj D (.deferred none))) (hR:R (.returned v) (w.putObj D (.deferred none))) :
  bodyPostM Fence.wide 0 P fn R .ret { tmps:=tmps,defers:=[dB D] } w :=
 ⟨zs,.inl ⟨_,_,rfl,run_takeDeferred hd,v,hres,hR⟩⟩
theorem iH {P:Program} {fn:Func} {tmps:Array Value} {w:World} {R:Ending->World->Prop} {v:Value}
  (hres:(results fn tmps).run P w= .ok v w) (hR:R (.returned v) w):bodyPostM Fence.wide 0 P fn R .ret { tmps:=tmps,defers:=[] } w:=⟨v,hres,hR⟩
theorem xA {w W:World} {D:Nat} (h:Below w.heap.size w W) (hD:w.heap.size<=D) (o:Obj):Below w.heap.size w (W.putObj D o) :=
 ⟨h.os,h.tape,h.output,by rw [World.putObj_size];exact h.size,λk hk=>(World.putObj_heap_other zo).trans (h.block k hk)⟩
theorem aC (k:Nat):Fence.wide.fn k=True:=rfl
theorem au:Fence.wide.depth=none:=rfl
theorem aB (k l:Nat):(Fence.wide.inRound l).fn k=True:=rfl
theorem ai (l:Nat):(Fence.wide.inRound l).depth=none:=rfl
def yS {α:Type} (P:Program) (g:Nat) (lb:Array Value) (encs:α->Array Value) (T K:Nat->Prop) (xs:List α) (w:World):Prop :=
 ∀(n l:Nat) (J Jx:(Nat->Prop)->List α->World->Prop) (W:World),ag (λk=>¬K k) w W ->
  (∀X pre A B,J X pre A->ag (λk=>T k\/X k) A B->J X pre B)->(∀X pre A B,Jx X pre A->ag (λk=>T k\/X k) A B->Jx X pre B) ->
  (∀X X' pre A,J X pre A->(∀k,X' k->X k\/A.heap.size<=k)->J X' pre A) ->
  (∀m X pre x W1,J X pre W1->(∀k,X k->k<W1.heap.size)->pre++[x] <+: xs->YieldAt Fence.wide m P l (encs x) W1 λe W' =>
   (e= .returned (.bool true)/\J X (pre++[x]) W'/\ag (λk=>¬(K k\/X k)) W1 W')\/(e= .returned (.bool false)/\Jx X (pre++[x]) W')) ->
  J (λ_=>False) [] W ->
  CallsIn Fence.wide n P g (#[.func (.yield l) #[] #[]]++lb) W λe W'=>(∃v,e= .returned v)/\((∃X,J X xs W')\/∃X pre,pre <+: xs/\Jx X pre W')
theorem yS.later {α:Type} {P:Program} {g:Nat} {lb:Array Value} {encs:α->Array Value} {T K:Nat->Prop} {xs:List α} {w w':World}
  (h:yS P g lb encs T K xs w) (hw:ag (λk=>¬K k) w w'):yS P g lb encs T K xs w' :=
 λn l J Jx W hW=>h n l J Jx W (hw.trans hW)
def UI {α:Type} (D:Nat) (K X:Nat->Prop) (I:(Nat->Prop)->List α->World->Prop) (Ix:Code->(Nat->Prop)->List α->World->Prop) (xs:List α) (W:World):Exit->Act->World->Prop
 | .normal,_,W'=>ag (λk=>¬(K k\/X k\/k=D\/k=D+1)) W W'/\I X xs W'
 | .ret,_,W'=>ag (λk=>¬(k=D\/k=D+1)) W W'/\Ix .ret X xs W'
 | .exit id,_,W'=>ag (λk=>¬(k=D\/k=D+1)) W W'/\Ix (.exit id) X xs W'
 | .goto t,_,W'=>ag (λk=>¬(k=D\/k=D+1)) W W'/\Ix (.goto t) X xs W'
 | .panic _,_,_=>False
 | .outgrown,_,_=>False
theorem ah5 {P:Prop} (h:P:=by
 have back:∀(Y:Nat->Prop) (o:Obj) (Wd:World),ag (λk=>T k\/Y k\/k=D\/k=D+1) Wd (Wd.putObj (D+1) o):=λY o Wd=>(ag.refl _ Wd).putObj (λ_=>.inr (.inr (.inr rfl))) o
 rintro e W2 ⟨⟨v,rfl⟩,h2⟩;rcases h2 with ⟨X,hi,hl,hd,_⟩|⟨X,pre,hpre,c,hi,hl,hd,_⟩
 ·have he:=run_endLoop (P:=P) hl (by rw [hrec];simp)
  rw [hrec] at he;have hlt:D+1<W2.heap.size:=(Array.getElem?_eq_some_iff.1 hl).1;exact ⟨none,_,he,hdone _ _ (by rw [World.putObj_size];omega) (hI _ _ _ _ hi (back _ _ W2)) ((World.putObj_heap_other zo).trans hd)⟩
 ·have he:=run_endLoop (P:=P) hl (by rw [hrec];simp)
  rw [hrec] at he;have hlt:D+1<W2.heap.size:=(Array.getElem?_eq_some_iff.1 hl).1;exact ⟨some c,_,he,(wpIn_wide (n:=0)).2 (hstop c _ pre _ (by rw [World.putObj_size];omega) hpre (hIx _ _ _ _ _ hi (back _ _ W2)) ((World.putObj_heap_other zo).trans hd))⟩):P:=h
theorem ah6 {P:Prop} (h:P:=by
 obtain ⟨hcd,hid⟩:=hp;obtain ⟨h1,h2,h3⟩:=fin none Wd (hcd.mono λk _ h h'=>h (.inr (.inr h')));refine ⟨_,_,h1,.inl ⟨rfl,⟨hI _ _ _ _ hid (back _ _ Wd),h2,h3,LJ,yF⟩,?_⟩⟩;refine (((hab.mono λ_ _ h=>h.elim:ag (λk=>¬(K k\/X k)) Wa Wb).trans (hbc.mono λk _ h hk=>hk.elim (λhk=>(Bh k hk).2 h) (λhk=>yF (h ▸ hk)))).trans (hcd.mono λk _ h hk=>h (hk.elim .inl (λh=>.inr (.inl h))))).putObj (λ_ hk=>hk.elim (λhk=>(Bh _ hk).2 rfl) yF) _):P:=h
theorem abw {P:Prop} (h:P:=by
 have hld:=hcd.same hlc (λh=>h (.inr rfl));have he:=run_endRound (P:=P) j hld;rw [hrec] at he ⊢;exact ⟨he,World.putObj_heap_same (Array.getElem?_eq_some_iff.1 hld).1,(World.putObj_heap_other zo).trans (hcd.same ZF (λh=>h (.inl rfl)))⟩):P:=h
theorem YE {α:Type} {P:Program} {g:Operand} {ps:Array Tmp} {assign body:Code} {Q:Exit->Act->World->Prop} {a:Act} {w:World}
  {gf:Nat} {lb:Array Value} (hg:a.eval g= .func (.func gf) #[] lb) (eg:∀args w,(callFunc gf args).run P w= .ok (.enter gf args) w)
  {encs:α->Array Value} {T K:Nat->Prop} {xs:List α} (hseq:yS P gf lb encs T K xs w) (hps:∀x,(encs x).size=ps.size)
  (hT:∀k,T k->k<w.heap.size) (hK:∀k,K k->k<w.heap.size)
  (I:(Nat->Prop)->List α->World->Prop) (Ix:Code->(Nat->Prop)->List α->World->Prop)
  (hI:∀X pre A B,I X pre A->ag (λk=>T k\/X k\/k=w.heap.size\/k=w.heap.size+1) A B->I X pre B)
  (hIx:∀c X pre A B,Ix c X pre A->ag (λk=>T k\/X k\/k=w.heap.size\/k=w.heap.size+1) A B->Ix c X pre B)
  (hnew:∀X X' pre A,I X pre A->(∀k,X' k->X k\/A.heap.size<=k)->I X' pre A)
  (h0:I (λ_=>False) [] w) (Ax:Nat->α->Act->World->Prop) (hAx:∀N x a' A B,Ax N x a' A->ag (λk=>k=w.heap.size+1) A B->Ax N x a' B)
  (hassign:∀(m l:Nat) (x:α) (W:World) (C:Act->World->Prop),w.heap.size+2<=W.heap.size->(∀a' W',ag (λ_=>False) W W'->Ax W.heap.size x a' W'->C a' W') ->
   assign.wpIn (Fence.wide.inRound l) m P (Exit.then C (λ_ _ _=>False)) { tmps:=(ps.zip (encs x)).foldl (λt (p,v)=>t.setIfInBounds p v) a.tmps,defers:=[] } W)
  (hbody:∀(m l:Nat) (X:Nat->Prop) (pre:List α) (x:α) (a':Act) (Wa W:World),w.heap.size+2<=W.heap.size->(∀k,X k->k<Wa.heap.size/\k≠w.heap.size/\k≠w.heap.size+1)->I X pre W->Ax Wa.heap.size x a' W->pre++[x] <+: xs->I X pre Wa->ag (λk=>k=w.heap.size+1) Wa W ->
   body.wpIn (Fence.wide.inRound l) m P (UI w.heap.size K X I Ix (pre++[x]) W) a' W)
  (hdone:∀(X:Nat->Prop) (W:World),w.heap.size+2<=W.heap.size->I X xs W->W.heap[w.heap.size]? = some (.deferred (some []))->Q .normal { a with defers:=dB w.heap.size::a.defers } W)
  (hstop:∀(c:Code) (X:Nat->Prop) (pre:List α) (W:World),w.heap.size+2<=W.heap.size->pre <+: xs->Ix c X pre W->W.heap[w.heap.size]? = some (.deferred (some []))->c.wp P Q { a with defers:=dB w.heap.size::a.defers } W) :
  (Code.rangeFunc g ps assign body).wp P Q a w:=by
 refine (wpIn_wide (n:=0)).1 (wpIn_rangeFunc λfn _=>?_);obtain ⟨D,hD⟩:=ah (w.heap.size)
 -- the loop's record, in its three states
 obtain ⟨rec,hrec⟩:∃rec:LoopState->Option Code->Loop,rec=λs p=>{ state:=s,pending:=p,fn,tmps:=a.tmps,params:=ps,assign,body,defers:=D }:=⟨_,rfl⟩
 obtain ⟨W1,hW1⟩:=ah ((w.alloc (.deferred (some []))).alloc (.loop (rec .ready none)));have hent:(Instr.enterLoop fn a.tmps ps assign body none).run P w= .ok (D+1,[dB D]) W1:=by
  exact Iz
 have mH:ag (λ_=>False) w W1:=by rw [<-hW1];exact ((ag.refl _ w).alloc _).alloc _
 have hl1:W1.heap[D+1]? = some (.loop (rec .ready none)):=by
  exact QH
 have hd1:W1.heap[D]? = some (.deferred (some [])):=by
  exact Iy
 rw [hD] at hT hK hI hIx hAx hassign hbody hdone hstop;refine ⟨D+1,[dB D],W1,{ target:=.fn (.func gf) lb,args:=#[.func (.yield (D+1)) #[] #[]] },W1,gf,#[.func (.yield (D+1)) #[] #[]]++lb,W1,hent,?_,λ_ _=>trivial,?_,λh=>(by cases h),?_⟩
 ·simp only [resolve,hg]
  simp [go_sem]
 ·simp [invoke,go_sem,eg]
 -- what the iterator carries: the loop's invariant, the record, the block for deferred calls
 let J:(Nat->Prop)->List α->World->Prop:=λX pre W=>I X pre W/\W.heap[D+1]? = some (.loop (rec .ready none))/\W.heap[D]? = some (.deferred (some []))/\¬X D/\¬X (D+1)
 let Jx:(Nat->Prop)->List α->World->Prop:=λX pre W=>∃c,Ix c X pre W/\W.heap[D+1]? = some (.loop (rec .done (some c)))/\W.heap[D]? = some (.deferred (some []))/\¬X D/\¬X (D+1)
 have xz:∀k,T k->k≠D/\k≠D+1:=λk hk=>by have:=hT k hk;omega
 have Bh:∀k,K k->k≠D/\k≠D+1:=λk hk=>by have:=hK k hk;omega
 have up:∀{X:Nat->Prop} {k:Nat},T k\/X k->T k\/X k\/k=D\/k=D+1:=λh=>h.elim .inl (λh=>.inr (.inl h))
 refine (hseq _ (D+1) J Jx W1 (mH.mono (λ_ _ h=>h.elim))
  (λX pre A B h hf=>⟨hI X pre A B h.1 (hf.mono λ_ _ ht=>up ht),hf.same h.2.1 (λh'=>h'.elim (λh=>(xz _ h).2 rfl) h.2.2.2.2),hf.same h.2.2.1 (λh'=>h'.elim (λh=>(xz _ h).1 rfl) h.2.2.2.1),h.2.2.2⟩)
  (λX pre A B h hf=>by
   obtain ⟨c,h1,h2,h3,h4,h5⟩:=h;exact ⟨c,hIx c X pre A B h1 (hf.mono λ_ _ ht=>up ht),hf.same h2 (λh'=>h'.elim (λh=>(xz _ h).2 rfl) h5),hf.same h3 (λh'=>h'.elim (λh=>(xz _ h).1 rfl) h4),h4,h5⟩)
  (λX X' pre A h hX=>by
   have l1:D<A.heap.size:=(Array.getElem?_eq_some_iff.1 h.2.2.1).1;have l2:D+1<A.heap.size:=(Array.getElem?_eq_some_iff.1 h.2.1).1;exact ⟨hnew X X' pre A h.1 hX,h.2.1,h.2.2.1,λhd=>(hX _ hd).elim h.2.2.2.1 (λh=>by omega),λhd=>(hX _ hd).elim h.2.2.2.2 (λh=>by omega)⟩)
  ?_ ⟨hI _ [] w W1 h0 (mH.mono λ_ _ h=>h.elim),hl1,hd1,id,id⟩).mono ?_
 ·-- a round
  rintro m X pre x Wa ⟨hi,hl,hd,LJ,yF⟩ hXlt hpre;have hlt:D+1<Wa.heap.size:=(Array.getElem?_eq_some_iff.1 hl).1;have hy:=run_yield (P:=P) (args:=encs x) hl (by rw [hrec];exact hps x);rw [hrec] at hy;refine ⟨fn,_,assign,body,hy,roundIn_of_wpIn trivial (hassign m (D+1) x Wa _ zo λa' Wb hab hax=>?_)⟩;have hlb:=hab.same hl id;have LH:=hab.same hd id;have hib:=hI X pre Wa Wb hi (hab.mono λ_ _ h=>h.elim);have Iw:D+1<Wb.heap.size:=(Array.getElem?_eq_some_iff.1 hlb).1;refine ⟨_,run_beginRound hlb (by rw [hrec]),?_⟩;obtain ⟨Wc,hWc⟩:=ah (Wb.putObj (D+1) (.loop { rec .ready none with state:=.busy }));rw [hWc];have hbc:ag (λk=>k=D+1) Wb Wc:=by rw [<-hWc];exact ag.putObj (T:=λk=>k=D+1) (ag.refl _ Wb) (λ_=>rfl) _
  have hlc:Wc.heap[D+1]? = some (.loop { rec .ready none with state:=.busy }):=by rw [<-hWc];exact World.putObj_heap_same Iw
  have ZF:Wc.heap[D]? = some (.deferred (some [])):=hbc.same LH zo;have abv:D+1<Wc.heap.size:=(Array.getElem?_eq_some_iff.1 hlc).1;refine wpIn_mono (hbody m (D+1) X pre x a' Wa Wc zo (λk hk=>⟨hXlt k hk,λh=>LJ (h ▸ hk),λh=>yF (h ▸ hk)⟩) (hI X pre Wb Wc hib (hbc.mono λ_ _ h=>.inr (.inr (.inr h)))) (hAx _ x a' Wb Wc hax hbc) hpre hi ((hab.mono λ_ _ h=>h.elim:ag (λk=>k=D+1) Wa Wb).trans hbc)) ?_
  -- what 'endRound' makes of it
  have fin:∀(j:Option Code) (Wd:World),ag (λk=>¬(k=D\/k=D+1)) Wc Wd ->
    (Instr.endRound (D+1) j).run P Wd= .ok (.bool j.isNone) (Wd.putObj (D+1) (.loop (rec (if j.isNone then .ready else .done) j))) /\
    (Wd.putObj (D+1) (.loop (rec (if j.isNone then .ready else .done) j))).heap[D+1]? = some (.loop (rec (if j.isNone then .ready else .done) j)) /\
    (Wd.putObj (D+1) (.loop (rec (if j.isNone then .ready else .done) j))).heap[D]? = some (.deferred (some [])):=λj Wd hcd=>by
   exact abw
  have back:∀(Y:Nat->Prop) (o:Obj) (Wd:World),ag (λk=>T k\/Y k\/k=D\/k=D+1) Wd (Wd.putObj (D+1) o):=λY o Wd=>(ag.refl _ Wd).putObj (λ_=>.inr (.inr (.inr rfl))) o
  intro e a3 Wd hp;cases e with
  | normal =>
   exact ah6
  | ret =>
   obtain ⟨hcd,hid⟩:=hp;obtain ⟨h1,h2,h3⟩:=fin (some .ret) Wd hcd;exact ⟨_,_,h1,.inr ⟨rfl,.ret,hIx _ _ _ _ _ hid (back _ _ Wd),h2,h3,LJ,yF⟩⟩
  | exit id =>
   obtain ⟨hcd,hid⟩:=hp;obtain ⟨h1,h2,h3⟩:=fin (some (.exit id)) Wd hcd;exact ⟨_,_,h1,.inr ⟨rfl,.exit id,hIx _ _ _ _ _ hid (back _ _ Wd),h2,h3,LJ,yF⟩⟩
  | goto t =>
   obtain ⟨hcd,hid⟩:=hp;obtain ⟨h1,h2,h3⟩:=fin (some (.goto t)) Wd hcd;exact ⟨_,_,h1,.inr ⟨rfl,.goto t,hIx _ _ _ _ _ hid (back _ _ Wd),h2,h3,LJ,yF⟩⟩
  | panic ch=>exact hp.elim
  | outgrown=>exact hp.elim
 ·-- behind the iterator
  exact ah5
abbrev Sp:=Int×Int
def bF (x:Sp):Bool:=decide (0<=x.1)&&decide (x.1<1024)&&decide (1<=x.2)&&decide (x.2<=1024 - x.1)
theorem av {x:Sp}:bF x=true↔0<=x.1/\x.1<1024/\1<=x.2/\x.2<=1024 - x.1:=by simp [bF,and_assoc]
def aV:Int->List Sp->Bool
 | _,[]=>true
 | e,x::r=>decide (e<x.1)&&aV (x.1+x.2) r
def eG (s:List Sp):Int:=if 512<s.length then 3 else if s.all bF=false then 7 else if aV (-1) s then 0 else 6
def mem (p:Int) (s:List Sp):Bool:=s.any λx=>decide (x.1<=p)&&decide (p<x.1+x.2)
def Can (s:List Sp):Prop:=(∀x∈s,bF x=true)/\aV (-1) s=true
theorem fT {p:Int}:mem p []=false:=rfl
theorem mem_cons {p:Int} {x:Sp} {s:List Sp}:mem p (x::s)=((decide (x.1<=p)&&decide (p<x.1+x.2))||mem p s):=rfl
theorem mem_append {p:Int} {s t:List Sp}:mem p (s++t)=(mem p s||mem p t):=by simp [mem]
theorem bH {p:Int} {x:Sp} {s:List Sp}:mem p (x::s)=true↔(x.1<=p/\p<x.1+x.2)\/mem p s=true:=by simp [mem_cons]
theorem aJ {e:Int} {x:Sp} {s:List Sp}:aV e (x::s)=true↔e<x.1/\aV (x.1+x.2) s=true:=by simp [aV]
theorem tF {e e':Int} {s:List Sp} (h:aV e s=true) (he:e'<=e):aV e' s=true:=by
 cases s with
 | nil=>rfl
 | cons x s=>rw [aJ] at h ⊢;exact ⟨zo,h.2⟩
theorem uW {p:Int}:∀{s:List Sp} {e:Int},aV e s=true->(∀x∈s,0<=x.2)->mem p s=true->e<p
 | [],_,_,_,h=>by simp [fT] at h
 | x::s,e,hf,hw,h=>by
  rw [aJ] at hf;have:=hw x zs;rcases bH.1 h with h|h
  ·omega
  ·have:=uW hf.2 (λy hy=>hw y (by simp [hy])) h
   omega
theorem uniq:∀(s t:List Sp) (e:Int),(∀x∈s,1<=x.2)->(∀x∈t,1<=x.2)->aV e s=true->aV e t=true->(∀p:Int,mem p s=mem p t)->s=t
 | [],[],_,_,_,_,_,_=>rfl
 | [],y::t,_,_,ht,_,_,h=>by
  have:=h y.1;have h1:=ht y zs;rw [fT,mem_cons] at this;simp at this;omega
 | x::s,[],_,hs,_,_,_,h=>by
  have:=h x.1;have h1:=hs x zs;rw [fT,mem_cons] at this;simp at this;omega
 | x::s,y::t,e,hs,ht,fs,ft,h=>by
  have hx:=hs x zs;have hy:=ht y zs;rw [aJ] at fs ft;have hs':∀z∈s,1<=z.2:=λz hz=>hs z (by simp [hz])
  have ht':∀z∈t,1<=z.2:=λz hz=>ht z (by simp [hz])
  have low:∀p,mem p s=true->x.1+x.2<p:=λp hp=>uW fs.2 (λz hz=>by have:=hs' z hz;omega) hp
  have YF:∀p,mem p t=true->y.1+y.2<p:=λp hp=>uW ft.2 (λz hz=>by have:=ht' z hz;omega) hp
  have e1:x.1=y.1:=by
   have a:=h x.1;have b:=h y.1;have a1:mem x.1 (x::s)=true:=bH.2 (.inl zo);have b1:mem y.1 (y::t)=true:=bH.2 (.inl zo);rw [a1] at a;rw [b1] at b;rcases bH.1 a.symm with h1|h1 <;> rcases bH.1 b with h2|h2
   ·omega
   ·have:=low _ h2;omega
   ·have:=YF _ h1;omega
   ·have:=low _ h2;have:=YF _ h1;omega
  have e2:x.2=y.2:=by
   have a:=h (x.1+x.2);have b:=h (y.1+y.2);have a1:mem (x.1+x.2) (x::s)=false:=by
    rw [Bool.eq_false_iff];intro hh;rcases bH.1 hh with h1|h1
    ·omega
    ·have:=low _ h1;omega
   have b1:mem (y.1+y.2) (y::t)=false:=by
    rw [Bool.eq_false_iff];intro hh;rcases bH.1 hh with h1|h1
    ·omega
    ·have:=YF _ h1;omega
   rw [a1] at a;rw [b1] at b;have a2:¬(y.1<=x.1+x.2/\x.1+x.2<y.1+y.2):=λhh=>by
    have:mem (x.1+x.2) (y::t)=true:=bH.2 (.inl hh);rw [<-a] at this;cases this
   have b2:¬(x.1<=y.1+y.2/\y.1+y.2<x.1+x.2):=λhh=>by
    have:mem (y.1+y.2) (x::s)=true:=bH.2 (.inl hh);rw [b] at this;cases this
   omega
  have exy:x=y:=Prod.ext e1 e2;subst exy;congr 1;refine uniq s t (x.1+x.2) hs' ht' fs.2 ft.2 λp=>?_
  have hp:=h p;rw [mem_cons,mem_cons] at hp;by_cases hin:x.1<=p/\p<x.1+x.2
  ·have z1:mem p s=false:=by rw [Bool.eq_false_iff];intro hh;have:=low _ hh;omega
   have z2:mem p t=false:=by rw [Bool.eq_false_iff];intro hh;have:=YF _ hh;omega
   rw [z1,z2]
  ·have:(decide (x.1<=p)&&decide (p<x.1+x.2))=false:=by simp;omega
   simpa [this] using hp
theorem Can.eq {s t:List Sp} (hs:Can s) (ht:Can t) (h:∀p:Int,mem p s=mem p t):s=t :=
 uniq s t (-1) (λx hx=>(av.1 (hs.1 x hx)).2.2.1) (λx hx=>(av.1 (ht.1 x hx)).2.2.1) hs.2 ht.2 h
theorem M3:∀(s:List Sp) (e:Int),e<1024->(∀x∈s,bF x=true)->aV e s=true->2*(s.length:Int)<=1024 - e
 | [],e,he,_,_=>by simp;omega
 | x::s,e,_,hv,hf=>by
  rw [aJ] at hf;have hx:=av.1 (hv x zs);cases s with
  | nil=>simp;omega
  | cons y r =>
   have hf2:=aJ.1 hf.2;have hy:=av.1 (hv y zs);have:=(M3 (y::r) (x.1+x.2) zo (λz hz=>hv z (List.mem_cons_of_mem _ hz)) hf.2);simp only [List.length_cons] at this ⊢;omega
theorem Can.len {s:List Sp} (h:Can s):s.length<=512:=by
 have:=M3 s (-1) zo h.1 h.2;omega
theorem bI {s:List Sp}:eG s=0↔Can s:=by
 unfold eG;constructor
 ·intro h
  split at h
  ·cases h
  ·split at h
   ·cases h
   ·split at h
    ·rename_i h1 h2 h3
     exact ⟨λx hx=>by simpa using List.all_eq_true.1 (by simpa using h2:s.all bF=true) x hx,h3⟩
    ·cases h
 ·intro h
  rw [if_neg (by have:=h.len;omega),if_neg (by rw [Bool.not_eq_false];exact List.all_eq_true.2 h.1),if_pos h.2]
def gK:Nat->List Sp->List Sp->List Sp
 | 0,_,_=>[]
 | _+1,[],_=>[]
 | _+1,_::_,[]=>[]
 | k+1,x::a,y::b =>
  (if max x.1 y.1<min (x.1+x.2) (y.1+y.2) then [(max x.1 y.1,min (x.1+x.2) (y.1+y.2) - max x.1 y.1)] else []) ++
   (if x.1+x.2<y.1+y.2 then gK k a (y::b) else gK k (x::a) b)
def az (a b:List Sp):List Sp:=gK (a.length+b.length) a b
theorem Dv {k:Nat} {b:List Sp}:gK k [] b=[]:=by cases k <;> rfl
theorem BB {k:Nat} {a:List Sp}:gK k a []=[]:=by cases k <;> cases a <;> rfl
theorem LK (x y:Sp) (a b:List Sp):az (x::a) (y::b) =
  (if max x.1 y.1<min (x.1+x.2) (y.1+y.2) then [(max x.1 y.1,min (x.1+x.2) (y.1+y.2) - max x.1 y.1)] else []) ++
   (if x.1+x.2<y.1+y.2 then az a (y::b) else az (x::a) b):=by
 unfold az;rw [show (x::a).length+(y::b).length=(a.length+(y::b).length)+1 by simp;omega];rw [gK];rw [show (x::a).length+b.length=a.length+(y::b).length by simp;omega]
theorem OB {b:List Sp}:az [] b=[]:=Dv
theorem LM {a:List Sp}:az a []=[]:=BB
theorem oM:∀(k:Nat) (a b:List Sp) (ea eb e:Int),(∀x∈a,0<=x.2)->(∀x∈b,0<=x.2)->aV ea a=true->aV eb b=true->(e<=ea\/e<=eb)->aV e (gK k a b)=true
 | 0,_,_,_,_,_,_,_,_,_,_=>rfl
 | _+1,[],_,_,_,_,_,_,_,_,_=>rfl
 | _+1,_::_,[],_,_,_,_,_,_,_,_=>rfl
 | k+1,x::a,y::b,ea,eb,e,ha,hb,fa,fb,he=>by
  have fa':=aJ.1 fa;have fb':=aJ.1 fb;have hx:=ha x zs;have hy:=hb y zs;have ha':∀z∈a,0<=z.2:=λz hz=>ha z (by simp [hz])
  have hb':∀z∈b,0<=z.2:=λz hz=>hb z (by simp [hz])
  rw [gK];by_cases hlt:max x.1 y.1<min (x.1+x.2) (y.1+y.2)
  ·rw [if_pos hlt,List.singleton_append,aJ]
   refine ⟨by simp only;omega,?_⟩;simp only;split
   ·exact oM k a (y::b) (x.1+x.2) eb _ ha' hb fa'.2 fb zo
   ·exact oM k (x::a) b ea (y.1+y.2) _ ha hb' fa fb'.2 zo
  ·rw [if_neg hlt,List.nil_append]
   split
   ·exact oM k a (y::b) (x.1+x.2) eb _ ha' hb fa'.2 fb zo
   ·exact oM k (x::a) b ea (y.1+y.2) _ ha hb' fa fb'.2 zo
theorem yT:∀(k:Nat) (a b:List Sp),(∀x∈a,bF x=true)->(∀x∈b,bF x=true)->∀x∈gK k a b,bF x=true
 | 0,_,_,_,_=>by simp [gK]
 | _+1,[],_,_,_=>by simp [gK]
 | _+1,_::_,[],_,_=>by simp [gK]
 | k+1,x::a,y::b,ha,hb=>by
  have hx:=av.1 (ha x zs);have hy:=av.1 (hb y zs);have ha':∀z∈a,bF z=true:=λz hz=>ha z (by simp [hz])
  have hb':∀z∈b,bF z=true:=λz hz=>hb z (by simp [hz])
  intro z hz;rw [gK,List.mem_append] at hz;rcases hz with hz|hz
  ·split at hz
   ·simp only [List.mem_singleton] at hz
    subst hz;rw [av];simp only;omega
   ·simp at hz
  ·split at hz
   ·exact yT k a (y::b) ha' hb z hz
   ·exact yT k (x::a) b ha hb' z hz
theorem iI (p:Int):∀(k:Nat) (a b:List Sp) (ea eb:Int),a.length+b.length<=k->(∀x∈a,0<=x.2)->(∀x∈b,0<=x.2)->aV ea a=true->aV eb b=true->mem p (gK k a b)=(mem p a&&mem p b)
 | 0,[],_,_,_,_,_,_,_,_=>rfl
 | _+1,[],_,_,_,_,_,_,_,_=>rfl
 | 0,_::_,_,_,_,h,_,_,_,_=>by simp at h
 | _+1,_::_,[],_,_,_,_,_,_,_=>by simp [gK,fT]
 | k+1,x::a,y::b,ea,eb,hk,ha,hb,fa,fb=>by
  have fa':=aJ.1 fa;have fb':=aJ.1 fb;have hx:=ha x zs;have hy:=hb y zs;have ha':∀z∈a,0<=z.2:=λz hz=>ha z (by simp [hz])
  have hb':∀z∈b,0<=z.2:=λz hz=>hb z (by simp [hz])
  have an8:mem p a=true->x.1+x.2<p:=λhp=>uW fa'.2 ha' hp
  have an9:mem p b=true->y.1+y.2<p:=λhp=>uW fb'.2 hb' hp
  simp only [List.length_cons] at hk;have hpc:mem p (if max x.1 y.1<min (x.1+x.2) (y.1+y.2) then [(max x.1 y.1,min (x.1+x.2) (y.1+y.2) - max x.1 y.1)] else [])=true↔(x.1<=p/\p<x.1+x.2)/\(y.1<=p/\p<y.1+y.2):=by
   split
   ·rw [bH];simp only [fT];simp;omega
   ·simp only [fT];simp;omega
  rw [gK,mem_append,Bool.eq_iff_iff,Bool.or_eq_true,hpc,Bool.and_eq_true,bH,bH];by_cases hlt:x.1+x.2<y.1+y.2
  ·rw [if_pos hlt,iI p k a (y::b) (x.1+x.2) eb (by simp;omega) ha' hb fa'.2 fb,Bool.and_eq_true,bH]
   constructor
   ·rintro (⟨h1,h2⟩|⟨h1,h2⟩)
    ·exact ⟨.inl h1,.inl h2⟩
    ·exact ⟨.inr h1,h2⟩
   ·rintro ⟨h1|h1,h2⟩
    ·rcases h2 with h2|h2
     ·exact .inl ⟨h1,h2⟩
     ·have:=an9 h2;omega
    ·exact .inr ⟨h1,h2⟩
  ·rw [if_neg hlt,iI p k (x::a) b ea (y.1+y.2) (by simp;omega) ha hb' fa fb'.2,Bool.and_eq_true,bH]
   constructor
   ·rintro (⟨h1,h2⟩|⟨h1,h2⟩)
    ·exact ⟨.inl h1,.inl h2⟩
    ·exact ⟨h1,.inr h2⟩
   ·rintro ⟨h1,h2|h2⟩
    ·rcases h1 with h1|h1
     ·exact .inl ⟨h1,h2⟩
     ·have:=an8 h1;omega
    ·exact .inr ⟨h1,h2⟩
theorem Can.common {a b:List Sp} (ha:Can a) (hb:Can b):Can (az a b) :=
 ⟨yT _ a b ha.1 hb.1,oM _ a b (-1) (-1) (-1) (λx hx=>by have:=(av.1 (ha.1 x hx)).2.2.1;omega) (λx hx=>by have:=(av.1 (hb.1 x hx)).2.2.1;omega) ha.2 hb.2 (.inl zo)⟩
theorem Can.iI {a b:List Sp} (ha:Can a) (hb:Can b) (p:Int):mem p (az a b)=(mem p a&&mem p b) :=
 Go.Pol.iI p _ a b (-1) (-1) (Nat.le_refl _) (λx hx=>by have:=(av.1 (ha.1 x hx)).2.2.1;omega) (λx hx=>by have:=(av.1 (hb.1 x hx)).2.2.1;omega) ha.2 hb.2
theorem Can.one {x:Sp} (h:bF x=true):Can [x]:=⟨by simpa using h,by rw [aJ];have:=(av.1 h).1;exact ⟨zo,rfl⟩⟩
theorem iY {p:Int} {x:Sp}:mem p [x]=true↔x.1<=p/\p<x.1+x.2:=by simp [mem]
def oN:Int->Int->List Sp->List Sp
 | n,e,[]=>if n<e then [(n,e - n)] else []
 | n,e,x::r=>(if n<x.1 then [(n,x.1 - n)] else [])++oN (x.1+x.2) e r
def aZ (s:List Sp) (i:Sp):List Sp:=oN i.1 (i.1+i.2) (az s [i])
theorem Cm:∀(l:List Sp) (n e n':Int),n'<n->(∀x∈l,1<=x.2)->aV (n - 1) l=true->aV n' (oN n e l)=true
 | [],n,e,n',h,_,_=>by
  rw [oN];split
  ·rw [aJ];exact ⟨h,rfl⟩
  ·rfl
 | x::r,n,e,n',h,hw,hf=>by
  have hf':=aJ.1 hf;have hx:=hw x zs;have hw':∀z∈r,1<=z.2:=λz hz=>hw z (by simp [hz])
  rw [oN];split
  ·rw [List.singleton_append,aJ]
   exact ⟨h,Cm r (x.1+x.2) e _ (by simp only;omega) hw' (tF hf'.2 zo)⟩
  ·rw [List.nil_append]
   exact Cm r (x.1+x.2) e _ zo hw' (tF hf'.2 zo)
theorem M9:∀(l:List Sp) (n e:Int),0<=n->e<=1024->(∀x∈l,bF x=true)->∀x∈oN n e l,bF x=true
 | [],n,e,h0,h1,_=>by
  rw [oN];intro x hx;split at hx
  ·simp only [List.mem_singleton] at hx;subst hx;rw [av];simp only;omega
  ·simp at hx
 | x::r,n,e,h0,h1,hv=>by
  have hx:=av.1 (hv x zs);rw [oN];intro y hy;rw [List.mem_append] at hy;rcases hy with hy|hy
  ·split at hy
   ·simp only [List.mem_singleton] at hy;subst hy;rw [av];simp only;omega
   ·simp at hy
  ·exact M9 r _ e zo h1 (λz hz=>hv z (by simp [hz])) y hy
theorem Na (p:Int):∀(l:List Sp) (n e:Int),n<=e->(∀x∈l,1<=x.2/\x.1+x.2<=e)->aV (n - 1) l=true->(mem p (oN n e l)=true↔(n<=p/\p<e)/\mem p l=false)
 | [],n,e,_,_,_=>by
  rw [oN];split
  ·rw [bH];simp [fT];omega
  ·simp [fT];omega
 | x::r,n,e,hne,hw,hf=>by
  have hf':=aJ.1 hf;have hx:=hw x zs;have hw':∀z∈r,1<=z.2/\z.1+z.2<=e:=λz hz=>hw z (by simp [hz])
  have low:mem p r=true->x.1+x.2<p:=λhp=>uW hf'.2 (λz hz=>by have:=hw' z hz;omega) hp
  have ih:=Na p r (x.1+x.2) e zo hw' (tF hf'.2 zo);have h1:mem p (if n<x.1 then [(n,x.1 - n)] else [])=true↔n<=p/\p<x.1:=by
   split
   ·rw [bH];simp [fT];omega
   ·simp [fT];omega
  have h2:mem p (x::r)=false↔¬(x.1<=p/\p<x.1+x.2)/\mem p r=false:=by rw [mem_cons];simp
  rw [oN,mem_append,Bool.or_eq_true,h1,ih,h2];constructor
  ·rintro (h|⟨h,hr⟩)
   ·refine ⟨zo,zo,?_⟩
    rw [Bool.eq_false_iff];intro hh;have:=low hh;omega
   ·exact ⟨zo,zo,hr⟩
  ·rintro ⟨h,hn,hr⟩
   by_cases hp:p<x.1
   ·exact .inl zo
   ·exact .inr ⟨zo,hr⟩
theorem Can.FV {s:List Sp} {i:Sp} (hs:Can s) (hi:bF i=true):Can (aZ s i)/\∀p,mem p (aZ s i)=true↔(i.1<=p/\p<i.1+i.2)/\mem p s=false:=by
 have hi':=av.1 hi;have hc:=hs.common (Can.one hi);have hm:=hs.iI (Can.one hi);have hin:∀x∈az s [i],i.1<=x.1/\x.1+x.2<=i.1+i.2:=λx hx=>by
  have hv:=av.1 (hc.1 x hx);have hx1:mem x.1 (az s [i])=true:=List.any_eq_true.2 ⟨x,hx,by simp;omega⟩;have hx2:mem (x.1+x.2 - 1) (az s [i])=true:=List.any_eq_true.2 ⟨x,hx,by simp;omega⟩;rw [hm,Bool.and_eq_true,iY] at hx1 hx2;omega
 have hf:aV (i.1 - 1) (az s [i])=true:=by
  have:=hc.2;cases hl:az s [i] with
  | nil=>rfl
  | cons x r =>
   rw [hl] at this hin;rw [aJ] at this ⊢;have hh:=this;have:=hin x zs;exact ⟨zo,hh.2⟩
 refine ⟨⟨M9 _ _ _ hi'.1 zo hc.1,Cm _ _ _ _ zo (λx hx=>(av.1 (hc.1 x hx)).2.2.1) hf⟩,λp=>?_⟩;unfold aZ;rw [Na p _ _ _ zo (λx hx=>⟨(av.1 (hc.1 x hx)).2.2.1,(hin x hx).2⟩) hf,hm];constructor
 ·rintro ⟨h1,h2⟩
  have:mem p [i]=true:=iY.2 h1;rw [this,Bool.and_true] at h2;exact ⟨h1,h2⟩
 ·rintro ⟨h1,h2⟩
  exact ⟨h1,by rw [h2];rfl⟩
def bump (l:List Sp):List Sp:=match l.reverse with|[]=>[]|x::r=>r.reverse++[(x.1,x.2+1)]
theorem IA (l:List Sp) (x:Sp):bump (l++[x])=l++[(x.1,x.2+1)]:=by simp [bump]
def fV (f:Nat->Bool):Nat->List Sp
 | 0=>[]
 | p+1=>if f p then (if decide (0<p)&&f (p - 1) then bump (fV f p) else fV f p++[((p:Int),1)]) else fV f p
def Cn:Int->List Sp->Int
 | e,[]=>e
 | _,x::r=>Cn (x.1+x.2) r
theorem yU (e:Int):∀(l:List Sp) (x:Sp),Cn e (l++[x])=x.1+x.2
 | [],_=>rfl
 | y::r,x=>yU (y.1+y.2) r x
theorem mf:∀(l:List Sp) (e:Int) (x:Sp),aV e (l++[x])=true↔aV e l=true/\Cn e l<x.1
 | [],e,x=>by simp [aV,Cn]
 | y::r,e,x=>by rw [List.cons_append,aJ,aJ,mf r,Cn];simp only [and_assoc]
theorem og {p:Int} {l:List Sp} {x:Sp}:mem p (l++[x])=true↔mem p l=true\/(x.1<=p/\p<x.1+x.2):=by rw [mem_append,Bool.or_eq_true,iY]
structure aln (f:Nat->Bool) (p:Nat) (l:List Sp):Prop where
 wid:∀x∈l,0<=x.1/\1<=x.2/\x.1+x.2<=p
 form:aV (-1) l=true
 mem:∀q:Int,mem q l=true↔(0<=q/\q<p)/\f q.toNat=true
 last:0<p->f (p - 1)=true->∃(r:List Sp) (x:Sp),l=r++[x]/\x.1+x.2=(p:Int)
 open_:(0<p->f (p - 1)=false)->Cn (-1) l<p
theorem wE (f:Nat->Bool):∀p,aln f p (fV f p)
 | 0=>⟨by simp [fV],rfl,λq=>by simp [fV,fT];omega,λh=>absurd h zo,λ_=>by simp [fV,Cn]⟩
 | p+1=>by
  have ih:=wE f p;rw [fV];by_cases hp:f p=true
  ·rw [if_pos hp]
   by_cases hq:0<p/\f (p - 1)=true
   ·rw [if_pos (by simp [hq])]
    obtain ⟨r,x,hl,hx⟩:=ih.last hq.1 hq.2;have hw:=ih.wid;have hf:=ih.form;have hm:=ih.mem;rw [hl] at hw hf hm ⊢;rw [IA];refine ⟨λy hy=>?_,?_,λq=>?_,λ_ _=>⟨r,_,rfl,by simp only;omega⟩,λh=>?_⟩
    ·rw [List.mem_append,List.mem_singleton] at hy
     rcases hy with hy|rfl
     ·have:=hw y (by simp [hy]);omega
     ·have:=hw x zs;simp only;omega
    ·rw [mf] at hf ⊢;exact hf
    ·have h1:=hm q
     rw [og] at h1 ⊢;simp only;have hx':=hw x zs;by_cases yG:q=(p:Int)
     ·constructor
      ·intro _;exact ⟨zo,by rw [yG];simpa using hp⟩
      ·intro _;right;omega
     ·constructor
      ·rintro (h|h)
       ·have:=h1.1 (.inl h)
        exact ⟨zo,this.2⟩
       ·have:=h1.1 (.inr zo)
        exact ⟨zo,this.2⟩
      ·rintro ⟨h2,h3⟩
       rcases h1.2 ⟨zo,h3⟩ with h|h
       ·exact .inl h
       ·exact .inr zo
    ·rw [Nat.add_sub_cancel] at h
     have:=h zo;rw [hp] at this;cases this
   ·rw [if_neg (by simpa using hq)]
    have hop:=ih.open_ (λh0=>by
     cases h:f (p - 1) with
     | false=>rfl
     | true=>exact absurd ⟨h0,h⟩ hq)
    refine ⟨λy hy=>?_,?_,λq=>?_,λ_ _=>⟨_,_,rfl,by simp only;omega⟩,λh=>?_⟩
    ·rw [List.mem_append,List.mem_singleton] at hy
     rcases hy with hy|rfl
     ·have:=ih.wid y hy;omega
     ·simp only;omega
    ·rw [mf];exact ⟨ih.form,hop⟩
    ·rw [og,ih.mem q]
     simp only;by_cases yG:q=p
     ·subst yG
      constructor
      ·intro _;exact ⟨zo,by simpa using hp⟩
      ·intro _;right;omega
     ·constructor
      ·rintro (⟨h,h2⟩|h)
       ·exact ⟨zo,h2⟩
       ·omega
      ·rintro ⟨h,h2⟩;exact .inl ⟨zo,h2⟩
    ·rw [Nat.add_sub_cancel] at h
     have:=h zo;rw [hp] at this;cases this
  ·rw [if_neg hp]
   have hp':=QE hp;refine ⟨λy hy=>by have:=ih.wid y hy;omega,ih.form,λq=>?_,λ_ h=>?_,λ_=>?_⟩
   ·rw [ih.mem q]
    constructor
    ·rintro ⟨h1,h2⟩;exact ⟨zo,h2⟩
    ·rintro ⟨h1,h2⟩
     refine ⟨?_,h2⟩;by_cases yG:q=p
     ·subst yG;rw [Int.toNat_natCast,hp'] at h2;cases h2
     ·omega
   ·rw [Nat.add_sub_cancel,hp'] at h;cases h
   ·by_cases hq:0<p/\f (p - 1)=true
    ·obtain ⟨r,x,hl,hx⟩:=ih.last hq.1 hq.2
     rw [hl,yU,hx];omega
    ·have:=ih.open_ (λh0=>by
      cases h:f (p - 1) with
      | false=>rfl
      | true=>exact absurd ⟨h0,h⟩ hq)
     omega
def ji (f:Nat->Bool):List Sp:=fV f 1024
theorem EE (f:Nat->Bool):Can (ji f):=⟨λx hx=>by have:=(wE f 1024).wid x hx;rw [av];omega,(wE f 1024).form⟩
theorem EF (f:Nat->Bool) (q:Int):mem q (ji f)=true↔(0<=q/\q<1024)/\f q.toNat=true:=(wE f 1024).mem q
theorem Can.range {s:List Sp} (h:Can s) {p:Int} (hp:mem p s=true):0<=p/\p<1024:=by
 obtain ⟨x,hx,hh⟩:=List.any_eq_true.1 hp;have:=av.1 (h.1 x hx);simp at hh;omega
theorem Can.oO {s:List Sp} (h:Can s) (f:Nat->Bool) (hf:∀p:Nat,p<1024->f p=mem p s):s=ji f:=by
 refine h.eq (EE f) λp=>?_
 rw [Bool.eq_iff_iff,EF];constructor
 ·intro hp
  have:=h.range hp;refine ⟨this,?_⟩;rw [hf _ zo,Int.toNat_of_nonneg this.1];exact hp
 ·rintro ⟨h1,h2⟩
  rw [hf _ zo,Int.toNat_of_nonneg h1.1] at h2;exact h2
def ax (us:List Sp):List Value:=us.flatMap λx=>[zI x.1,zI x.2]
theorem dN (us:List Sp):(ax us).length=us.length*2:=by
 induction us with
 | nil=>rfl
 | cons x r ih=>simp only [ax,List.flatMap_cons,List.length_append,List.length_cons,List.length_nil] at ih ⊢;omega
theorem eZ (us:List Sp) (x:Sp):ax (us++[x])=ax us++[zI x.1,zI x.2]:=by simp [ax]
theorem qJ:∀(us:List Sp) (k:Nat),k<us.length->(ax us)[k*2]? = some (zI (us.getD k (0,0)).1)/\(ax us)[k*2+1]? = some (zI (us.getD k (0,0)).2)
 | [],k,h=>by simp at h
 | x::r,0,_=>by simp [ax]
 | x::r,k+1,h=>by
  have ih:=qJ r k (by simpa using h);have e:ax (x::r) = zI x.1 :: zI x.2::ax r:=by simp [ax]
  rw [e,show (k+1)*2=k*2+1+1 by omega];simpa using ih
section
variable {T:Nat->Prop} {w w':World} {base:Nat} {e:TypeId} {size:Nat} {v:Value} {n:Nat} {xs:List Value} {us:List Sp}
theorem aN (h:w.ownsRow base e size v n xs) (hf:ag T w w') (hT:∀g,v.ownBlock=some g->¬T g):w'.ownsRow base e size v n xs:=by
 refine ⟨h.1,?_⟩;rcases h.2 with hn|⟨g,cap,cur,rfl,hb,hg,rest⟩
 ·exact .inl hn
 ·exact .inr ⟨g,cap,cur,rfl,hb,hf.same hg (hT g rfl),rest⟩
theorem aI (h:w.ownsRow base e size v n xs) (hf:Below w.heap.size w w'):w'.ownsRow base e size v n xs:=aN (T:=λ_=>False) h (.of_below hf) (λ_ _ h=>h)
theorem qC {base':Nat} (h:w.ownsRow base e size v n xs) (hb:base'<=base):w.ownsRow base' e size v n xs:=by
 refine ⟨h.1,?_⟩;rcases h.2 with hn|⟨g,cap,cur,rfl,hb',rest⟩
 ·exact .inl hn
 ·exact .inr ⟨g,cap,cur,rfl,zo,rest⟩
theorem ag.grown {A B C:World} {row:Option Nat} (h:ag T A B) (hg:B.grownBy C row) (hr:∀r,row=some r->r<A.heap.size->T r):ag T A C :=
 ⟨hg.os.trans h.os,hg.tape.trans h.tape,hg.output.trans h.output,Nat.le_trans h.size hg.size,λk hk hT=>(hg.block k (Nat.lt_of_lt_of_le hk h.size) (λe=>hT (hr k e.symm hk))).trans (h.block k hk hT)⟩
theorem lQ (h:w.ownsRow base e 2 v n (ax us)) (hn:us.length=n):∃(A:Option Addr) (cap:Nat),v= .slice A n cap/\RU w w.heap.size A us/\n<=cap/\cap<=maxLen/\(∀b o,A=some ⟨b,o,none⟩->base<=b)/\(us=[]\/A≠none):=by
 have hv:=h;rcases h.2 with ⟨rfl,h0⟩|⟨g,cap,cur,rfl,hg,hk,hnc,hcm,_⟩
 ·subst h0
  obtain rfl:us=[]:=List.eq_nil_of_length_eq_zero hn;exact ⟨none,0,rfl,RU.nil,Nat.le_refl _,by unfold maxLen;omega,λb o e=>(by cases e),.inl rfl⟩
 ·refine ⟨_,cap,rfl,λk hk'=>?_,hnc,hcm,λb o e=>by cases e;exact hg,.inr zs⟩
  have h2:=qJ us k hk';have h0:=hv.cellAt (k*2) zo;have h1:=hv.cellAt (k*2+1) zo;refine ⟨g,0,rfl,af.lt hk,?_,?_⟩
  ·rw [Nat.zero_add,h0];exact h2.1
  ·rw [Nat.zero_add,h1];exact h2.2
theorem IB {A:Option Addr} {cap m:Nat} (h:w.ownsRow base e size (.slice A n cap) m xs) (hA:A=none):cap=0:=by
 rcases h.2 with ⟨h0,_⟩|⟨g,cap',cur,h0,_⟩
 ·cases h0;rfl
 ·cases h0;cases hA
theorem fF (h:w.ownsRow base e 2 v n (ax us)) (hn:us.length=n):∃(A:Option Addr) (cap:Nat),v= .slice A n cap:=by
 obtain ⟨A,cap,hv,_⟩:=lQ h hn;exact ⟨A,cap,hv⟩
theorem af.not_row {g:Nat} {t:TypeId} {cs:Array Value} (h:af w g t cs) (hr:w.ownsRow base e size v n xs) (hte:t≠e):v.ownBlock≠some g:=by
 rcases hr.2 with ⟨rfl,_⟩|⟨g',cap,cur,rfl,_,hgb,_⟩
 ·simp [Value.ownBlock]
 ·intro e'
  obtain rfl:g'=g:=by simpa [Value.ownBlock] using e'
  unfold af at h;rw [h] at hgb;simp at hgb;exact hte hgb.2
theorem jW {g:Nat} {t:TypeId} {a b:Int} (h:af w g t #[zI a,zI b]):∀(j:Nat) (u:Value),[zI a,zI b][j]? = some u->w.cell? ((⟨g,0,none⟩:Addr).add j)=some u:=by
 intro j u hu;rw [dM,Nat.zero_add];rw [h.cell];simpa using hu
theorem jm {a b:Int}:∀u∈[zI a,zI b],u.oneCell'=true:=by
 intro u hu;simp only [List.mem_cons,List.not_mem_nil,or_false] at hu;rcases hu with rfl|rfl <;> rfl
end
structure wF (w:World) (B:Nat) (tb te:TypeId) (base:Nat) (us:List Sp):Prop where
 ex:∃v,af w B tb #[v]/\w.ownsRow base te 2 v us.length (ax us)/\(v = zN↔us=[])
theorem wF.far {T:Nat->Prop} {w w':World} {B:Nat} {tb te:TypeId} {base:Nat} {us:List Sp} (h:wF w B tb te base us) (hf:ag T w w') (hB:¬T B) (hT:∀g,base<=g->¬T g):wF w' B tb te base us:=by
 obtain ⟨v,h1,h2,h3⟩:=h.ex;exact ⟨v,hf.blk h1 hB,aN h2 hf (λg hg=>hT g (h2.lt g hg).1),h3⟩
theorem ah7 {P:Prop} (h:P:=by
 have mH:ag (λk=>k=B) w1 (w1.setCell ⟨B,0,none⟩ v'):=ag.setCell (T:=λk=>k=B) (p:=⟨B,0,none⟩) (ag.refl _ _) (λ_=>rfl) v';exact aN hown mH (λg hg' e=>by subst e;exact hv1.not_row hown hte hg')):P:=h
theorem ah8 {P:Prop} (h:P:=by
 have h1:ag T w (w.alloc tmp):=(ag.refl T w).alloc tmp;refine (h1.grown hg (λr e hr=>?_)).setCell (p:=⟨B,0,none⟩) (λ_=>hTB) v';exact hT r e):P:=h
theorem wF.appended {w w1:World} {B:Nat} {tb te:TypeId} {base:Nat} {us eU:List Sp} {v v':Value} {tmp:Obj} {m:Nat} (hv:af w B tb #[v]) (hte:tb≠te) (hrow:w.ownsRow base te 2 v us.length (ax us))
  (hown:w1.ownsRow base te 2 v' m (ax eU)) (hm:m=eU.length) (hne:eU≠[]) (hg:(w.alloc tmp).grownBy w1 v.ownBlock) :
  af w1 B tb #[v]/\wF (w1.setCell ⟨B,0,none⟩ v') B tb te base eU/\∀(T:Nat->Prop),T B->(∀g,v.ownBlock=some g->T g)->ag T w (w1.setCell ⟨B,0,none⟩ v'):=by
 subst hm;have hv1:af w1 B tb #[v]:=(hv.alloc tmp).grown hg (λe=>hv.not_row hrow hte e.symm);refine ⟨hv1,⟨v',by simpa using hv1.aM 0 v',?_,?_⟩,λT hTB hT=>?_⟩
 ·exact ah7
 ·constructor
  ·intro e
   subst e;rcases hown.2 with ⟨_,h0⟩|⟨g,cap,cur,e,_⟩
   ·exact List.eq_nil_of_length_eq_zero h0
   ·cases e
  ·intro e;exact absurd e hne
 ·exact ah8
theorem IC {W:World} {p q:Nat} {t t':TypeId} {x y:Value} (hpq:p≠q) (k1:af W p t #[x]) (k2:af W q t' #[y]) (a b:Value) :
  af ((W.setCell ⟨p,0,none⟩ a).setCell ⟨q,0,none⟩ b) p t #[a]/\af ((W.setCell ⟨p,0,none⟩ a).setCell ⟨q,0,none⟩ b) q t' #[b] /\
   ag (λk=>k=p\/k=q) W ((W.setCell ⟨p,0,none⟩ a).setCell ⟨q,0,none⟩ b):=by
 have h1:af (W.setCell ⟨p,0,none⟩ a) p t #[a]:=k1.aM 0 a;have h2:af (W.setCell ⟨p,0,none⟩ a) q t' #[y]:=k2.far (p:=⟨p,0,none⟩) (Ne.symm hpq) a;exact ⟨h1.far (p:=⟨q,0,none⟩) hpq b,h2.aM 0 b,ag.setCell (T:=λk=>k=p\/k=q) (p:=⟨q,0,none⟩) (ag.setCell (T:=λk=>k=p\/k=q) (p:=⟨p,0,none⟩) (ag.refl _ _) (λ_=>.inl rfl) a) (λ_=>.inr rfl) b⟩
abbrev spA (x:Sp):Array Value:=#[.agg #[zI x.1,zI x.2]]
theorem ah9 {P:Prop} (h:P:=by
 intro m l x W C hs hC;have e:(#[pb].zip (spA x)).foldl (λt (p,v)=>t.setIfInBounds p v) a.tmps=a.tmps.setIfInBounds pb (.agg #[zI x.1,zI x.2]):=by simp [spA]
 rw [e];exact hassign m l x W C (hC _ _ ((ag.refl _ W).alloc _) ⟨W.heap.size,Nat.le_refl _,hs,af.new _ _ _,rfl⟩)):P:=h
theorem QI {P:Program} {g:Operand} {ps:Array Tmp} {assign body:Code} {Q:Exit->Act->World->Prop} {a:Act} {w:World} (ib pb:Nat) (tE:TypeId)
  {gf:Nat} {lb:Array Value} (hg:a.eval g= .func (.func gf) #[] lb) (eg:∀args w,(callFunc gf args).run P w= .ok (.enter gf args) w)
  {T K:Nat->Prop} {xs:List Sp} (hseq:yR P gf lb spA T K xs w) (hps:ps=#[pb])
  (hT:∀k,T k->k<w.heap.size) (hK:∀k,K k->k<w.heap.size)
  (I:List Sp->World->Prop) (Ix:Code->List Sp->World->Prop)
  (hI:∀pre A B,I pre A->ag (λk=>T k\/k=w.heap.size\/k=w.heap.size+1) A B->I pre B)
  (hIx:∀c pre A B,Ix c pre A->ag (λk=>T k\/k=w.heap.size\/k=w.heap.size+1) A B->Ix c pre B)
  (h0:I [] w)
  (hassign:∀(m l:Nat) (x:Sp) (W:World) (C:Act->World->Prop),
   C { tmps:=(a.tmps.setIfInBounds pb (.agg #[zI x.1,zI x.2])).setIfInBounds ib (zP W.heap.size),defers:=[] } (W.alloc (.cells #[zI x.1,zI x.2] tE)) ->
   assign.wpIn (Fence.wide.inRound l) m P (Exit.then C (λ_ _ _=>False)) { tmps:=a.tmps.setIfInBounds pb (.agg #[zI x.1,zI x.2]),defers:=[] } W)
  (hbody:∀(m l:Nat) (pre:List Sp) (x:Sp) (Bx:Nat) (Wa W:World),w.heap.size+2<=W.heap.size->I pre W->pre++[x] <+: xs->w.heap.size+2<=Bx->af W Bx tE #[zI x.1,zI x.2]->Wa.heap.size<=Bx->I pre Wa->ag (λk=>k=w.heap.size+1) Wa W ->
   body.wpIn (Fence.wide.inRound l) m P (UH w.heap.size K I Ix (pre++[x]) W) { tmps:=(a.tmps.setIfInBounds pb (.agg #[zI x.1,zI x.2])).setIfInBounds ib (zP Bx),defers:=[] } W)
  (hdone:∀(W:World),w.heap.size+2<=W.heap.size->I xs W->W.heap[w.heap.size]? = some (.deferred (some []))->Q .normal { a with defers:=dB w.heap.size::a.defers } W)
  (hstop:∀(c:Code) (pre:List Sp) (W:World),w.heap.size+2<=W.heap.size->pre <+: xs->Ix c pre W->W.heap[w.heap.size]? = some (.deferred (some []))->c.wp P Q { a with defers:=dB w.heap.size::a.defers } W) :
  (Code.rangeFunc g ps assign body).wp P Q a w:=by
 subst hps;refine Il hg eg hseq (λ_=>rfl) hT hK I Ix hI hIx h0
  (λN x a' W=>∃Bx,N<=Bx/\w.heap.size+2<=Bx/\af W Bx tE #[zI x.1,zI x.2]/\a'={ tmps:=(a.tmps.setIfInBounds pb (.agg #[zI x.1,zI x.2])).setIfInBounds ib (zP Bx),defers:=[] })
  (λN x a' A B ⟨Bx,h0,h1,h2,h3⟩ hf=>⟨Bx,h0,h1,hf.blk h2 zo,h3⟩) ?_ ?_ hdone hstop
 ·exact ah9
 ·rintro m l pre x a' Wa W hs hi ⟨Bx,h0,h1,h2,rfl⟩ hpre hia hfa
  exact hbody m l pre x Bx Wa W hs hi hpre h1 h2 h0 hia hfa
section
variable {P:Program} (w:World)
theorem LP (base:Nat) (t ty e:TypeId) (i:TypeInfo) (z:Value) (size bytes:Nat) (ht:P.underlying t=some (.slice e)) (hi:P.info? e=some i) (hz:i.zero=some z)
  (hsize:i.size=size) (hby:i.bytes=bytes) (hzs:z.cells.size=size) (hsz:0<size)
  (v:Value) (n:Nat) (xs:List Value) (hown:w.ownsRow base e size v n xs)
  (a:Addr) (m c:Nat) (news:List Value) (hl:news.length=m*size) (hnews:∀j u,news[j]? = some u->w.cell? (a.add j)=some u) (h1:∀u∈news,u.oneCell'=true)
  (h63:n+m<=maxLen) (hbytes:(n+m)*bytes<=140737488355328) (hbase:base<=w.heap.size) :
  ∃v' w',(Builtin.append_ #[t,t] ty #[v,.slice (some a) m c]).run P w= .ok v' w'/\w'.ownsRow base e size v' (n+m) (xs++news)/\w.grownBy w' v.ownBlock /\
   ∀g,v'.ownBlock=some g->v.ownBlock=some g\/w.heap.size<=g:=by
 obtain ⟨v',w',hr,r1,r2,_⟩:=run_append_own (P:=P) w base t ty e i z size bytes ht hi hz hsize hby hzs hsz v n xs hown a m c news hl hnews h1 h63 hbytes hbase;refine ⟨v',w',hr,r1,r2,λg' hg'=>?_⟩;have hsmall:n+m<=9223372036854775807:=by simp only [maxLen] at h63;omega
 rcases hown.2 with ⟨hv,h0⟩|⟨g,cap,cur,hv,hbg,hg,hnc,hcm,hcs,htake⟩
 ·subst h0
  have hx:xs=[]:=List.eq_nil_of_length_eq_zero (by simpa using hown.1);have hown2:w.ownsRow w.heap.size e size v 0 xs:=by rw [hv,hx];exact World.ownsRow_nil _ _ _ _
  obtain ⟨v2,w2,hr2,s1,_,_⟩:=run_append_own (P:=P) w w.heap.size t ty e i z size bytes ht hi hz hsize hby hzs hsz v 0 xs hown2 a m c news hl hnews h1 h63 hbytes (Nat.le_refl _);rw [hr] at hr2
  injection hr2 with e1 e2
  subst e1;subst e2;exact .inr (s1.lt g' hg').1
 ·subst hsize
  subst hby
  subst hv;by_cases hroom:n+m<=cap
  ·have hfit:n*i.size+news.length<=cur.size:=by rw [hl,hcs,<-Nat.add_mul];exact Nat.mul_le_mul_right _ hroom
   have hr2:=run_append_room (P:=P) w t ty e i ht hi g n cap cur hg a m c news hl hnews h1 hroom hfit;rw [hr] at hr2
   injection hr2 with e1 e2
   subst e1;exact .inl hg'
  ·have holds:∀j u,xs[j]? = some u->w.cell? ((⟨g,0,none⟩:Addr).add j)=some u:=hown.cells (g:=g) rfl
   have hr2:=run_append_grow (P:=P) w t ty e i z ht hi hz ⟨g,0,none⟩ n cap xs hown.1 holds a m c news hl hnews zo zo (growslice_fits zo hbytes);rw [hr] at hr2
   injection hr2 with e1 e2
   subst e1;simp only [Value.ownBlock,Option.some.injEq] at hg';exact .inr zo
end
theorem Co {F:Fence} {n:Nat} {P:Program} (w:World) {ops:Array Oper} {rest:List Oper} {o:Oper} {a:Act} {Q:Exit->Act->World->Prop}
  (hg:o.guard=none) (s x:Operand) (t:TypeId) (hop:o.op=Op.call { callee:=Callee.builtin Builtin.append,args:=#[s,x],argTypes:=#[t,t] })
  (base:Nat) (e:TypeId) (i:TypeInfo) (z:Value) (size bytes:Nat) (h1:P.underlying t=some (.slice e)) (h2:P.info? e=some i) (h3:i.zero=some z) (h4:i.size=size) (h5:i.bytes=bytes) (h6:z.cells.size=size) (h7:0<size)
  (v:Value) (k:Nat) (xs:List Value) (hs:a.eval s=v) (hown:w.ownsRow base e size v k xs) (ad:Addr) (m c:Nat) (news:List Value) (hx:a.eval x= .slice (some ad) m c) (hn:news.length=m*size)
  (hc:∀j u,news[j]? = some u->w.cell? (ad.add j)=some u) (h1c:∀u∈news,u.oneCell'=true) (b1:k+m<=maxLen) (b2:(k+m)*bytes<=140737488355328) (b3:base<=w.heap.size)
  (hK:∀v' w',w'.ownsRow base e size v' (k+m) (xs++news)->w.grownBy w' v.ownBlock->(∀g,v'.ownBlock=some g->v.ownBlock=some g\/w.heap.size<=g)->wpListIn F n P ops Q rest (a.put o.dst v') w') :
  wpListIn F n P ops Q (o::rest) a w:=by
 refine wpListIn_plain hg λK hK'=>?_
 obtain ⟨v',w',hrun,r1,r2,r3⟩:=LP (P:=P) w base t o.type e i z size bytes h1 h2 h3 h4 h5 h6 h7 v k xs hown ad m c news hn hc h1c b1 b2 b3;unfold Oper.wpIn;refine ⟨?_,?_⟩
 ·simp [Oper.about,hop,resolve,Target.leads,Sem.run_pure]
 ·rw [Oper.semAt_plain F _ _ (by rw [hop];intro c hc';cases hc')]
  simp [execOp,hop,resolve,invoke,builtin,hs,hx,hrun,Result.andThen];exact hK' _ _ (hK v' w' r1 r2 r3)
structure BC (X:Nat->Prop) (w:World) (B:Nat) (tb te:TypeId) (base size n:Nat) (cs:List Value):Prop where
 ex:∃v,af w B tb #[v]/\w.ownsRow base te size v n cs/\¬X B/\∀g,v.ownBlock=some g->¬X g
section
variable {X X' T:Nat->Prop} {w w' w1:World} {B:Nat} {tb te:TypeId} {base size n:Nat} {cs cs':List Value} {v v':Value}
theorem BC.far (h:BC X w B tb te base size n cs) (hf:ag T w w') (hB:T B->X B) (hT:∀g,base<=g->T g->X g):BC X w' B tb te base size n cs:=by
 obtain ⟨v,h1,h2,h3,h4⟩:=h.ex;exact ⟨v,hf.blk h1 (λh=>h3 (hB h)),aN h2 hf (λg hg h=>h4 g hg (hT g (h2.lt g hg).1 h)),h3,h4⟩
theorem BC.new (h:BC X w B tb te base size n cs) (hX:∀k,X' k->X k\/w.heap.size<=k):BC X' w B tb te base size n cs:=by
 obtain ⟨v,h1,h2,h3,h4⟩:=h.ex;refine ⟨v,h1,h2,λh=>(hX _ h).elim h3 (λh=>by have:=h1.lt;omega),λg hg h=>(hX _ h).elim (h4 g hg) (λh=>by have:=(h2.lt g hg).2;omega)⟩
theorem BC.appended {tmp:Obj} {m:Nat} (hv:af w B tb #[v]) (hte:tb≠te) (hrow:w.ownsRow base te size v n cs) (hXB:¬X B) (ZG:∀g,v.ownBlock=some g->¬X g)
  (hown:w1.ownsRow base te size v' m cs') (hg:(w.alloc tmp).grownBy w1 v.ownBlock) (hblk:∀g,v'.ownBlock=some g->v.ownBlock=some g\/(w.alloc tmp).heap.size<=g) (hXlt:∀k,X k->k<w.heap.size) :
  af w1 B tb #[v]/\BC X (w1.setCell ⟨B,0,none⟩ v') B tb te base size m cs'/\∀(T:Nat->Prop),T B->(∀g,v.ownBlock=some g->T g)->ag T w (w1.setCell ⟨B,0,none⟩ v'):=by
 have hv1:af w1 B tb #[v]:=(hv.alloc tmp).grown hg (λe=>hv.not_row hrow hte e.symm);refine ⟨hv1,⟨v',by simpa using hv1.aM 0 v',?_,hXB,λg hg' hx=>?_⟩,λT hTB hT=>?_⟩
 ·exact ah7
 ·rcases hblk g hg' with h|h
  ·exact ZG g h hx
  ·have:=hXlt g hx
   simp at h;omega
 ·exact ah8
end
theorem abB {P:Prop} (h:P:=by
 rintro m l X pre x a' Wa W hs hX hi ⟨Bx,h0,h1,h2,rfl⟩ hpre _ _;exact hbody m l X pre x Bx Wa W hs hX hi hpre h1 h2 h0):P:=h
theorem abC {P:Program} {g:Operand} {ps:Array Tmp} {assign body:Code} {Q:Exit->Act->World->Prop} {a:Act} {w:World} (ib pb:Nat) (tE:TypeId)
  {gf:Nat} {lb:Array Value} (hg:a.eval g= .func (.func gf) #[] lb) (eg:∀args w,(callFunc gf args).run P w= .ok (.enter gf args) w)
  {T K:Nat->Prop} {xs:List Sp} (hseq:yS P gf lb spA T K xs w) (hps:ps=#[pb])
  (hT:∀k,T k->k<w.heap.size) (hK:∀k,K k->k<w.heap.size)
  (I:(Nat->Prop)->List Sp->World->Prop) (Ix:Code->(Nat->Prop)->List Sp->World->Prop)
  (hI:∀X pre A B,I X pre A->ag (λk=>T k\/X k\/k=w.heap.size\/k=w.heap.size+1) A B->I X pre B)
  (hIx:∀c X pre A B,Ix c X pre A->ag (λk=>T k\/X k\/k=w.heap.size\/k=w.heap.size+1) A B->Ix c X pre B)
  (hnew:∀X X' pre A,I X pre A->(∀k,X' k->X k\/A.heap.size<=k)->I X' pre A)
  (h0:I (λ_=>False) [] w)
  (hassign:∀(m l:Nat) (x:Sp) (W:World) (C:Act->World->Prop),
   C { tmps:=(a.tmps.setIfInBounds pb (.agg #[zI x.1,zI x.2])).setIfInBounds ib (zP W.heap.size),defers:=[] } (W.alloc (.cells #[zI x.1,zI x.2] tE)) ->
   assign.wpIn (Fence.wide.inRound l) m P (Exit.then C (λ_ _ _=>False)) { tmps:=a.tmps.setIfInBounds pb (.agg #[zI x.1,zI x.2]),defers:=[] } W)
  (hbody:∀(m l:Nat) (X:Nat->Prop) (pre:List Sp) (x:Sp) (Bx:Nat) (Wa W:World),w.heap.size+2<=W.heap.size->(∀k,X k->k<Wa.heap.size/\k≠w.heap.size/\k≠w.heap.size+1)->I X pre W->pre++[x] <+: xs->w.heap.size+2<=Bx->af W Bx tE #[zI x.1,zI x.2]->Wa.heap.size<=Bx ->
   body.wpIn (Fence.wide.inRound l) m P (UI w.heap.size K X I Ix (pre++[x]) W) { tmps:=(a.tmps.setIfInBounds pb (.agg #[zI x.1,zI x.2])).setIfInBounds ib (zP Bx),defers:=[] } W)
  (hdone:∀(X:Nat->Prop) (W:World),w.heap.size+2<=W.heap.size->I X xs W->W.heap[w.heap.size]? = some (.deferred (some []))->Q .normal { a with defers:=dB w.heap.size::a.defers } W)
  (hstop:∀(c:Code) (X:Nat->Prop) (pre:List Sp) (W:World),w.heap.size+2<=W.heap.size->pre <+: xs->Ix c X pre W->W.heap[w.heap.size]? = some (.deferred (some []))->c.wp P Q { a with defers:=dB w.heap.size::a.defers } W) :
  (Code.rangeFunc g ps assign body).wp P Q a w:=by
 subst hps;refine YE hg eg hseq (λ_=>rfl) hT hK I Ix hI hIx hnew h0
  (λN x a' W=>∃Bx,N<=Bx/\w.heap.size+2<=Bx/\af W Bx tE #[zI x.1,zI x.2]/\a'={ tmps:=(a.tmps.setIfInBounds pb (.agg #[zI x.1,zI x.2])).setIfInBounds ib (zP Bx),defers:=[] })
  (λN x a' A B ⟨Bx,h0,h1,h2,h3⟩ hf=>⟨Bx,h0,h1,hf.blk h2 zo,h3⟩) ?_ ?_ hdone hstop
 ·exact ah9
 ·exact abB
def fl {α:Type} (enc:α->List Value) (us:List α):List Value:=us.flatMap enc
section
variable {α:Type} {enc:α->List Value} {sz:Nat}
theorem tH (x:α) (r:List α):fl enc (x::r)=enc x++fl enc r:=by simp [fl]
theorem kC (a b:List α):fl enc (a++b)=fl enc a++fl enc b:=by simp [fl]
theorem QJ (a:List α) (x:α):fl enc (a++[x])=fl enc a++enc x:=by simp [fl]
theorem mg (h:∀x,(enc x).length=sz):∀us:List α,(fl enc us).length=us.length*sz
 | []=>by simp [fl]
 | x::r=>by rw [tH,List.length_append,h x,mg h r,List.length_cons,Nat.succ_mul,Nat.add_comm]
theorem yV (h:∀x,(enc x).length=sz) (d:α):∀(us:List α) (k:Nat),k<us.length->∀j,j<sz->(fl enc us)[k*sz+j]? = (enc (us.getD k d))[j]?
 | [],k,hk,_,_=>by simp at hk
 | x::r,0,_,j,hj=>by
  rw [tH,Nat.zero_mul,Nat.zero_add,List.getElem?_append_left (by rw [h x];exact hj)];rfl
 | x::r,k+1,hk,j,hj=>by
  have ih:=yV h d r k (by simpa using hk) j hj;rw [tH,List.getElem?_append_right (by rw [h x,Nat.succ_mul];omega),h x,show (k+1)*sz+j - sz=k*sz+j by rw [Nat.succ_mul];omega,ih];rfl
end
section
variable {w w':World} {B:Nat} {A:Option Addr} {xs:List Value}
theorem Rd.fB (h:Rd w w.heap.size A xs) (hb:Below w.heap.size w w'):Rd w' w'.heap.size A xs:=(h.below hb).more hb.size
theorem Rd.elem {α:Type} {enc:α->List Value} {sz:Nat} {us:List α} (hr:Rd w B A (fl enc us)) (h:∀x,(enc x).length=sz) (h0:0<sz) (d:α) {k:Nat} (hk:k<us.length) :
  ∃b o,A=some ⟨b,o,none⟩/\b<B/\∀(j:Nat) (v:Value),(enc (us.getD k d))[j]? = some v->w.cell? ⟨b,o+k*sz+j,none⟩=some v:=by
 have hl:=mg h us;have hkz:k*sz+sz<=us.length*sz:=by rw [<-Nat.succ_mul];exact Nat.mul_le_mul_right sz hk
 obtain ⟨b,o,e,hb,_⟩:=hr (k*sz) zo;refine ⟨b,o,e,hb,λj v hj=>?_⟩;have hjz:j<sz:=by rw [<-h (us.getD k d)];exact (List.getElem?_eq_some_iff.1 hj).1
 obtain ⟨b',o',e',_,hc⟩:=hr (k*sz+j) zo;rw [e] at e';cases e';rw [Nat.add_assoc,hc];have:=yV h d us k hk j hjz;rw [hj,List.getElem?_eq_getElem zo] at this;exact this
theorem Rd.src (h:Rd w w.heap.size A xs) (ad:Addr) (hA:A=some ad):∀(j:Nat) (u:Value),xs[j]? = some u->w.cell? (ad.add j)=some u:=λj u hj=>by
 obtain ⟨hlt,e⟩:=List.getElem?_eq_some_iff.1 hj;obtain ⟨b,o,e',_,hc⟩:=h j hlt;rw [hA] at e';cases e';rw [dM,hc,e]
theorem dH {base n sz:Nat} {e:TypeId} {v:Value} (h:w.ownsRow base e sz v n xs):∃(A:Option Addr) (cap:Nat),v= .slice A n cap/\Rd w w.heap.size A xs/\n<=cap/\cap<=maxLen/\(∀b o,A=some ⟨b,o,none⟩->base<=b)/\(A=none->cap=0):=by
 have hv:=h;rcases h.2 with ⟨rfl,h0⟩|⟨g,cap,cur,rfl,hg,hk,hnc,hcm,_⟩
 ·subst h0
  have:xs=[]:=List.eq_nil_of_length_eq_zero (by rw [h.1];simp);subst this;exact ⟨none,0,rfl,λk hk=>absurd hk zs,Nat.le_refl _,by unfold maxLen;omega,λb o e=>(by cases e),λ_=>rfl⟩
 ·refine ⟨_,cap,rfl,λk hk'=>?_,hnc,hcm,λb o e=>by cases e;exact hg,λe=>by cases e⟩
  have c0:=hv.cellAt k (by rw [<-h.1];exact hk');refine ⟨g,0,rfl,af.lt hk,?_⟩;rw [Nat.zero_add,c0,List.getElem?_eq_getElem hk']
theorem abD {base n sz:Nat} {e:TypeId} {v:Value} (h:w.ownsRow base e sz v n xs):∃(A:Option Addr) (cap:Nat),v= .slice A n cap/\Rd w w.heap.size A xs/\n<=cap/\cap<=maxLen/\(∀b o,A=some ⟨b,o,none⟩->base<=b)/\(A=none->cap=0)/\∀b o,A=some ⟨b,o,none⟩->∃cs,af w b e cs:=by
 obtain ⟨A,cap,h1,h2,h3,h4,h5,h6⟩:=dH h;refine ⟨A,cap,h1,h2,h3,h4,h5,h6,λb o hA=>?_⟩;rcases h.2 with ⟨hv,_⟩|⟨g,cap',cur,hv,_,hk,_⟩
 ·rw [h1,hA] at hv;cases hv
 ·rw [h1,hA] at hv;cases hv;exact ⟨cur,hk⟩
theorem dJ {base n sz g:Nat} {e t:TypeId} {v:Value} {cs:Array Value} (h:w.ownsRow base e sz v n xs) (hv:v.ownBlock=some g) (hc:af w g t cs) (hne:e≠t):False:=by
 rcases h.2 with ⟨rfl,_⟩|⟨g',cap',cur,rfl,_,hk,_⟩
 ·cases hv
 ·have e':g'=g:=by injection hv
  subst e';exact af.vN (g:=g') hk hc hne rfl
end
theorem dL {w:World} {g:Nat} {t:TypeId} {cs:Array Value} (h:af w g t cs) (o n:Nat) (hn:o+n<=cs.size):w.there g o n:=λj hj=>by
 exact ⟨by rw [h.cell];simp;omega,h.frozen _⟩
def eX (cs:Array Value):Nat->List Value->Array Value
 | _,[]=>cs
 | o,v::vs=>eX (cs.setIfInBounds o v) (o+1) vs
theorem jq (cs:Array Value):∀(o:Nat) (vs:List Value),(eX cs o vs).size=cs.size
 | _,[]=>rfl
 | o,v::vs=>by rw [eX,jq (cs.setIfInBounds o v) (o+1) vs];simp
theorem jG:∀(vs:List Value) (cs:Array Value) (o:Nat),o+vs.length<=cs.size->∀i,(eX cs o vs)[i]? = if o<=i/\i<o+vs.length then vs[i - o]? else cs[i]?
 | [],cs,o,_,i=>by rw [eX,if_neg (by simp only [List.length_nil];omega)]
 | v::vs,cs,o,h,i=>by
  rw [List.length_cons] at h;rw [eX,jG vs _ _ (by simp;omega) i];by_cases h1:i=o
  ·subst h1
   rw [if_neg zo,if_pos zs,Nat.sub_self,Array.getElem?_setIfInBounds_self_of_lt zo];rfl
  ·by_cases h2:o+1<=i/\i<o+1+vs.length
   ·rw [if_pos h2,if_pos (by simp;omega),show i - o=(i - (o+1))+1 by omega,List.getElem?_cons_succ]
   ·rw [if_neg h2,if_neg (by simp;omega),Array.getElem?_setIfInBounds,if_neg zo]
theorem af.puts {w:World} {g:Nat} {t:TypeId} {cs:Array Value}:∀(vs:List Value) (o:Nat) (w:World) (cs:Array Value),af w g t cs->af (w.setCells g o vs) g t (eX cs o vs)
 | [],_,_,_,h=>h
 | v::vs,o,_,_,h=>af.puts (cs:=cs) (w:=w) vs (o+1) _ _ (h.aM o v)
theorem eH {cs:Array Value} {vs:List Value} (h:cs.size=vs.length):eX cs 0 vs=vs.toArray:=by
 apply Array.ext_getElem?;intro i;rw [jG vs cs 0 zo i];by_cases hi:i<vs.length
 ·rw [if_pos zo];simp
 ·rw [if_neg zo,Array.getElem?_eq_none zo,Array.getElem?_eq_none (by simpa using hi)]
theorem ag.puts {T:Nat->Prop} {g:Nat} (hT:T g):∀(vs:List Value) (o:Nat) (A B:World),ag T A B->ag T A (B.setCells g o vs)
 | [],_,_,_,h=>h
 | v::vs,o,_,_,h=>ag.puts hT vs (o+1) _ _ (h.setCell (p:=⟨g,o,none⟩) (λ_=>hT) v)
structure Nd where
 par:Int
 lim:Int
 own:Int
 jk:Int
 cl:Bool
 all:Int
def nd0:Nd:=⟨0,0,0,0,false,0⟩
def UJ (x:Nd):List Value:=[zI x.par,zI x.lim,zI x.own,zI x.jk,.bool x.cl,zI x.all]
theorem yX (x:Nd):(UJ x).length=6:=rfl
def jB (n:Nat):List Nat:=(List.range (n+1)).reverse
theorem pY {n i:Nat}:i∈jB n↔i<=n:=by unfold jB;simp;omega
def iw:List Nd->Int
 | []=>0
 | x::r=>x.own+iw r
structure bf (L:List Nd):Prop where
 pos:0<L.length
 few:L.length<=64
 chain:∀i,i<L.length->(L.getD i nd0).cl=false/\(L.getD i nd0).par=(i:Int) - 1
 lim:∀x∈L,0<=x.lim/\x.lim<=4096
 own:∀x∈L,0<=x.own
 jk:∀x∈L,x.all<=x.jk/\x.jk<=4096
 all:∀i,i<L.length->(L.getD i nd0).all=iw (L.drop i)
structure jP (L:List Nd):Prop where
 pos:0<L.length
 few:L.length<=64
 chain:∀i,i<L.length->(L.getD i nd0).cl=false/\(L.getD i nd0).par=(i:Int) - 1
theorem bf.ch {L:List Nd} (h:bf L):jP L:=⟨h.pos,h.few,h.chain⟩
theorem QK:∀{L:List Nd},(∀x∈L,0<=x.own)->0<=iw L
 | [],_=>by simp [iw]
 | x::r,h=>by
  have:=QK (L:=r) (λy hy=>h y (by simp [hy]));have:=h x zs;simp only [iw];omega
theorem Nb {α:Type} {L:List α} {i:Nat} (d:α) (h:i<L.length):L.getD i d∈L:=by
 rw [List.getD_eq_getElem?_getD,List.getElem?_eq_getElem h];exact List.getElem_mem h
theorem UK {α:Type} (d:α) (L:List α) (i:Nat) (h:i<L.length):L.drop i=L.getD i d::L.drop (i+1):=by
 rw [List.drop_eq_getElem_cons h,List.getD_eq_getElem?_getD,List.getElem?_eq_getElem h];rfl
section
variable {L:List Nd} (h:bf L)
include h
theorem bf.get {i:Nat} (hi:i<L.length):0<=(L.getD i nd0).lim/\(L.getD i nd0).lim<=4096/\0<=(L.getD i nd0).own/\(L.getD i nd0).own<=(L.getD i nd0).all/\0<=(L.getD i nd0).all/\(L.getD i nd0).all<=(L.getD i nd0).jk/\(L.getD i nd0).jk<=4096:=by
 have hm:=Nb nd0 hi;have h1:=h.lim _ hm;have h2:=h.own _ hm;have h3:=h.jk _ hm;have h4:=h.all i hi;rw [UK nd0 L i hi] at h4;simp only [iw] at h4;have h5:=QK (L:=L.drop (i+1)) (λx hx=>h.own x (List.mem_of_mem_drop hx));omega
end
theorem iT {α:Type} (L:List α) (n i:Nat) (f:α->α):(L.modify n f)[i]? = if n=i then (L[i]?).map f else L[i]? := by
 rw [List.getElem?_modify];by_cases h:n=i
 ·simp [h]
 ·simp [h]
def tJ (p:Int) (x:Nd):Nd:={ x with all:=x.all+p,jk:=max x.jk (x.all+p) }
def rY (L:List Nd) (n:Nat) (p:Int):List Nd:=(jB n).foldl (λL i=>L.modify i (tJ p)) L
theorem Cq:∀(ps:List Nat) (L:List Nd) (p:Int),ps.Nodup->∀i,(ps.foldl (λL i=>L.modify i (tJ p)) L)[i]? = if i∈ps then (L[i]?).map (tJ p) else L[i]?
 | [],L,p,_,i=>by simp
 | q::ps,L,p,hn,i=>by
  rw [List.foldl_cons,Cq ps _ p (List.nodup_cons.1 hn).2 i,iT];by_cases h1:q=i
  ·subst h1
   rw [if_neg (List.nodup_cons.1 hn).1,if_pos rfl,if_pos zs]
  ·rw [if_neg h1]
   have h2:¬i=q:=λe=>h1 e.symm
   simp only [List.mem_cons,h2,false_or]
theorem jP.mod {L:List Nd} (h:jP L) (n:Nat) (f:Nd->Nd) (hf:∀x,(f x).cl=x.cl/\(f x).par=x.par):jP (L.modify n f):=by
 refine ⟨by simpa using h.pos,by simpa using h.few,λi hi=>?_⟩;rw [List.length_modify] at hi;have hc:=h.chain i hi;rw [List.getD_eq_getElem?_getD] at hc ⊢;rw [iT];rw [List.getElem?_eq_getElem hi] at hc ⊢;by_cases e:n=i
 ·rw [if_pos e]
  simp only [Option.map_some,Option.getD_some] at hc ⊢;rw [(hf _).1,(hf _).2];exact hc
 ·rw [if_neg e];exact hc
theorem jP.fold:∀(ps:List Nat) {L:List Nd} (p:Int),jP L->jP (ps.foldl (λL i=>L.modify i (tJ p)) L)
 | [],_,_,h=>h
 | q::ps,_,p,h=>jP.fold ps p (h.mod q (tJ p) (λ_=>⟨rfl,rfl⟩))
theorem Dw (n:Nat):(jB n).Nodup:=by
 unfold jB;exact List.pairwise_reverse.2 (List.nodup_range.imp λh=>Ne.symm h)
theorem abE (L:List Nd) (n:Nat) (p:Int) (i:Nat):(rY L n p)[i]? = if i<=n then (L[i]?).map (tJ p) else L[i]? := by
 unfold rY;rw [Cq _ _ _ (Dw n)];simp only [pY]
theorem sS:∀(ps:List Nat) (L:List Nd) (p:Int),(ps.foldl (λL i=>L.modify i (tJ p)) L).length=L.length
 | [],_,_=>rfl
 | q::ps,L,p=>by rw [List.foldl_cons,sS ps];simp
theorem AJ (L:List Nd) (n:Nat) (p:Int):(rY L n p).length=L.length:=sS _ _ _
def bX (L:List Nd) (i:Nat):Int:=(L.getD i nd0).lim - (L.getD i nd0).all
def jT (L:List Nd) (n:Nat):Nat:=(jB n).foldl (λb p=>if bX L p<bX L b then p else b) n
theorem EG (L:List Nd):∀(ps:List Nat) (b m:Nat),b<=m->(∀p∈ps,p<=m)->ps.foldl (λb p=>if bX L p<bX L b then p else b) b<=m
 | [],_,_,h,_=>h
 | q::ps,b,m,h,hp=>EG L ps _ m (by dsimp only;split;exact hp q zs;exact h) (λp hq=>hp p (by simp [hq]))
theorem IE (L:List Nd) (n:Nat):jT L n<=n:=EG L _ n n (Nat.le_refl _) (λ_ hp=>pY.1 hp)
theorem IG (L:List Nd):∀(ps:List Nat) (b:Nat),bX L (ps.foldl (λb p=>if bX L p<bX L b then p else b) b)<=bX L b/\∀p∈ps,bX L (ps.foldl (λb p=>if bX L p<bX L b then p else b) b)<=bX L p
 | [],b=>⟨Int.le_refl _,λp hp=>(by cases hp)⟩
 | q::ps,b=>by
  have h:=IG L ps (if bX L q<bX L b then q else b);rw [List.foldl_cons];have h1:bX L (if bX L q<bX L b then q else b)<=bX L b/\bX L (if bX L q<bX L b then q else b)<=bX L q:=by split <;> omega
  refine ⟨zo,λp hp=>?_⟩;rcases List.mem_cons.1 hp with rfl|hp
  ·omega
  ·exact h.2 p hp
def rC (L:List Nd) (n:Nat):Int:=max (bX L (jT L n)) 0
theorem ZH (L:List Nd) (n i:Nat) (hi:i<=n):bX L i<rC L n->rC L n=0:=by
 intro h;have h1:=(IG L (jB n) n).2 i (pY.2 hi);unfold rC jT at *;omega
def iZ (L:List Nd) (n:Nat) (p:Int):Int×List Nd :=
 if p<0\/4096<p then (7,L) else if rC L n<p then (5,L) else (0,rY (L.modify n λx=>{ x with own:=x.own+p }) n p)
def jb (L:List Nd) (n:Nat) (p:Int):Int×List Nd :=
 if p<0\/4096<p then (7,L) else if (L.getD n nd0).own<p then (9,L) else (0,rY (L.modify n λx=>{ x with own:=x.own - p }) n (-p))
def jX (L:List Nd) (n:Nat) (l:Int):Int×List Nd :=
 if l<0\/4096<l then (7,L) else (0,L.modify n λx=>{ x with lim:=l })
def gB (L:List Nd) (l:Int):Int×List Nd :=
 if l<0\/4096<l then (7,L) else (0,L++[⟨(L.length:Int) - 1,l,0,0,false,0⟩])
def fK (l:Int):List Nd:=[⟨-1,l,0,0,false,0⟩]
theorem Dx {L:List Nd} {i:Nat} {x:Nd} (h:L[i]? = some x):L.getD i nd0=x:=by rw [List.getD_eq_getElem?_getD,h];rfl
theorem Dy:∀(L:List Nd) (n:Nat) (p:Int),n<L.length->iw (L.modify n λx=>{ x with own:=x.own+p })=iw L+p
 | [],n,p,h=>by simp at h
 | x::r,0,p,_=>by simp only [List.modify_zero_cons,iw];omega
 | x::r,n+1,p,h=>by
  have:=Dy r n p (by simpa using h);simp only [List.modify_succ_cons,iw,this];omega
theorem EH {L M:List Nd} (hl:L.length=M.length) (h:∀i,i<L.length->(L.getD i nd0).own=(M.getD i nd0).own):iw L=iw M:=by
 induction L generalizing M with
 | nil =>
  match M,hl with
  | [],_=>rfl
 | cons x r ih =>
  match M,hl with
  | y::s,hl =>
   have h0:=h 0 zs;simp only [List.getD_cons_zero] at h0;simp only [iw,h0,ih (M:=s) (by simpa using hl) (λi hi=>by have:=h (i+1) (by simpa using hi);simpa using this)]
theorem aia {P:Prop} (h:P:=by
 rw [abE,iT,hg];by_cases h1:i<=n
 ·rw [if_pos h1,if_pos h1]
  by_cases h2:n=i
  ·rw [if_pos h2,if_pos h2];rfl
  ·rw [if_neg h2,if_neg h2];rfl
 ·rw [if_neg h1,if_neg h1,if_neg zo]):P:=h
theorem aib {P:Prop} (h:P:=by
 by_cases h2:n=i
 ·rw [if_pos h2,if_pos h2];exact ⟨rfl,rfl,rfl,rfl,rfl,rfl⟩
 ·rw [if_neg h2,if_neg h2];exact ⟨rfl,rfl,rfl,rfl,rfl,rfl⟩):P:=h
theorem abF {P:Prop} (h:P:=by
 obtain ⟨i,hi,rfl⟩:=List.getElem_of_mem hx;exact ⟨i,zo,by rw [List.getD_eq_getElem?_getD,List.getElem?_eq_getElem hi];rfl⟩):P:=h
theorem bf.YG {L:List Nd} (h:bf L) {n:Nat} (hn:n<L.length) {p:Int} (ho:0<=(L.getD n nd0).own+p) (ha:∀i,i<=n->(L.getD i nd0).all+p<=4096) :
  bf (rY (L.modify n λx=>{ x with own:=x.own+p }) n p):=by
 obtain ⟨M,hM⟩:=ah (rY (L.modify n λx=>{ x with own:=x.own+p }) n p);have hlen:M.length=L.length:=by rw [<-hM,AJ];simp
 have hat:∀i,i<L.length->M.getD i nd0=(if i<=n then tJ p (if n=i then { L.getD i nd0 with own:=(L.getD i nd0).own+p } else L.getD i nd0) else L.getD i nd0):=λi hi=>by
  rw [<-hM];refine Dx ?_;have hg:L[i]? = some (L.getD i nd0):=by rw [List.getD_eq_getElem?_getD,List.getElem?_eq_getElem hi];rfl
  exact aia
 rw [hM];have hmem:∀x∈M,∃i,i<L.length/\x=M.getD i nd0:=λx hx=>by
  exact abF
 have hfl:∀i,i<L.length->(M.getD i nd0).lim=(L.getD i nd0).lim/\(M.getD i nd0).cl=(L.getD i nd0).cl/\(M.getD i nd0).par=(L.getD i nd0).par/\(M.getD i nd0).own=(if n=i then (L.getD i nd0).own+p else (L.getD i nd0).own)/\(M.getD i nd0).all=(if i<=n then (L.getD i nd0).all+p else (L.getD i nd0).all)/\(M.getD i nd0).jk=(if i<=n then max (L.getD i nd0).jk ((L.getD i nd0).all+p) else (L.getD i nd0).jk):=λi hi=>by
  rw [hat i hi];by_cases h1:i<=n
  ·rw [if_pos h1,if_pos h1,if_pos h1]
   exact aib
  ·rw [if_neg h1,if_neg h1,if_neg h1,if_neg zo];exact ⟨rfl,rfl,rfl,rfl,rfl,rfl⟩
 refine ⟨by rw [hlen];exact h.pos,by rw [hlen];exact h.few,λi hi=>?_,λx hx=>?_,λx hx=>?_,λx hx=>?_,λi hi=>?_⟩
 ·rw [hlen] at hi
  obtain ⟨_,f2,f3,_⟩:=hfl i hi;rw [f2,f3];exact h.chain i hi
 ·obtain ⟨i,hi,rfl⟩:=hmem x hx
  rw [(hfl i hi).1];exact ⟨(h.get hi).1,(h.get hi).2.1⟩
 ·obtain ⟨i,hi,rfl⟩:=hmem x hx
  rw [(hfl i hi).2.2.2.1];have:=h.get hi;split
  ·rename_i e;subst e;exact ho
  ·omega
 ·obtain ⟨i,hi,rfl⟩:=hmem x hx
  obtain ⟨_,_,_,_,f5,f6⟩:=hfl i hi;rw [f5,f6];have:=h.get hi;by_cases h1:i<=n
  ·rw [if_pos h1,if_pos h1]
   have:=ha i h1;omega
  ·rw [if_neg h1,if_neg h1];omega
 ·rw [hlen] at hi
  obtain ⟨_,_,_,_,f5,_⟩:=hfl i hi;rw [f5];have hdl:∀j,j<(M.drop i).length->((M.drop i).getD j nd0).own=(if n=i+j then ((L.drop i).getD j nd0).own+p else ((L.drop i).getD j nd0).own):=λj hj=>by
   rw [List.length_drop,hlen] at hj;have hij:i+j<L.length:=zo;have:=(hfl (i+j) hij).2.2.2.1;rw [List.getD_eq_getElem?_getD,List.getD_eq_getElem?_getD,List.getElem?_drop,List.getElem?_drop,<-List.getD_eq_getElem?_getD,<-List.getD_eq_getElem?_getD];exact this
  by_cases h1:i<=n
  ·rw [if_pos h1,h.all i hi,<-Dy (L.drop i) (n - i) p (by rw [List.length_drop];omega)]
   refine (EH (by simp [hlen]) λj hj=>?_).symm;rw [hdl j hj,List.getD_eq_getElem?_getD (l:=List.modify _ _ _),iT];have hj2:j<(L.drop i).length:=by rw [List.length_drop] at hj ⊢;omega
   have hg:(L.drop i)[j]? = some ((L.drop i).getD j nd0):=by rw [List.getD_eq_getElem?_getD,List.getElem?_eq_getElem hj2];rfl
   rw [hg];by_cases h2:n=i+j
   ·rw [if_pos h2,if_pos zo];rfl
   ·rw [if_neg h2,if_neg zo];rfl
  ·rw [if_neg h1,h.all i hi]
   refine EH (by simp [hlen]) λj hj=>?_
   have hj2:j<(M.drop i).length:=by rw [List.length_drop] at hj ⊢;omega
   rw [hdl j hj2,if_neg zo]
theorem bf.agu {L:List Nd} (h:bf L) {n:Nat} {l:Int} (hl:0<=l/\l<=4096):bf (L.modify n λx=>{ x with lim:=l }):=by
 obtain ⟨M,hM⟩:=ah ((L.modify n λx=>{ x with lim:=l }));have hlen:M.length=L.length:=by rw [<-hM];simp
 have hat:∀i,i<L.length->M.getD i nd0=(if n=i then { L.getD i nd0 with lim:=l } else L.getD i nd0):=λi hi=>by
  rw [<-hM];refine Dx ?_;have hg:L[i]? = some (L.getD i nd0):=by rw [List.getD_eq_getElem?_getD,List.getElem?_eq_getElem hi];rfl
  rw [iT,hg];by_cases h2:n=i
  ·rw [if_pos h2,if_pos h2];rfl
  ·rw [if_neg h2,if_neg h2]
 have hfl:∀i,i<L.length->(M.getD i nd0).lim=(if n=i then l else (L.getD i nd0).lim)/\(M.getD i nd0).cl=(L.getD i nd0).cl/\(M.getD i nd0).par=(L.getD i nd0).par/\(M.getD i nd0).own=(L.getD i nd0).own/\(M.getD i nd0).all=(L.getD i nd0).all/\(M.getD i nd0).jk=(L.getD i nd0).jk:=λi hi=>by
  rw [hat i hi];exact aib
 have hmem:∀x∈M,∃i,i<L.length/\x=M.getD i nd0:=λx hx=>by
  exact abF
 rw [hM];refine ⟨by rw [hlen];exact h.pos,by rw [hlen];exact h.few,λi hi=>?_,λx hx=>?_,λx hx=>?_,λx hx=>?_,λi hi=>?_⟩
 ·rw [hlen] at hi
  rw [(hfl i hi).2.1,(hfl i hi).2.2.1];exact h.chain i hi
 ·obtain ⟨i,hi,rfl⟩:=hmem x hx
  rw [(hfl i hi).1];have:=h.get hi;split <;> omega
 ·obtain ⟨i,hi,rfl⟩:=hmem x hx
  rw [(hfl i hi).2.2.2.1];exact (h.get hi).2.2.1
 ·obtain ⟨i,hi,rfl⟩:=hmem x hx
  rw [(hfl i hi).2.2.2.2.1,(hfl i hi).2.2.2.2.2];have:=h.get hi;omega
 ·rw [hlen] at hi
  rw [(hfl i hi).2.2.2.2.1,h.all i hi];refine EH (by simp [hlen]) λj hj=>?_
  rw [List.length_drop] at hj;have:=(hfl (i+j) zo).2.2.2.1;rw [List.getD_eq_getElem?_getD,List.getD_eq_getElem?_getD,List.getElem?_drop,List.getElem?_drop,<-List.getD_eq_getElem?_getD,<-List.getD_eq_getElem?_getD];exact this.symm
theorem uX {L:List Nd} (h:bf L) {n:Nat} (hn:n<L.length) (p:Int):bf (iZ L n p).2:=by
 unfold iZ;split
 ·exact h
 ·split
  ·exact h
  ·refine h.YG hn (by have:=h.get hn;omega) λi hi=>?_
   have h1:=h.get (show i<L.length by omega);have h2:=ZH L n i hi;unfold bX at h2;by_cases h3:(L.getD i nd0).lim - (L.getD i nd0).all<rC L n
   ·have:=h2 h3;omega
   ·omega
theorem sU {L:List Nd} (h:bf L) {n:Nat} (hn:n<L.length) (p:Int):bf (jb L n p).2:=by
 unfold jb;split
 ·exact h
 ·split
  ·exact h
  ·have:=h.YG hn (p:=-p) zo (λi hi=>by have:=h.get (show i<L.length by omega);omega)
   simpa [Int.sub_eq_add_neg] using this
theorem QL {L:List Nd} (h:bf L) (n:Nat) (l:Int):bf (jX L n l).2:=by
 unfold jX;split
 ·exact h
 ·exact h.agu zo
theorem yY {l:Int} (hl:0<=l/\l<=4096):bf (fK l) :=
 ⟨Nat.zero_lt_one,(show 1<=64 by omega),λi hi=>by
  have:i=0:=by simp [fK] at hi;omega
  subst this;exact ⟨rfl,rfl⟩,λx hx=>by simp only [fK,List.mem_singleton] at hx;subst hx;exact hl,λx hx=>by simp only [fK,List.mem_singleton] at hx;subst hx;exact Int.le_refl 0,λx hx=>by simp only [fK,List.mem_singleton] at hx;subst hx;exact ⟨Int.le_refl 0,(show (0:Int)<=4096 by omega)⟩,λi hi=>by
  have:i=0:=by simp [fK] at hi;omega
  subst this;rfl⟩
theorem II {l m:Int} (hm:0<=m/\m<=4096):bf (gB (fK m) l).2:=by
 unfold gB;split
 ·exact yY hm
 ·rename_i hl
  refine ⟨zs,by simp [fK],λi hi=>?_,λx hx=>?_,λx hx=>?_,λx hx=>?_,λi hi=>?_⟩
  ·have:i=0\/i=1:=by simp [fK] at hi;omega
   rcases this with rfl|rfl <;> exact ⟨rfl,rfl⟩
  ·simp only [fK,List.cons_append,List.nil_append,List.mem_cons,List.not_mem_nil,or_false] at hx
   rcases hx with rfl|rfl
   ·exact hm
   ·show 0<=l/\l<=4096;omega
  ·simp only [fK,List.cons_append,List.nil_append,List.mem_cons,List.not_mem_nil,or_false] at hx
   rcases hx with rfl|rfl <;> exact Int.le_refl 0
  ·simp only [fK,List.cons_append,List.nil_append,List.mem_cons,List.not_mem_nil,or_false] at hx
   rcases hx with rfl|rfl <;> exact ⟨Int.le_refl 0,(show (0:Int)<=4096 by omega)⟩
  ·have:i=0\/i=1:=by simp [fK] at hi;omega
   rcases this with rfl|rfl <;> rfl
def aic {α:Type} (P:Program) (g:Nat) (lb:Array Value) (encs:α->Array Value) (T K:Nat->Prop) (Inv:World->Prop) (xs:List α) (w:World):Prop :=
 ∀(n l:Nat) (J Jx:List α->World->Prop) (W:World),ag (λk=>¬K k) w W->(∀pre A,J pre A->Inv A) ->
  (∀pre A B,J pre A->ag T A B->J pre B)->(∀pre A B,Jx pre A->ag T A B->Jx pre B) ->
  (∀m pre x W1,J pre W1->pre++[x] <+: xs->YieldAt Fence.wide m P l (encs x) W1 λe W' =>
   (e= .returned (.bool true)/\J (pre++[x]) W'/\ag (λk=>¬K k) W1 W')\/(e= .returned (.bool false)/\Jx (pre++[x]) W')) ->
  J [] W ->
  CallsIn Fence.wide n P g (#[.func (.yield l) #[] #[]]++lb) W λe W'=>(∃v,e= .returned v)/\(J xs W'\/∃pre,pre <+: xs/\Jx pre W')
theorem YH {α:Type} {P:Program} {g:Operand} {ps:Array Tmp} {assign body:Code} {Q:Exit->Act->World->Prop} {a:Act} {w:World}
  {gf:Nat} {lb:Array Value} (hg:a.eval g= .func (.func gf) #[] lb) (eg:∀args w,(callFunc gf args).run P w= .ok (.enter gf args) w)
  {encs:α->Array Value} {T K:Nat->Prop} {Inv:World->Prop} {xs:List α} (hseq:aic P gf lb encs T K Inv xs w) (hps:∀x,(encs x).size=ps.size)
  (hT:∀k,T k->k<w.heap.size) (hK:∀k,K k->k<w.heap.size)
  (I:List α->World->Prop) (Ix:Code->List α->World->Prop) (hInv:∀pre A,I pre A->Inv A)
  (hI:∀pre A B,I pre A->ag (λk=>T k\/k=w.heap.size\/k=w.heap.size+1) A B->I pre B)
  (hIx:∀c pre A B,Ix c pre A->ag (λk=>T k\/k=w.heap.size\/k=w.heap.size+1) A B->Ix c pre B)
  (h0:I [] w) (Ax:Nat->α->Act->World->Prop) (hAx:∀N x a' A B,Ax N x a' A->ag (λk=>k=w.heap.size+1) A B->Ax N x a' B)
  (hassign:∀(m l:Nat) (x:α) (W:World) (C:Act->World->Prop),w.heap.size+2<=W.heap.size->(∀a' W',ag (λ_=>False) W W'->Ax W.heap.size x a' W'->C a' W') ->
   assign.wpIn (Fence.wide.inRound l) m P (Exit.then C (λ_ _ _=>False)) { tmps:=(ps.zip (encs x)).foldl (λt (p,v)=>t.setIfInBounds p v) a.tmps,defers:=[] } W)
  (hbody:∀(m l:Nat) (pre:List α) (x:α) (a':Act) (Wa W:World),w.heap.size+2<=W.heap.size->I pre W->Ax Wa.heap.size x a' W->pre++[x] <+: xs->I pre Wa->ag (λk=>k=w.heap.size+1) Wa W ->
   body.wpIn (Fence.wide.inRound l) m P (UH w.heap.size K I Ix (pre++[x]) W) a' W)
  (hdone:∀(W:World),w.heap.size+2<=W.heap.size->I xs W->W.heap[w.heap.size]? = some (.deferred (some []))->Q .normal { a with defers:=dB w.heap.size::a.defers } W)
  (hstop:∀(c:Code) (pre:List α) (W:World),w.heap.size+2<=W.heap.size->pre <+: xs->Ix c pre W->W.heap[w.heap.size]? = some (.deferred (some []))->c.wp P Q { a with defers:=dB w.heap.size::a.defers } W) :
  (Code.rangeFunc g ps assign body).wp P Q a w:=by
 refine (wpIn_wide (n:=0)).1 (wpIn_rangeFunc λfn _=>?_);obtain ⟨D,hD⟩:=ah (w.heap.size)
 -- the loop's record, in its three states
 obtain ⟨rec,hrec⟩:∃rec:LoopState->Option Code->Loop,rec=λs p=>{ state:=s,pending:=p,fn,tmps:=a.tmps,params:=ps,assign,body,defers:=D }:=⟨_,rfl⟩
 obtain ⟨W1,hW1⟩:=ah ((w.alloc (.deferred (some []))).alloc (.loop (rec .ready none)));have hent:(Instr.enterLoop fn a.tmps ps assign body none).run P w= .ok (D+1,[dB D]) W1:=by
  exact Iz
 have mH:ag (λ_=>False) w W1:=by rw [<-hW1];exact ((ag.refl _ w).alloc _).alloc _
 have hl1:W1.heap[D+1]? = some (.loop (rec .ready none)):=by
  exact QH
 have hd1:W1.heap[D]? = some (.deferred (some [])):=by
  exact Iy
 rw [hD] at hT hK hI hIx hAx hassign hbody hdone hstop;refine ⟨D+1,[dB D],W1,{ target:=.fn (.func gf) lb,args:=#[.func (.yield (D+1)) #[] #[]] },W1,gf,#[.func (.yield (D+1)) #[] #[]]++lb,W1,hent,?_,λ_ _=>trivial,?_,λh=>(by cases h),?_⟩
 ·simp only [resolve,hg]
  simp [go_sem]
 ·simp [invoke,go_sem,eg]
 -- what the iterator carries: the loop's invariant, the record, the block for deferred calls
 let J:List α->World->Prop:=λpre W=>I pre W/\W.heap[D+1]? = some (.loop (rec .ready none))/\W.heap[D]? = some (.deferred (some []))
 let Jx:List α->World->Prop:=λpre W=>∃c,Ix c pre W/\W.heap[D+1]? = some (.loop (rec .done (some c)))/\W.heap[D]? = some (.deferred (some []))
 have xz:∀k,T k->k≠D/\k≠D+1:=λk hk=>by have:=hT k hk;omega
 have Bh:∀k,K k->k≠D/\k≠D+1:=λk hk=>by have:=hK k hk;omega
 refine (hseq _ (D+1) J Jx W1 (mH.mono (λ_ _ h=>h.elim)) (λpre A h=>hInv pre A h.1) (λpre A B h hf=>⟨hI pre A B h.1 (hf.mono λ_ _ ht=>.inl ht),hf.same h.2.1 (λh=>(xz _ h).2 rfl),hf.same h.2.2 (λh=>(xz _ h).1 rfl)⟩)
  (λpre A B h hf=>by
   obtain ⟨c,h1,h2,h3⟩:=h;exact ⟨c,hIx c pre A B h1 (hf.mono λ_ _ ht=>.inl ht),hf.same h2 (λh=>(xz _ h).2 rfl),hf.same h3 (λh=>(xz _ h).1 rfl)⟩)
  ?_ ⟨hI [] w W1 h0 (mH.mono λ_ _ h=>h.elim),hl1,hd1⟩).mono ?_
 ·-- a round
  exact zT3
 ·-- behind the iterator
  exact ah4
end Go.Pol
