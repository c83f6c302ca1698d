/- Merged texts. Walks of layer 12 (commit): one call of a play. -/
import Derived.Test.YtjmmgoijnhnnaaaGreatR11
namespace Go.Pol
open Go Go.RowKit
theorem Ij {P:Program} {ops:Array Oper} {Q:Exit→Act→World→Prop} {md:Region.Mode} {S:World→Prop} {tl:List Nat} {i:Nat} {oi:Oper} {v:Value} (hi:ops[i]? = some oi) (hsel:∀(j:Nat) (o:Oper) cs b,ops[j]? = some o→o.op≠.select cs b)
  (hQ:∀c a w,Q (.panic c) (a.put oi.dst v) w→Q (.panic c) a w) :
  ∀(fuel:Nat) (listed:Array Bool) (a:Act) (w:World),Closed md ops listed→(∀t∈tl,listed.getD t false=true∨t∈mV md ops i ops.size) →
   (∀j oj,ops[j]? = some oj→j≠i→listed.getD j true=false→(∀e∈oj.after,Region.binds md e=true→e.on≠i)→oi.apart ops oj=true) →
   i∈Region.ready md ops listed→YieldsIf P ops S oi v a→S w →
   eF P md ops Q S tl fuel (listed.setIfInBounds i true) (a.put oi.dst v) w→eF P md ops Q S tl (fuel+1) listed a w:=by
 intro fuel;induction fuel with
 | zero =>
  intro listed a w hcl _ _ hr hy hS H;refine ⟨fun h=>(by rw [h] at hr;cases hr),fun j hj=>?_⟩;by_cases hji:j=i
  ·subst hji;exact hy.wpOp hi hS ⟨fun _=>hS,H⟩
  ·have:=ready_mono hj hji
   rw [H.1] at this;cases this
 | succ fuel ih =>
  intro listed a w hcl htl hfree hr hy hS H;refine ⟨fun h=>(by rw [h] at hr;cases hr),fun j hj=>?_⟩;by_cases hji:j=i
  ·subst hji;exact hy.wpOp hi hS ⟨fun _=>hS,H⟩
  ·have h1:=H.2 j (ready_mono hj hji)
   obtain ⟨hjun,oj,hoj,hall⟩:=mem_ready.1 hj;have hun:listed.getD i false=false:=getD_both (mem_ready.1 hr).1;have XC:tl.contains j=false:=by
    cases h:tl.contains j with
    | false=>rfl
    | true =>
     rcases htl j (by simpa using h) with h2|h2
     ·have h3:=getD_both hjun
      rw [h3] at h2;cases h2
     ·exact absurd hj (rY hcl hun _ j h2).2
   have hnot:∀e∈oj.after,Region.binds md e=true→e.on≠i:=fun e he hb heq=>by
    have h1:=hall e he hb;rw [heq,hun] at h1;cases h1
   have h2:=wpOp_putIf hoj (hfree j oj hoj hji hjun hnot) (fun cs b=>hsel i oi cs b hi) (fun cs b=>hsel j oj cs b hoj) hQ hy h1;have hfree':∀k ok,ops[k]? = some ok→k≠i→(listed.setIfInBounds j true).getD k true=false →
     (∀e∈ok.after,Region.binds md e=true→e.on≠i)→oi.apart ops ok=true:=fun k ok hk hki hun hno=>by
    refine hfree k ok hk hki ?_ hno;by_cases hjk:j=k
    ·subst hjk;exact hjun
    ·rw [getD_set_ne true hjk] at hun;exact hun
   refine wpOp_mono (fun a' w' h3=>⟨h3.2.1,ih (listed.setIfInBounds j true) a' w' (hcl.set hj) (fun t ht=>(htl t ht).imp (fun h=>getD_set_true h) id) hfree' (ready_mono hr (Ne.symm hji)) h3.1 (h3.2.1 XC) ?_⟩) h2;rw [Array.setIfInBounds_comm _ _ hji];exact h3.2.2
theorem JO {P:Program} {ops:Array Oper} {Q:Exit→Act→World→Prop} {md:Region.Mode} {S:World→Prop} {tl:List Nat} {i:Nat} {oi:Oper} {v:Value} {fuel:Nat} {listed:Array Bool} {a:Act} {w:World} (hi:ops[i]? = some oi)
  (hB:(Region.noSelect ops&&Region.free md ops listed i&&(Region.ready md ops listed).contains i&&yf md ops listed&&tl.all (fun t=>listed.getD t false||(mV md ops i ops.size).contains t))=true)
  (hQ:∀c a w,Q (.panic c) (a.put oi.dst v) w→Q (.panic c) a w) (hy:YieldsIf P ops S oi v a) (hS:S w)
  (h:eF P md ops Q S tl fuel (listed.setIfInBounds i true) (a.put oi.dst v) w):eF P md ops Q S tl (fuel+1) listed a w:=by
 simp only [Bool.and_eq_true] at hB;obtain ⟨⟨⟨⟨h1,h2⟩,h3⟩,h4⟩,h5⟩:=hB;exact Ij hi (Region.noSelect_spec h1) hQ fuel listed a w (FM h4) (fun t ht=>by simpa using List.all_eq_true.1 h5 t ht) (Region.free_spec hi h2) (by simpa using h3) hy hS h
theorem bZ {P:Program} {ops:Array Oper} {Q:Exit→Act→World→Prop} {md:Region.Mode} {S:World→Prop} {tl:List Nat} (i:Nat) {oi:Oper} {v:Value} {fuel:Nat} {listed:Array Bool} {a b:Act} {w:World} (hS:S w) (h:eF P md ops Q S tl fuel (listed.setIfInBounds i true) b w) (hi:ops[i]? = some oi:=by (simp only [List.getElem?_toArray,List.getElem?_cons_succ,List.getElem?_cons_zero];rfl)) (hB:(Region.noSelect ops&&Region.free md ops listed i&&(Region.ready md ops listed).contains i&&yf md ops listed&&tl.all (fun t=>listed.getD t false||(mV md ops i ops.size).contains t))=true:=by kernel_rfl) (hQ:∀c a w,Q (.panic c) (a.put oi.dst v) w→Q (.panic c) a w:=by exact fun _ _ _ h=>h) (hy:YieldsIf P ops S oi v a:=by (refine Or.inl ⟨rfl,?_⟩;intro wS hSw;obtain ⟨_,_⟩:=hSw;go_simp;(try with_reducible rfl))) (hb:a.put oi.dst v=b:=by (try simp only [Act.put,gM,gN,gP]);exact rfl):eF P md ops Q S tl (fuel+1) listed a w:=JO hi hB hQ hy hS (hb ▸ h)
def ug (y bs bb x:Nat) (r:Cr) (v:Value) (b:Int) (W:World):Prop:=W.cell? ⟨y,0,none⟩=some (.pointer (some ⟨bs,0,none⟩))∧W.cell? ⟨y,1,none⟩=some (.pointer (some ⟨bb,0,none⟩))∧W.cell? ⟨y,2,none⟩=some (.int .i64 r.pg)∧W.cell? ⟨y,3,none⟩=some (.int .i64 r.n)∧W.cell? ⟨y,4,none⟩=some (.int .i64 r.f)∧W.cell? ⟨y,5,none⟩=some (.int .i64 r.bk)∧W.cell? ⟨y,6,none⟩=some (.int .i64 r.ev)∧W.cell? ⟨y,7,none⟩=some (.int .i64 r.node)∧W.cell? ⟨y,8,none⟩=some (.int .i64 r.live)∧W.cell? ⟨y,9,none⟩=some v∧W.cell? ⟨y,10,none⟩=some (.bool r.cl)∧W.cell? ⟨x,1,none⟩=some (.int .i64 b)
def Af (r:Cr) (i:Int):Int×Int:=if bN r.pg r.n r.f r.bk r.ev=0 then lu (aA r.pg r.n r.f r.bk r.ev) i else (0,bN r.pg r.n r.f r.bk r.ev)
end Go.Pol
namespace Go.Proofs.YtjmmgoijnhnnaaaGreat
open Go Go.Proofs Go.RowKit Go.Pol Go.Shelf
attribute [local go_sem] Oper.semAt_some aC au az ah
theorem Pn {r:Cr} {i:Int}:(Af r i).2=0→0≤(Af r i).1∧(Af r i).1<1024:=fun h=>by
 unfold Af at h ⊢;by_cases hc:bN r.pg r.n r.f r.bk r.ev=0
 ·rw [if_pos hc] at h ⊢
  have hp:=bU.1 hc;have hpos:=rO hp;have hi:0≤i∧i<aI (aA r.pg r.n r.f r.bk r.ev):=by
   rw [qf _ _ hpos,vI] at h;split at h
   ·exact absurd h (by decide)
   ·have:=jq (aA r.pg r.n r.f r.bk r.ev) (fun x hx=>by have:=hpos x hx;omega)
    omega
  have:=Gm hp i.toNat (by omega);rw [show ((i.toNat:Nat):Int)=i by omega] at this;rw [this.1];exact ⟨this.2.2.2.1,this.2.2.2.2.1⟩
 ·rw [if_neg hc] at h
  exact absurd h hc
end Go.Proofs.YtjmmgoijnhnnaaaGreat
