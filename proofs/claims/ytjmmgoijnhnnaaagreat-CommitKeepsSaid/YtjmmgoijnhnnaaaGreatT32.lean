/- Plain law of layer 12 (commit): does a range fit a system? -/
import Derived.Test.YtjmmgoijnhnnaaaGreatT31
namespace Go.Pol
open Go Go.RowKit
abbrev runsR (r : Cr) : List Sp := runsL r.pg r.n r.f r.bk r.ev
def wantC (r : Cr) (p : Int) : Int := if mem p (runsR r) = true then (if useC r (idxF p 0 (runsR r)).1 = true then 2 else 1) else 3
def badC (V : Vm) (r : Cr) (p : Int) : Bool := if r.cl = true then (kd V p.toNat != 1 && kd V p.toNat != 3) else kd V p.toNat != wantC r p
def fitL (V : Vm) (r : Cr) : Nat → Int → Bool × Int
 | 0, _ => (true, -1)
 | k + 1, p => if badC V r p = true then (false, p) else fitL V r k (p + 1)
def fitsC (V : Vm) (r : Cr) : Bool × Int × Int := if chkCm r ≠ 0 then (false, 0, chkCm r) else ((fitL V r r.n.toNat r.pg).1, (fitL V r r.n.toNat r.pg).2, 0)
def wantM (r : Cr) : List Int → Int → (Int → Option Int) → Int → Option Int
 | [], _, f => f
 | x :: l, j, f => wantM r l (j + 1) (upM f x (if useC r j = true then 2 else 1))
theorem wantM_snoc (r : Cr) (x : Int) : ∀ (l : List Int) (j : Int) (f : Int → Option Int), wantM r (l ++ [x]) j f = upM (wantM r l j f) x (if useC r (j + l.length) = true then 2 else 1)
 | [], j, f => by simp [wantM]
 | y :: l, j, f => by
  rw [List.cons_append, wantM, wantM, wantM_snoc r x l]
  rw [show j + 1 + (l.length : Int) = j + ((y :: l).length : Int) by simp only [List.length_cons]; omega]
theorem wantM_at (r : Cr) (ix : Int → Int) (p : Int) : ∀ (l : List Int) (j : Int) (f : Int → Option Int), (∀ k, k < l.length → ix (l.getD k 0) = j + k) → wantM r l j f p = if p ∈ l then some (if useC r (ix p) = true then 2 else 1) else f p
 | [], _, _, _ => by simp [wantM]
 | x :: l, j, f, h => by
  rw [wantM, wantM_at r ix p l (j + 1) _ (fun k hk => by
   have := h (k + 1) (by simp; omega)
   rw [List.getD_cons_succ] at this
   rw [this]; omega)]
  by_cases hp : p ∈ l
  ·rw [if_pos hp, if_pos (List.mem_cons_of_mem _ hp)]
  ·rw [if_neg hp]
   unfold upM
   by_cases e : p = x
   ·subst e
    rw [if_pos (show p = p from rfl), if_pos (show p ∈ p :: l by simp)]
    have := h 0 (by simp)
    rw [List.getD_cons_zero] at this
    rw [this]; simp
   ·rw [if_neg e, if_neg (by simp [e, hp])]
theorem wantM_law {r : Cr} (hp : PlanOk r.pg r.n r.f r.bk r.ev) (p : Int) : wantM r (pagesOf (runsR r)) 0 (fun _ => none) p = if mem p (runsR r) = true then some (wantC r p) else none := by
 rw [wantM_at r (fun q => (idxF q 0 (runsR r)).1) p _ 0 _ (fun k hk => by
  have h1 : ((pagesOf (runsR r)).length : Int) = sumS (runsL r.pg r.n r.f r.bk r.ev) := pagesOf_len (runsR r) (fun x hx => by have := runs_pos hp x hx; omega)
  have := (parts_nth hp k (by omega)).2.1
  unfold pageAt at this
  rw [this]; simp)]
 by_cases hm : mem p (runsR r) = true
 ·rw [if_pos (mem_pagesOf.2 hm), if_pos hm]
  unfold wantC
  rw [if_pos hm]
 ·rw [if_neg (fun h => hm (mem_pagesOf.1 h)), if_neg hm]
theorem wantC_none {r : Cr} {p : Int} (h : ¬ mem p (runsR r) = true) : wantC r p = 3 := by unfold wantC; rw [if_neg h]
theorem CmI.fits {V : Vm} {L : List Nd} {r : Cr} (h : CmI V L r) (ho : CrOk r) : fitsC V r = (true, -1, 0) := by
 obtain ⟨_, hk, hc⟩ := h.of_ok ho
 have hgo : ∀ (k : Nat) (p : Int), r.pg ≤ p → p + k ≤ r.pg + r.n → fitL V r k p = (true, -1) := by
  intro k
  induction k with
  | zero => intro p _ _; rfl
  | succ k ih =>
   intro p h1 h2
   rw [fitL, if_neg, ih (p + 1) (by omega) (by omega)]
   have hp0 : 0 ≤ r.pg := ho.plan.pg0
   obtain ⟨q, rfl⟩ : ∃ q : Nat, p = q := ⟨p.toNat, by omega⟩
   unfold badC
   cases hcl : r.cl with
   | true =>
    have := hc hcl q
    rw [if_pos (by omega)] at this
    rw [if_pos rfl, Int.toNat_natCast]
    rcases this with e | e <;> rw [e] <;> decide
   | false =>
    have := hk hcl q
    rw [if_neg (by simp), Int.toNat_natCast, this]
    unfold wantC
    by_cases hm : mem (q : Int) (runsR r) = true
    ·have hm' : mem (q : Int) (runsL r.pg r.n r.f r.bk r.ev) = true := hm
     rw [if_pos hm, if_pos hm']
     simp
    ·have hm' : ¬ mem (q : Int) (runsL r.pg r.n r.f r.bk r.ev) = true := hm
     rw [if_neg hm, if_neg hm', if_pos (by omega)]
     decide
 unfold fitsC
 rw [if_neg (by simpa using chkCm_zero.2 ho), hgo r.n.toNat r.pg (Int.le_refl _) (by have := ho.plan.n0; omega)]
end Go.Pol
