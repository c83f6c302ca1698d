/- Law of no program: a map of numbers that a call has made, key by key; what its stores leave. -/
import Derived.Maps.OwnIn
import Derived.Maps.OwnSet
import Derived.Maps.OwnOps
import Derived.Test.YtjmmgoijnhnnaaaGreatT30
namespace Go.Pol
open Go Go.RowKit
def MapIs (P : Program) (ti : TypeId) (W : World) (B n : Nat) (f : Int → Option Int) : Prop :=
 ∃ D : DataW Unit, W.ownsMap P ti (plainElem P ti) B n D ∧ Maps.IsMap D ∧ ∀ p, (f p = none → Maps.has D (.int .i64 p) = false) ∧ (∀ c, f p = some c → Maps.has D (.int .i64 p) = true ∧ ∀ z, D.atKey (.int .i64 p) z = .lit (.int .i64 c))
def upM (f : Int → Option Int) (p c : Int) : Int → Option Int := fun q => if q = p then some c else f q
section
variable {P : Program} {ti : TypeId} {W W' : World} {B n : Nat} {f : Int → Option Int}
theorem MapIs.made (W : World) : MapIs P ti (W.alloc (.map #[] 0)) W.heap.size 0 (fun _ => none) :=
 ⟨.map [], World.ownsMap_made _ _ _ _, ⟨[], rfl⟩, fun _ => ⟨fun _ => rfl, fun _ h => by cases h⟩⟩
theorem MapIs.mono (h : MapIs P ti W B n f) {m : Nat} (hm : n ≤ m) : MapIs P ti W B m f := by
 obtain ⟨D, h1, h2, h3⟩ := h
 exact ⟨D, h1.mono hm, h2, h3⟩
theorem MapIs.lt (h : MapIs P ti W B n f) : B < W.heap.size := by
 obtain ⟨D, h1, _⟩ := h
 exact h1.lt
theorem MapIs.far {T : Nat → Prop} (h : MapIs P ti W B n f) (hF : Far T W W') (hT : ¬ T B) : MapIs P ti W' B n f := by
 have hl := h.lt
 obtain ⟨D, ⟨es, clock, hb, F, hs, hD⟩, h2, h3⟩ := h
 exact ⟨D, ⟨es, clock, (hF.block B hl hT).trans hb, F, hs, hD⟩, h2, h3⟩
theorem MapIs.call (h : MapIs P ti W B n f) (hb : Below W.heap.size W W') : MapIs P ti W' B n f := h.far (T := fun _ => False) (Far.of_below hb) id
theorem MapIs.put {D : DataW Unit} (h2 : Maps.IsMap D) (h3 : ∀ p, (f p = none → Maps.has D (.int .i64 p) = false) ∧ (∀ c, f p = some c → Maps.has D (.int .i64 p) = true ∧ ∀ z, D.atKey (.int .i64 p) z = .lit (.int .i64 c)))
  {p c : Int} (h : W'.ownsMap P ti (plainElem P ti) B n (D.put (.int .i64 p) (.lit (.int .i64 c)))) : MapIs P ti W' B n (upM f p c) := by
 have hk : WideAt.IsKeyLit (.int .i64 p) := trivial
 refine ⟨_, h, ?_, fun q => ?_⟩
 ·obtain ⟨es, rfl⟩ := h2
  exact ⟨_, rfl⟩
 ·unfold upM
  by_cases e : q = p
  ·subst e
   rw [if_pos rfl]
   refine ⟨fun h => (by cases h), fun d hd => ?_⟩
   cases hd
   exact ⟨Maps.has_put_same h2 hk _, fun z => Maps.atKey_put_same h2 hk _ z⟩
  ·rw [if_neg e]
   have hne : (Lit.int .i64 q) ≠ Lit.int .i64 p := fun h => e (by cases h; rfl)
   refine ⟨fun h => by rw [Maps.has_put_other hne]; exact (h3 q).1 h, fun d hd => ?_⟩
   rw [Maps.has_put_other hne]
   exact ⟨((h3 q).2 d hd).1, fun z => by rw [Maps.atKey_put_other hne]; exact ((h3 q).2 d hd).2 z⟩
theorem MapIs.look {D : DataW Unit} {p c : Int} (h3 : (f p = none → Maps.has D (.int .i64 p) = false) ∧ (∀ c, f p = some c → Maps.has D (.int .i64 p) = true ∧ ∀ z, D.atKey (.int .i64 p) z = .lit (.int .i64 c)))
  (hc : D.atKey (.int .i64 p) (.lit (.int .i64 0)) = .lit (.int .i64 c)) : (f p = none ∧ Maps.has D (.int .i64 p) = false) ∨ (f p = some c ∧ Maps.has D (.int .i64 p) = true) := by
 cases hf : f p with
 | none => exact .inl ⟨rfl, h3.1 hf⟩
 | some d =>
  obtain ⟨a, b⟩ := h3.2 d hf
  have e := (b (.lit (.int .i64 0))).symm.trans hc
  injection e with e
  injection e with _ e
  subst e
  exact .inr ⟨rfl, a⟩
end
end Go.Pol
