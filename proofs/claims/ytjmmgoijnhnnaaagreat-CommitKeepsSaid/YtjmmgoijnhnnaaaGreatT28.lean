/- Plain law of layer 12 (commit): what is in a page that stays committed does not change. -/
import Derived.Test.YtjmmgoijnhnnaaaGreatT27
namespace Go.Pol
open Go Go.RowKit
def Hold (V W : Vm) : Prop := ∀ p : Nat, kd W p = 2 → ∀ j, (W.pg p).byt j = (V.pg p).byt j
def Stay (V W : Vm) : Prop := ∀ p : Nat, kd W p = 2 → W.pg p = V.pg p
theorem Hold.refl (V : Vm) : Hold V V := fun _ _ _ => rfl
theorem Stay.refl (V : Vm) : Stay V V := fun _ _ => rfl
theorem Stay.trans {V W X : Vm} (h : Stay V W) (k : Stay W X) : Stay V X := fun p hp => by
 have e := k p hp
 rw [e]
 refine h p ?_
 unfold kd at hp ⊢
 rw [← e]; exact hp
theorem Hold.stay {V W X : Vm} (h : Hold V W) (k : Stay W X) : Hold V X := fun p hp j => by
 have e := k p hp
 rw [e]
 refine h p ?_ j
 unfold kd at hp ⊢
 rw [← e]; exact hp
theorem Stay.bec (V : Vm) (a n : Int) (call : Nat) (fr : Int) {tk : Int} (ht : tk ≠ 2) : Stay V (bec V a n call fr tk).2 := fun p hp => by
 rcases bec_cases V a n call fr tk with ⟨_, k⟩ | ⟨_, k⟩
 ·rw [k]
 ·rw [k.kd p] at hp
  rw [k.pg p]
  by_cases hc : a ≤ (p : Int) ∧ (p : Int) < a + n
  ·rw [if_pos hc] at hp; exact absurd hp ht
  ·rw [if_neg hc]
def Byts (V W : Vm) : Prop := ∀ p j, (W.pg p).byt j = (V.pg p).byt j
theorem Byts.refl (V : Vm) : Byts V V := fun _ _ => rfl
theorem Byts.trans {V W X : Vm} (h : Byts V W) (k : Byts W X) : Byts V X := fun p j => (k p j).trans (h p j)
theorem Byts.hold {V W : Vm} (h : Byts V W) : Hold V W := fun p _ j => h p j
theorem Byts.com {V : Vm} (hP : Plain V) (a n : Int) (call : Nat) (tk : Int) : Byts V (bec V a n call 1 tk).2 := fun p j => by
 rcases bec_cases V a n call 1 tk with ⟨_, k⟩ | ⟨_, k⟩
 ·rw [k]
 ·rw [k.pg p]
  by_cases hc : a ≤ (p : Int) ∧ (p : Int) < a + n
  ·rw [if_pos hc, hP.byt p (by rw [k.was p hc.1 hc.2]; decide) j]; rfl
  ·rw [if_neg hc]
theorem Byts.comL : ∀ (XS d : List RnT) (V : Vm), Plain V → Byts V (comL XS d V).2.1
 | [], _, V, _ => Byts.refl V
 | x :: r, d, V, h => by
  rw [Go.Pol.comL]
  split
  ·exact Byts.com h _ _ _ _
  ·exact (Byts.com h _ _ _ _).trans (Byts.comL r _ _ (h.bec _ _ _ _ _))
theorem Stay.undo : ∀ (l : List RnT) (S : Vm × List Sp × Int), Stay S.1 (l.foldl undoC S).1
 | [], S => Stay.refl S.1
 | x :: l, S => by
  refine Stay.trans (W := (undoC S x).1) ?_ (Stay.undo l (undoC S x))
  unfold undoC
  dsimp only
  split <;> exact Stay.bec _ _ _ _ _ (by decide)
theorem Hold.grow {V : Vm} (hP : Plain V) (L : List Nd) (r : Cr) (tt : Int) : Hold V (growC V L r tt).2.2.1 := by
 unfold growC
 split
 ·exact Hold.refl V
 ·split
  ·exact Hold.refl V
  ·split
   ·exact Hold.refl V
   ·dsimp only
    split
    ·exact Hold.refl V
    ·split
     ·exact (Byts.comL _ _ V hP).hold
     ·exact (Byts.comL _ _ V hP).hold.stay (Stay.undo _ _)
end Go.Pol
