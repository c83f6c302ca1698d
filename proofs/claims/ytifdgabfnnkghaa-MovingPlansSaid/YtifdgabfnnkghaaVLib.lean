/- Words for lists of blocks (page, order, pinned): as cells, as readings, across steps. -/
import Derived.Test.YtifdgabfnnkghaaLib
import Derived.Test.YtifdgabfnnkghaaGLibS
import Derived.Test.YtifdgabfnnkghaaVSpecA
namespace Go.Pol
open Go Go.RowKit
/-- a slice of blocks -/
def RT (w : World) (B : Nat) (A : Option Addr) (bs : List B3) : Prop :=
  ∀ k, k < bs.length → ∃ b o, A = some ⟨b, o, none⟩ ∧ b < B ∧ w.cell? ⟨b, o + k * 3, none⟩ = some (.int .i64 (bs.getD k b0).1) ∧ w.cell? ⟨b, o + k * 3 + 1, none⟩ = some (.int .i64 (bs.getD k b0).2.1) ∧ w.cell? ⟨b, o + k * 3 + 2, none⟩ = some (.bool (bs.getD k b0).2.2)
def tCells (bs : List B3) : List Value := bs.flatMap fun x => [.int .i64 x.1, .int .i64 x.2.1, .bool x.2.2]
theorem tCells_len (bs : List B3) : (tCells bs).length = bs.length * 3 := by
  induction bs with
  | nil => rfl
  | cons x r ih => simp only [tCells, List.flatMap_cons, List.length_append, List.length_cons, List.length_nil] at ih ⊢; omega
theorem tCells_snoc (bs : List B3) (x : B3) : tCells (bs ++ [x]) = tCells bs ++ [.int .i64 x.1, .int .i64 x.2.1, .bool x.2.2] := by simp [tCells]
theorem tCells_append (bs cs : List B3) : tCells (bs ++ cs) = tCells bs ++ tCells cs := by simp [tCells]
theorem tCells_one (bs : List B3) : ∀ u ∈ tCells bs, u.oneCell' = true := by
  intro u hu
  simp only [tCells, List.mem_flatMap, List.mem_cons, List.not_mem_nil, or_false] at hu
  obtain ⟨x, _, rfl | rfl | rfl⟩ := hu <;> rfl
theorem tCells_at : ∀ (bs : List B3) (k : Nat), k < bs.length → (tCells bs)[k * 3]? = some (.int .i64 (bs.getD k b0).1) ∧ (tCells bs)[k * 3 + 1]? = some (.int .i64 (bs.getD k b0).2.1) ∧ (tCells bs)[k * 3 + 2]? = some (.bool (bs.getD k b0).2.2)
  | [], k, h => by simp at h
  | x :: r, 0, _ => by simp [tCells]
  | x :: r, k + 1, h => by
    have ih := tCells_at r k (by simpa using h)
    have e : tCells (x :: r) = .int .i64 x.1 :: .int .i64 x.2.1 :: .bool x.2.2 :: tCells r := by simp [tCells]
    rw [e, show (k + 1) * 3 = k * 3 + 1 + 1 + 1 by omega]
    simpa using ih
section
variable {w w' : World} {B B' : Nat} {A : Option Addr} {bs : List B3}
theorem RT.keep (h : RT w B A bs) (hk : ∀ p : Addr, p.block < B → w'.cell? p = w.cell? p) : RT w' B A bs := fun k hl => by
  obtain ⟨b, o, e, hb, hc, hd, hf⟩ := h k hl
  exact ⟨b, o, e, hb, (hk _ hb).trans hc, (hk _ hb).trans hd, (hk _ hb).trans hf⟩
theorem RT.below (h : RT w B A bs) (hb : Below B w w') : RT w' B A bs := h.keep fun _ hp => hb.cell hp
theorem RT.more (h : RT w B A bs) (hB : B ≤ B') : RT w B' A bs := fun k hl => by
  obtain ⟨b, o, e, hb, hc⟩ := h k hl
  exact ⟨b, o, e, by omega, hc⟩
theorem RT.on (h : RT w w.heap.size A bs) (hb : Below w.heap.size w w') : RT w' w'.heap.size A bs := (h.below hb).more hb.size
theorem RT.at_ (h : RT w B A bs) {k : Nat} (hk : k < bs.length) : ∃ b o, A = some ⟨b, o, none⟩ ∧ b < B ∧ w.cell? ⟨b, o + k * 3, none⟩ = some (.int .i64 (bs.getD k b0).1) ∧ w.cell? ⟨b, o + k * 3 + 1, none⟩ = some (.int .i64 (bs.getD k b0).2.1) ∧ w.cell? ⟨b, o + k * 3 + 2, none⟩ = some (.bool (bs.getD k b0).2.2) := h k hk
theorem RT.nil : RT w B A [] := fun k h => absurd h (by simp)
/-- what a call of the own made reads as a list -/
theorem own_RT {base n : Nat} {e : TypeId} {v : Value} (h : w.ownsRow base e 3 v n (tCells bs)) (hn : bs.length = n) : ∃ (A : Option Addr) (cap : Nat), v = .slice A n cap ∧ RT w w.heap.size A bs ∧ n ≤ cap ∧ cap ≤ maxLen ∧ (∀ b o, A = some ⟨b, o, none⟩ → base ≤ b) ∧ (bs = [] ∨ A ≠ none) := by
  have hv := h
  rcases h.2 with ⟨rfl, h0⟩ | ⟨g, cap, cur, rfl, hg, hk, hnc, hcm, _⟩
  · subst h0
    obtain rfl : bs = [] := List.eq_nil_of_length_eq_zero hn
    exact ⟨none, 0, rfl, RT.nil, Nat.le_refl _, by unfold maxLen; omega, fun b o e => (by cases e), .inl rfl⟩
  · refine ⟨_, cap, rfl, fun k hk' => ?_, hnc, hcm, fun b o e => by cases e; exact hg, .inr (by simp)⟩
    have h2 := tCells_at bs k hk'
    have c0 := hv.cellAt (k * 3) (by omega)
    have c1 := hv.cellAt (k * 3 + 1) (by omega)
    have c2 := hv.cellAt (k * 3 + 2) (by omega)
    refine ⟨g, 0, rfl, Blk.lt hk, ?_, ?_, ?_⟩
    · rw [Nat.zero_add, c0]; exact h2.1
    · rw [Nat.zero_add, c1]; exact h2.2.1
    · rw [Nat.zero_add, c2]; exact h2.2.2
theorem news_three {g : Nat} {t : TypeId} {a b : Int} {c : Bool} (h : Blk w g t #[.int .i64 a, .int .i64 b, .bool c]) : ∀ (j : Nat) (u : Value), [Value.int .i64 a, Value.int .i64 b, Value.bool c][j]? = some u → w.cell? ((⟨g, 0, none⟩ : Addr).add j) = some u := by
  intro j u hu
  rw [addr_add0, Nat.zero_add]
  rw [h.cell]
  simpa using hu
theorem news_one3 {a b : Int} {c : Bool} : ∀ u ∈ [Value.int .i64 a, Value.int .i64 b, Value.bool c], u.oneCell' = true := by
  intro u hu
  simp only [List.mem_cons, List.not_mem_nil, or_false] at hu
  rcases hu with rfl | rfl | rfl <;> rfl
end
/-- the value of a block -/
abbrev bV (x : B3) : Value := .agg #[.int .i64 x.1, .int .i64 x.2.1, .bool x.2.2]
end Go.Pol
