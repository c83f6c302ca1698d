/- The best plan: as plain functions; no program in sight. -/
import Derived.Test.YtifdgabfnnkghaaVSpecC
namespace Go.Pol
def cmpN (x y : Int) : Int := if x < y then -1 else if y < x then 1 else 0
theorem cmpN_zero {x y : Int} : cmpN x y = 0 ↔ x = y := by
  unfold cmpN
  by_cases h1 : x < y
  · rw [if_pos h1]; omega
  · rw [if_neg h1]
    by_cases h2 : y < x
    · rw [if_pos h2]; omega
    · rw [if_neg h2]; omega
theorem cmpN_lt {x y : Int} : cmpN x y < 0 ↔ x < y := by
  unfold cmpN
  by_cases h1 : x < y
  · rw [if_pos h1]; omega
  · rw [if_neg h1]
    by_cases h2 : y < x
    · rw [if_pos h2]; omega
    · rw [if_neg h2]; omega
theorem cmpN_bound (x y : Int) : -1 ≤ cmpN x y ∧ cmpN x y ≤ 1 := by
  unfold cmpN
  split
  · omega
  · split <;> omega
/-- the first one that is not 0 -/
def orN : List Int → Int
  | [] => 0
  | x :: r => if x = 0 then orN r else x
theorem orN_bound : ∀ (l : List Int), (∀ x ∈ l, -1 ≤ x ∧ x ≤ 1) → -1 ≤ orN l ∧ orN l ≤ 1
  | [], _ => by simp [orN]
  | x :: r, h => by
    rw [orN]
    split
    · exact orN_bound r (fun y hy => h y (by simp [hy]))
    · exact h x (by simp)
def moveN (a b : Int × Int) : Int := orN [cmpN a.1 b.1, cmpN a.2 b.2]
theorem moveN_zero {a b : Int × Int} : moveN a b = 0 ↔ a = b := by
  obtain ⟨a1, a2⟩ := a
  obtain ⟨b1, b2⟩ := b
  unfold moveN
  simp only [orN, Prod.mk.injEq]
  have h1 := cmpN_zero (x := a1) (y := b1)
  have h2 := cmpN_zero (x := a2) (y := b2)
  by_cases e : cmpN a1 b1 = 0
  · rw [if_pos e]
    by_cases e2 : cmpN a2 b2 = 0
    · rw [if_pos e2]; exact ⟨fun _ => ⟨h1.1 e, h2.1 e2⟩, fun _ => rfl⟩
    · rw [if_neg e2]; exact ⟨fun h => absurd h e2, fun h => absurd (h2.2 h.2) e2⟩
  · rw [if_neg e]; exact ⟨fun h => absurd h e, fun h => absurd (h1.2 h.1) e⟩
theorem moveN_bound (a b : Int × Int) : -1 ≤ moveN a b ∧ moveN a b ≤ 1 := by
  refine orN_bound _ (fun x hx => ?_)
  simp only [List.mem_cons, List.not_mem_nil, or_false] at hx
  rcases hx with rfl | rfl <;> exact cmpN_bound _ _
def listN : List (Int × Int) → List (Int × Int) → Int
  | [], [] => 0
  | [], _ :: _ => -1
  | _ :: _, [] => 1
  | x :: r, y :: s => if moveN x y = 0 then listN r s else moveN x y
theorem listN_bound : ∀ (xs ys : List (Int × Int)), -1 ≤ listN xs ys ∧ listN xs ys ≤ 1
  | [], [] => by simp [listN]
  | [], _ :: _ => by simp [listN]
  | _ :: _, [] => by simp [listN]
  | x :: r, y :: s => by
    rw [listN]
    split
    · exact listN_bound r s
    · exact moveN_bound x y
/-- which blocks have a page in common with a place? -/
def movedB (bs : List B3) (c : B3) : List Nat := (List.range bs.length).filter fun i => overB (bs.getD i b0) c
def costM (bs : List B3) (moved : List Nat) : Int := (moved.map fun i => pw (bs.getD i b0).2.1).sum
def staysM (bs : List B3) (o : Int) (moved : List Nat) : Bool := moved.any fun i => (bs.getD i b0).2.2 || decide (o < (bs.getD i b0).2.1)
abbrev PlanSt := List (Int × Int) × Int × Bool
def lessP (cost : Int) (ms : List (Int × Int)) (st : PlanSt) : Bool := decide (orN [cmpN cost st.2.1, cmpN ms.length st.1.length, listN ms st.1] < 0)
def skipP (bs : List B3) (o : Nat) (mv : List Nat) (st : PlanSt) : Bool := staysM bs (o : Int) mv || (st.2.2 && (decide (st.2.1 < costM bs mv) || (decide (costM bs mv = st.2.1) && decide (st.1.length < mv.length))))
abbrev placeB (o k : Nat) : B3 := (((k * 2 ^ o : Nat) : Int), (o : Int), false)
def stepP (pg : Nat) (bs : List B3) (o : Nat) (st : PlanSt) (k : Nat) : PlanSt :=
  if skipP bs o (movedB bs (placeB o k)) st = true then st
  else if ((emptyB pg bs (placeB o k) (movedB bs (placeB o k))).2 && (!st.2.2 || lessP (costM bs (movedB bs (placeB o k))) (emptyB pg bs (placeB o k) (movedB bs (placeB o k))).1 st)) = true then ((emptyB pg bs (placeB o k) (movedB bs (placeB o k))).1, costM bs (movedB bs (placeB o k)), true) else st
/-- the best plan, its cost; is there one? -/
def planB (pg : Nat) (bs : List B3) (o : Nat) : PlanSt := (List.range (pg / 2 ^ o)).foldl (stepP pg bs o) ([], 0, false)
def PlanF (pages : Int) (bs : List B3) (o : Int) : List (Int × Int) × Int :=
  if chkB pages bs = 0 then
    if isOrd o = true ∧ pw o ≤ pages then if (planB pages.toNat bs o.toNat).2.2 = true then ((planB pages.toNat bs o.toNat).1, 0) else ([], 4)
    else ([], 2)
  else ([], chkB pages bs)
def largeL (pg : Nat) (bs : List B3) : Nat → Int × Int × Int
  | 0 => (0, 0, 4)
  | o + 1 => if (planB pg bs o).2.2 = true then ((o : Int), (planB pg bs o).2.1, 0) else largeL pg bs o
def LargeF (pages : Int) (bs : List B3) : Int × Int × Int := if chkB pages bs = 0 then largeL pages.toNat bs (pages.toNat.log2 + 1) else (0, 0, chkB pages bs)
end Go.Pol
