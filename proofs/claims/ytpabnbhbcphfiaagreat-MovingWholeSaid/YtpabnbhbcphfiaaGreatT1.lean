/- Merged texts. What the functions of layer 24 compute, as plain functions; no program in sight. Free places: what the program's room and the reference's marks stand for; no program in sight. The moves that empty a candidate: as plain functions; no program in sight. The best plan: as plain functions; no program in sight. The examples of layer 24, by evaluation; no program in sight. Words for memory that all walks of this seat share: a slice that reads as a list of integers or of structs of integers; how such readings are carried into worlds that have grown. Plain functions and laws on spans of pages: what a set is, that two sets with the same pages are equal, the common pages and the gaps of sets, the set of marked pages. A range over a function value whose function keeps its state in cells: what it may write (T), what the loop's body must leave (K), what the loop carries (I); the contract of such a function value, and the statement's own law at the widest fence. Walks: the function values that the spans' and the guards' loops go through (common pages of two sets; runs of usable pages). Walks: the checks of layer 11 (guards), of the program and of the reference; the kind of a page. Walks: bits.Len of small numbers, Least of layer 11. The kit's contracts for slices.SortFunc and slices.Grow, laid at this program in plain words (written by the kit's lay-plain; numbers of this seat). Slices of spans that a call has made itself: as cells, as readings, across steps. Words for lists of blocks (page, order, pinned): as cells, as readings, across steps. Walks: sizes, ends, places, overlaps: of the program and of the reference. Walk: the reference's Check of blocks. A range over a function value whose function keeps cells of its own that it makes while it runs (X: what of all blocks is the function's); a region of such a function whose last operations hand a value to the loop. A slice of its own that a loop over a function value appends to, while the function makes blocks of its own: the slice's block is none of those. Walks: slices.Values of blocks as a function value; slices.Collect over it. -/
import Derived.Below
import Derived.Laws.OwnMore
import Derived.Laws.MakeOwn
import Derived.Laws.CopyOwn
import Derived.Deep.RegionLaw
import Derived.Deep.AppendLies
import Derived.Deep.Draws
import Derived.Deep.QuietTactic
import Derived.BigQuiet
import Derived.Lib.Hide
import Derived.WalkKit
import Derived.WalkSpells
import Derived.WalkLawsBesides
import Derived.Maps.AppendAt
import Derived.StillTailTactics
import Derived.Deep.RegionHeld3
import Derived.Deep.DeepCutAuto
import Derived.Deep.DeepFit
import Derived.ChangeSame
import Derived.Deep.Slices
import Derived.Deep.Fields
import Derived.Lib.SmallJoins
import Derived.OpenShut
import Derived.ProofKit
import Derived.OpenVars
import Derived.JoinedOf
import Derived.Test.YtpabnbhbcphfiaaGreatChecked
import Derived.Laws.StructEq
import Derived.RangeFuncNested
import Derived.RangeFuncBound
import Derived.RangeFuncCalls
import Derived.RangeFuncLeaves
import Derived.OwnWalkIn
import Derived.TacticsInMore
import Derived.LoopNIn
import Derived.LoopIn
import Derived.Sort.CutIn
import Derived.Lib.BitFns
import Derived.Lib.Strings
import Derived.Lib.Small
import Derived.Lib.Walk
import Derived.Shelf.SlSortCmp.WholeK
import Derived.Ground.SlsfProg
import Derived.Shelf.Spec.SlicesGrow
import Derived.Ground.Names8Prog
import Derived.Test.YtpabnbhbcphfiaaGreatProg
import Derived.Laws.BitsLemmas
import Derived.OrdersIn
import Derived.Laws.AppendOwn
import Derived.Shelf.Abstract
namespace Go.Pol
/-- a block: page, order, pinned -/
abbrev B3 := Int × Int × Bool
/-- pages of a block of an order -/
def pw (o : Int) : Int := 2 ^ o.toNat
theorem pw_nat (o : Nat) : pw (o : Int) = ((2 ^ o : Nat) : Int) := by unfold pw; simp
theorem pw_pos (o : Int) : 1 ≤ pw o := by
  have h : pw o = ((2 ^ o.toNat : Nat) : Int) := by simp [pw]
  have := Nat.two_pow_pos o.toNat
  omega
theorem pw_le {o : Int} (h : o ≤ 10) : pw o ≤ 1024 := by
  unfold pw
  have h1 : o.toNat ≤ 10 := by omega
  rcases (show o.toNat = 0 ∨ o.toNat = 1 ∨ o.toNat = 2 ∨ o.toNat = 3 ∨ o.toNat = 4 ∨ o.toNat = 5 ∨ o.toNat = 6 ∨ o.toNat = 7 ∨ o.toNat = 8 ∨ o.toNat = 9 ∨ o.toNat = 10 by omega) with h | h | h | h | h | h | h | h | h | h | h <;> rw [h] <;> decide
def isOrd (o : Int) : Bool := decide (0 ≤ o) && decide (o ≤ 10)
theorem isOrd_iff {o : Int} : isOrd o = true ↔ 0 ≤ o ∧ o ≤ 10 := by simp [isOrd]
/-- does a block of an order fit at a page? -/
def insB (pages page o : Int) : Bool := isOrd o && (decide (0 ≤ page) && (decide (page % pw o = 0) && decide (page ≤ pages - pw o)))
theorem insB_iff {pages page o : Int} : insB pages page o = true ↔ (0 ≤ o ∧ o ≤ 10) ∧ 0 ≤ page ∧ page % pw o = 0 ∧ page ≤ pages - pw o := by simp [insB, isOrd_iff]
def spaceB (pages : Int) : Bool := (List.range 11).any fun o => decide (pages = pw (o : Int))
/-- have two blocks a page in common? -/
def overB (a b : B3) : Bool := decide (a.1 < b.1 + pw b.2.1) && decide (b.1 < a.1 + pw a.2.1)
theorem overB_iff {a b : B3} : overB a b = true ↔ a.1 < b.1 + pw b.2.1 ∧ b.1 < a.1 + pw a.2.1 := by simp [overB]
theorem overB_comm (a b : B3) : overB a b = overB b a := by unfold overB; rw [Bool.and_comm]
abbrev b0 : B3 := (0, 0, false)
/-- is there a block that has a page in common with one ahead of it? -/
def clash (bs : List B3) : Bool := (List.range bs.length).any fun i => (List.range i).any fun k => overB (bs.getD i b0) (bs.getD k b0)
/-- the error of blocks -/
def chkB (pages : Int) (bs : List B3) : Int :=
  if spaceB pages = false then 2 else if 64 < bs.length then 3 else if bs.any (fun b => !insB pages b.1 b.2.1) = true then 7 else if clash bs = true then 8 else 0
theorem spaceB_iff {pages : Int} : spaceB pages = true ↔ ∃ o : Nat, o ≤ 10 ∧ pages = pw (o : Int) := by
  unfold spaceB
  rw [List.any_eq_true]
  simp only [List.mem_range, decide_eq_true_eq]
  exact ⟨fun ⟨o, h1, h2⟩ => ⟨o, by omega, h2⟩, fun ⟨o, h1, h2⟩ => ⟨o, by omega, h2⟩⟩
theorem spaceB_bound {pages : Int} (h : spaceB pages = true) : 1 ≤ pages ∧ pages ≤ 1024 := by
  obtain ⟨o, h1, rfl⟩ := spaceB_iff.1 h
  exact ⟨pw_pos _, pw_le (by omega)⟩
/-- what blocks without an error are -/
structure okB (pages : Int) (bs : List B3) : Prop where
  space : spaceB pages = true
  len : bs.length ≤ 64
  ins : ∀ b ∈ bs, insB pages b.1 b.2.1 = true
  apart : ∀ i k, i < bs.length → k < i → overB (bs.getD i b0) (bs.getD k b0) = false
theorem clash_iff {bs : List B3} : clash bs = true ↔ ∃ i k, i < bs.length ∧ k < i ∧ overB (bs.getD i b0) (bs.getD k b0) = true := by
  unfold clash
  simp only [List.any_eq_true, List.mem_range]
  exact ⟨fun ⟨i, h1, k, h2, h3⟩ => ⟨i, k, h1, h2, h3⟩, fun ⟨i, k, h1, h2, h3⟩ => ⟨i, h1, k, h2, h3⟩⟩
theorem chkB_ok {pages : Int} {bs : List B3} (h : chkB pages bs = 0) : okB pages bs := by
  unfold chkB at h
  by_cases h1 : spaceB pages = false
  · rw [if_pos h1] at h; omega
  · rw [if_neg h1] at h
    by_cases h2 : 64 < bs.length
    · rw [if_pos h2] at h; omega
    · rw [if_neg h2] at h
      by_cases h3 : bs.any (fun b => !insB pages b.1 b.2.1) = true
      · rw [if_pos h3] at h; omega
      · rw [if_neg h3] at h
        by_cases h4 : clash bs = true
        · rw [if_pos h4] at h; omega
        · refine ⟨by simpa using h1, by omega, fun b hb => ?_, fun i k hi hk => ?_⟩
          · cases hc : insB pages b.1 b.2.1 with
            | true => rfl
            | false => exact absurd (List.any_eq_true.2 ⟨b, hb, by rw [hc]; rfl⟩) h3
          · cases hc : overB (bs.getD i b0) (bs.getD k b0) with
            | false => rfl
            | true => exact absurd (clash_iff.2 ⟨i, k, hi, hk, hc⟩) h4
/-- the error of a move -/
def possB (pages : Int) (bs : List B3) (m : Int × Int) : Int :=
  if m.1 < 0 ∨ (bs.length : Int) ≤ m.1 then 4
  else if (bs.getD m.1.toNat b0).2.2 = true then 9
  else if insB pages m.2 (bs.getD m.1.toNat b0).2.1 = false then 2
  else if bs.any (fun c => overB c (m.2, (bs.getD m.1.toNat b0).2.1, false)) = true then 8 else 0
/-- a block moved -/
def movB (bs : List B3) (m : Int × Int) : List B3 := bs.set m.1.toNat (m.2, (bs.getD m.1.toNat b0).2)
/-- the blocks after moves, or the first error -/
def afterL (pages : Int) : List B3 → List (Int × Int) → List B3 × Int
  | bs, [] => (bs, 0)
  | bs, m :: r => if possB pages bs m = 0 then afterL pages (movB bs m) r else ([], possB pages bs m)
def afterB (pages : Int) (bs : List B3) (ms : List (Int × Int)) : List B3 × Int :=
  if chkB pages bs = 0 then if 256 < ms.length then ([], 3) else afterL pages bs ms else ([], chkB pages bs)
/-- the pages that are moved, added to n, or the first error -/
def costL (bs : List B3) : Int → List (Int × Int) → Int × Int
  | n, [] => (n, 0)
  | n, m :: r => if m.1 < 0 ∨ (bs.length : Int) ≤ m.1 then (0, 4) else if isOrd (bs.getD m.1.toNat b0).2.1 = false then (0, 7) else costL bs (n + pw (bs.getD m.1.toNat b0).2.1) r
def costB (bs : List B3) (ms : List (Int × Int)) : Int × Int := if 256 < ms.length then (0, 3) else costL bs 0 ms
end Go.Pol
namespace Go.Pol
/-- is a place of an order free, where m marks the pages that are not? -/
def frB (pg : Nat) (m : Nat → Bool) (o i : Nat) : Bool := decide ((i + 1) * 2 ^ o ≤ pg) && (List.range (2 ^ o)).all fun k => !m (i * 2 ^ o + k)
/-- how many of the first n -/
def cntB (f : Nat → Bool) : Nat → Nat
  | 0 => 0
  | n + 1 => cntB f n + if f n = true then 1 else 0
theorem cntB_le (f : Nat → Bool) : ∀ n, cntB f n ≤ n
  | 0 => Nat.le_refl _
  | n + 1 => by have := cntB_le f n; unfold cntB; split <;> omega
theorem cntB_ext {f g : Nat → Bool} : ∀ n, (∀ i, i < n → f i = g i) → cntB f n = cntB g n
  | 0, _ => rfl
  | n + 1, h => by
    rw [cntB, cntB, cntB_ext n (fun i hi => h i (by omega)), h n (by omega)]
theorem cntB_lt (k : Nat) : ∀ n, cntB (fun i => decide (i < k)) n = min n k
  | 0 => by simp [cntB]
  | n + 1 => by
    rw [cntB, cntB_lt k n]
    by_cases h : n < k
    · simp [h]; omega
    · simp [h]; omega
/-- one place less -/
theorem cntB_clear {f : Nat → Bool} {k : Nat} (hf : f k = true) : ∀ n, k < n → cntB (fun i => f i && !(i == k)) n + 1 = cntB f n
  | 0, h => absurd h (by omega)
  | n + 1, h => by
    rw [cntB, cntB]
    by_cases hk : k = n
    · subst hk
      rw [cntB_ext k (g := f) (fun i hi => by simp; omega)]
      simp [hf]
    · have ih := cntB_clear hf n (by omega)
      have : (n == k) = false := by simp; omega
      rw [this]
      simp only [Bool.not_false, Bool.and_true]
      omega
/-- pages marked: also those of a block -/
def markB (m : Nat → Bool) (page order : Nat) : Nat → Bool := fun k => m k || (decide (page ≤ k) && decide (k < page + 2 ^ order))
theorem frB_none (pg o i : Nat) : frB pg (fun _ => false) o i = decide (i < pg / 2 ^ o) := by
  unfold frB
  have h : ((List.range (2 ^ o)).all fun _ => !false) = true := by simp
  rw [h, Bool.and_true]
  have hp := Nat.two_pow_pos o
  rw [Bool.eq_iff_iff, decide_eq_true_eq, decide_eq_true_eq, Nat.lt_iff_add_one_le, Nat.le_div_iff_mul_le hp]
theorem frB_mark (pg : Nat) (m : Nat → Bool) (page order o i : Nat) : frB pg (markB m page order) o i = (frB pg m o i && !(decide (page / 2 ^ o ≤ i) && decide (i ≤ (page + 2 ^ order - 1) / 2 ^ o))) := by
  unfold frB
  have hp := Nat.two_pow_pos o
  have hq := Nat.two_pow_pos order
  have key : ((List.range (2 ^ o)).all fun k => !markB m page order (i * 2 ^ o + k)) = (((List.range (2 ^ o)).all fun k => !m (i * 2 ^ o + k)) && !(decide (page / 2 ^ o ≤ i) && decide (i ≤ (page + 2 ^ order - 1) / 2 ^ o))) := by
    rw [Bool.eq_iff_iff]
    simp only [List.all_eq_true, List.mem_range, Bool.and_eq_true, Bool.not_eq_true', markB, Bool.or_eq_false_iff, Bool.and_eq_false_iff, decide_eq_false_iff_not]
    constructor
    · intro h
      refine ⟨fun k hk => (h k hk).1, ?_⟩
      by_cases h1 : page / 2 ^ o ≤ i
      · refine .inr (fun h2 => ?_)
        -- the place and the block have a page in common
        have e1 : i * 2 ^ o ≤ page + 2 ^ order - 1 := (Nat.le_div_iff_mul_le hp).1 h2
        have e2 : page < (i + 1) * 2 ^ o := (Nat.div_lt_iff_lt_mul hp).1 (by omega)
        have e3 : (i + 1) * 2 ^ o = i * 2 ^ o + 2 ^ o := by rw [Nat.add_mul]; omega
        by_cases hc : i * 2 ^ o ≤ page
        · have := (h (page - i * 2 ^ o) (by omega)).2
          omega
        · have := (h 0 hp).2
          omega
      · exact .inl h1
    · rintro ⟨h1, h2⟩ k hk
      refine ⟨h1 k hk, ?_⟩
      by_cases hc : page ≤ i * 2 ^ o + k
      · refine .inr (fun hlt => ?_)
        rcases h2 with h2 | h2
        · refine h2 (Nat.lt_succ_iff.1 ((Nat.div_lt_iff_lt_mul hp).2 ?_))
          have e3 : (i + 1) * 2 ^ o = i * 2 ^ o + 2 ^ o := by rw [Nat.add_mul]; omega
          show page < (i + 1) * 2 ^ o
          omega
        · exact h2 ((Nat.le_div_iff_mul_le hp).2 (by omega))
      · exact .inl hc
  rw [key, Bool.and_assoc]
/-- how many places of an order blocks take -/
def needB (orders : List Nat) (t : Nat) : Nat := (orders.map fun o => if t ≤ o then 2 ^ (o - t) else 0).sum
/-- can blocks of these orders be placed? -/
def holdsB (f : Nat → Nat → Bool) (orders : List Nat) : Bool := (List.range 11).all fun t => decide (needB orders t ≤ cntB (f t) 1024)
end Go.Pol
namespace Go.Pol
/-- the first one from a on that a test holds of -/
def firstB (p : Nat → Bool) : Nat → Nat → Option Nat
  | 0, _ => none
  | n + 1, a => if p a = true then some a else firstB p n (a + 1)
/-- the order of a block -/
def ordB (bs : List B3) (i : Nat) : Nat := (bs.getD i b0).2.1.toNat
/-- the first place with which the rest can still be placed -/
def pickB (pg : Nat) (bs : List B3) (m : Nat → Bool) (i : Nat) (r : List Nat) : Option Nat :=
  firstB (fun a => frB pg m (ordB bs i) a && holdsB (frB pg (markB m (a * 2 ^ ordB bs i) (ordB bs i))) (r.map (ordB bs))) (pg / 2 ^ ordB bs i) 0
/-- the moves, one after the other -/
def greedy (pg : Nat) (bs : List B3) : (Nat → Bool) → List Nat → List (Int × Int)
  | _, [] => []
  | m, i :: r => match pickB pg bs m i r with
    | some a => ((i : Int), ((a * 2 ^ ordB bs i : Nat) : Int)) :: greedy pg bs (markB m (a * 2 ^ ordB bs i) (ordB bs i)) r
    | none => greedy pg bs m r
/-- the pages of blocks marked -/
def markL (m : Nat → Bool) (bs : List B3) : Nat → Bool := bs.foldl (fun m b => markB m b.1.toNat b.2.1.toNat) m
/-- the moves that empty a candidate -/
def emptyB (pg : Nat) (bs : List B3) (c : B3) (moved : List Nat) : List (Int × Int) × Bool :=
  if holdsB (frB pg (markL (markB (fun _ => false) c.1.toNat c.2.1.toNat) bs)) (moved.map (ordB bs)) = true then (greedy pg bs (markL (markB (fun _ => false) c.1.toNat c.2.1.toNat) bs) moved, true) else ([], false)
end Go.Pol
namespace Go.Pol
def cmpN (x y : Int) : Int := if x < y then -1 else if y < x then 1 else 0
theorem cmpN_bound (x y : Int) : -1 ≤ cmpN x y ∧ cmpN x y ≤ 1 := by
  unfold cmpN
  split
  · omega
  · split <;> omega
/-- the first one that is not 0 -/
def orN : List Int → Int
  | [] => 0
  | x :: r => if x = 0 then orN r else x
theorem orN_bound : ∀ (l : List Int), (∀ x ∈ l, -1 ≤ x ∧ x ≤ 1) → -1 ≤ orN l ∧ orN l ≤ 1
  | [], _ => by simp [orN]
  | x :: r, h => by
    rw [orN]
    split
    · exact orN_bound r (fun y hy => h y (by simp [hy]))
    · exact h x (by simp)
def moveN (a b : Int × Int) : Int := orN [cmpN a.1 b.1, cmpN a.2 b.2]
theorem moveN_bound (a b : Int × Int) : -1 ≤ moveN a b ∧ moveN a b ≤ 1 := by
  refine orN_bound _ (fun x hx => ?_)
  simp only [List.mem_cons, List.not_mem_nil, or_false] at hx
  rcases hx with rfl | rfl <;> exact cmpN_bound _ _
def listN : List (Int × Int) → List (Int × Int) → Int
  | [], [] => 0
  | [], _ :: _ => -1
  | _ :: _, [] => 1
  | x :: r, y :: s => if moveN x y = 0 then listN r s else moveN x y
theorem listN_bound : ∀ (xs ys : List (Int × Int)), -1 ≤ listN xs ys ∧ listN xs ys ≤ 1
  | [], [] => by simp [listN]
  | [], _ :: _ => by simp [listN]
  | _ :: _, [] => by simp [listN]
  | x :: r, y :: s => by
    rw [listN]
    split
    · exact listN_bound r s
    · exact moveN_bound x y
/-- which blocks have a page in common with a place? -/
def movedB (bs : List B3) (c : B3) : List Nat := (List.range bs.length).filter fun i => overB (bs.getD i b0) c
def costM (bs : List B3) (moved : List Nat) : Int := (moved.map fun i => pw (bs.getD i b0).2.1).sum
def staysM (bs : List B3) (o : Int) (moved : List Nat) : Bool := moved.any fun i => (bs.getD i b0).2.2 || decide (o < (bs.getD i b0).2.1)
abbrev PlanSt := List (Int × Int) × Int × Bool
def lessP (cost : Int) (ms : List (Int × Int)) (st : PlanSt) : Bool := decide (orN [cmpN cost st.2.1, cmpN ms.length st.1.length, listN ms st.1] < 0)
def skipP (bs : List B3) (o : Nat) (mv : List Nat) (st : PlanSt) : Bool := staysM bs (o : Int) mv || (st.2.2 && (decide (st.2.1 < costM bs mv) || (decide (costM bs mv = st.2.1) && decide (st.1.length < mv.length))))
abbrev placeB (o k : Nat) : B3 := (((k * 2 ^ o : Nat) : Int), (o : Int), false)
def stepP (pg : Nat) (bs : List B3) (o : Nat) (st : PlanSt) (k : Nat) : PlanSt :=
  if skipP bs o (movedB bs (placeB o k)) st = true then st
  else if ((emptyB pg bs (placeB o k) (movedB bs (placeB o k))).2 && (!st.2.2 || lessP (costM bs (movedB bs (placeB o k))) (emptyB pg bs (placeB o k) (movedB bs (placeB o k))).1 st)) = true then ((emptyB pg bs (placeB o k) (movedB bs (placeB o k))).1, costM bs (movedB bs (placeB o k)), true) else st
/-- the best plan, its cost; is there one? -/
def planB (pg : Nat) (bs : List B3) (o : Nat) : PlanSt := (List.range (pg / 2 ^ o)).foldl (stepP pg bs o) ([], 0, false)
def PlanF (pages : Int) (bs : List B3) (o : Int) : List (Int × Int) × Int :=
  if chkB pages bs = 0 then
    if isOrd o = true ∧ pw o ≤ pages then if (planB pages.toNat bs o.toNat).2.2 = true then ((planB pages.toNat bs o.toNat).1, 0) else ([], 4)
    else ([], 2)
  else ([], chkB pages bs)
def largeL (pg : Nat) (bs : List B3) : Nat → Int × Int × Int
  | 0 => (0, 0, 4)
  | o + 1 => if (planB pg bs o).2.2 = true then ((o : Int), (planB pg bs o).2.1, 0) else largeL pg bs o
def LargeF (pages : Int) (bs : List B3) : Int × Int × Int := if chkB pages bs = 0 then largeL pages.toNat bs (pages.toNat.log2 + 1) else (0, 0, chkB pages bs)
end Go.Pol
namespace Go.Pol
abbrev exB : List B3 := [(0, 1, false), (4, 0, false), (8, 2, false), (13, 0, false)]
abbrev exP : List B3 := [(0, 1, true), (4, 0, false), (8, 2, false), (13, 0, false)]
theorem ex_two : PlanF 16 exB 2 = ([(1, 2)], 0) := by decide +kernel
theorem ex_three : PlanF 16 exB 3 = ([(0, 14), (1, 12)], 0) := by decide +kernel
theorem ex_after : afterB 16 exB [(0, 14), (1, 12)] = ([(14, 1, false), (12, 0, false), (8, 2, false), (13, 0, false)], 0) := by decide +kernel
theorem ex_cost : costB exB [(0, 14), (1, 12)] = (3, 0) := by decide +kernel
theorem ex_pinned : PlanF 16 exP 3 = ([], 4) := by decide +kernel
theorem ex_largest : LargeF 16 exP = (2, 1, 0) := by decide +kernel
end Go.Pol
namespace Go.Pol
open Go Go.RowKit

/-- The cells from 'A' on hold the list 'xs' (one cell each), in a block below 'B'. -/
def Rd (w : World) (B : Nat) (A : Option Addr) (xs : List Value) : Prop :=
  ∀ k (h : k < xs.length), ∃ b o, A = some ⟨b, o, none⟩ ∧ b < B ∧ w.cell? ⟨b, o + k, none⟩ = some xs[k]

section
variable {w w' : World} {B B' : Nat} {A : Option Addr} {xs : List Value}
theorem Rd.keep (h : Rd w B A xs) (hk : ∀ p : Addr, p.block < B → w'.cell? p = w.cell? p) : Rd w' B A xs := fun k hl => by
  obtain ⟨b, o, e, hb, hc⟩ := h k hl
  exact ⟨b, o, e, hb, (hk _ hb).trans hc⟩
theorem Rd.more (h : Rd w B A xs) (hB : B ≤ B') : Rd w B' A xs := fun k hl => by
  obtain ⟨b, o, e, hb, hc⟩ := h k hl
  exact ⟨b, o, e, by omega, hc⟩
theorem Rd.below (h : Rd w B A xs) (hb : Below B w w') : Rd w' B A xs := h.keep fun _ hp => hb.cell hp
theorem Rd.nil : Rd w B A [] := fun k h => absurd h (by simp)
end

/-- A slice of integers. -/
def RI (w : World) (B : Nat) (A : Option Addr) (xs : List Int) : Prop := Rd w B A (xs.map (Value.int .i64))
section
variable {w w' : World} {B B' : Nat} {A : Option Addr} {xs : List Int}
theorem RI.at_ (h : RI w B A xs) {k : Nat} (hk : k < xs.length) :
    ∃ b o, A = some ⟨b, o, none⟩ ∧ b < B ∧ w.cell? ⟨b, o + k, none⟩ = some (.int .i64 (xs.getD k 0)) := by
  obtain ⟨b, o, e, hb, hc⟩ := h k (by simpa using hk)
  refine ⟨b, o, e, hb, hc.trans ?_⟩
  simp [List.getD_eq_getElem?_getD, hk]
theorem RI.below (h : RI w B A xs) (hb : Below B w w') : RI w' B A xs := Rd.below h hb
theorem RI.more (h : RI w B A xs) (hB : B ≤ B') : RI w B' A xs := Rd.more h hB
theorem RI.nil : RI w B A [] := Rd.nil
end
/-- A slice of pairs of integers (a struct with two fields, a cell each). -/
def RU (w : World) (B : Nat) (A : Option Addr) (us : List (Int × Int)) : Prop :=
  ∀ k, k < us.length → ∃ b o, A = some ⟨b, o, none⟩ ∧ b < B ∧ w.cell? ⟨b, o + k * 2, none⟩ = some (.int .i64 (us.getD k (0,0)).1) ∧ w.cell? ⟨b, o + k * 2 + 1, none⟩ = some (.int .i64 (us.getD k (0,0)).2)
section
variable {w w' : World} {B B' : Nat} {A : Option Addr} {us : List (Int × Int)}
theorem RU.keep (h : RU w B A us) (hk : ∀ p : Addr, p.block < B → w'.cell? p = w.cell? p) : RU w' B A us := fun k hl => by
  obtain ⟨b, o, e, hb, hc, hd⟩ := h k hl
  exact ⟨b, o, e, hb, (hk _ hb).trans hc, (hk _ hb).trans hd⟩
theorem RU.below (h : RU w B A us) (hb : Below B w w') : RU w' B A us := h.keep fun _ hp => hb.cell hp
theorem RU.more (h : RU w B A us) (hB : B ≤ B') : RU w B' A us := fun k hl => by
  obtain ⟨b, o, e, hb, hc⟩ := h k hl
  exact ⟨b, o, e, by omega, hc⟩
theorem RU.at_' (h : RU w B A us) {k : Nat} (hk : k < us.length) : ∃ b o, A = some ⟨b, o, none⟩ ∧ b < B ∧ w.cell? ⟨b, o + k * 2, none⟩ = some (.int .i64 (us.getD k (0,0)).1) ∧ w.cell? ⟨b, o + k * 2 + 1, none⟩ = some (.int .i64 (us.getD k (0,0)).2) := h k hk
theorem RU.nil : RU w B A [] := fun k h => absurd h (by simp)
end

/-- Block 'g' is just the cells 'cs', of element type 't', none of them frozen. -/
def Blk (w : World) (g : Nat) (t : TypeId) (cs : Array Value) : Prop := w.heap[g]? = some (.cells cs t (0, 0))
section
variable {w w' : World} {g : Nat} {t : TypeId} {cs : Array Value}
theorem Blk.lt (h : Blk w g t cs) : g < w.heap.size := by
  by_cases hlt : g < w.heap.size
  · exact hlt
  · unfold Blk at h; rw [Array.getElem?_eq_none (by omega)] at h; cases h
theorem Blk.cell (h : Blk w g t cs) (i : Nat) : w.cell? ⟨g, i, none⟩ = cs[i]? := cell_of_row w g i cs t (0, 0) h
theorem Blk.frozen (h : Blk w g t cs) (i : Nat) : w.frozen? ⟨g, i, none⟩ = false := by
  unfold Blk at h
  simp [World.frozen?, h]
theorem Blk.new (w : World) (t : TypeId) (cs : Array Value) : Blk (w.alloc (.cells cs t)) w.heap.size t cs := heap_alloc_new w _
theorem Blk.drew (h : Blk w g t cs) : Blk w.drew g t cs := h
theorem Blk.alloc (h : Blk w g t cs) (o : Obj) : Blk (w.alloc o) g t cs := (Below.heap_alloc w o g h.lt).trans h
theorem Blk.set_ (h : Blk w g t cs) (i : Nat) (u : Value) : Blk (w.setCell ⟨g, i, none⟩ u) g t (cs.setIfInBounds i u) := by
  unfold Blk at h ⊢
  simp [World.setCell, Array.getElem?_modify, h]
theorem Blk.far (h : Blk w g t cs) {p : Addr} (hp : g ≠ p.block) (u : Value) : Blk (w.setCell p u) g t cs := (Below.heap_setCell w p u g hp).trans h
theorem Blk.below {B : Nat} (h : Blk w g t cs) (hb : Below B w w') (hg : g < B) : Blk w' g t cs := (hb.block g hg).trans h
theorem Blk.call (h : Blk w g t cs) (hb : Below w.heap.size w w') : Blk w' g t cs := (hb.block g h.lt).trans h
theorem Blk.ne_ {g' : Nat} {t' : TypeId} {cs' : Array Value} (h : Blk w g t cs) (h' : Blk w g' t' cs') (hne : t ≠ t') : g ≠ g' := by
  rintro rfl
  unfold Blk at h h'
  rw [h] at h'
  injection h' with h'
  injection h' with _ ht
  exact hne ht
theorem Blk.grown {row : Option Nat} (h : Blk w g t cs) (hb : w.grownBy w' row) (hg : some g ≠ row) : Blk w' g t cs := (hb.block g h.lt hg).trans h
end

theorem addr_add0 (b o j : Nat) : (⟨b, o, none⟩ : Addr).add j = ⟨b, o + j, none⟩ := by
  unfold Addr.add
  by_cases h : j = 0 <;> simp [h]

/-- A later world: what lay below the heap's size lies as it lay. -/
structure Ext (W : World) where
  w : World
  le : Below W.heap.size W w
theorem Ext.cell {W : World} (x : Ext W) {p : Addr} {v : Value} (h : W.cell? p = some v) : x.w.cell? p = some v := by
  have hb : p.block < W.heap.size := by
    by_cases hp : p.block < W.heap.size
    · exact hp
    · have : W.heap[p.block]? = none := Array.getElem?_eq_none (by omega)
      simp [World.cell?, this] at h
  exact (x.le.cell hb).trans h
theorem Ext.blk {W : World} (x : Ext W) {g : Nat} {t : TypeId} {cs : Array Value} (h : Blk W g t cs) : Blk x.w g t cs := h.call x.le
instance extNonempty (W : World) : Nonempty (Ext W) := ⟨⟨W, Below.refl _ _⟩⟩
def Later (W w' : World) : Prop := ∃ x : Ext W, w' = x.w
theorem Later.all {W : World} {p : World → Prop} (h : ∀ x : Ext W, p x.w) : ∀ w', Later W w' → p w' := fun _ ⟨x, e⟩ => e ▸ h x
theorem Ext.call {P : Program} {f : FuncId} {args : Array Value} {W : World} {x : Ext W} {v : Value}
    (h : Calls P f args x.w fun e w' => e = .returned v ∧ Below x.w.heap.size x.w w') : Calls P f args x.w fun e w'' => e = .returned v ∧ ∃ y : Ext W, w'' = y.w :=
  h.mono fun _ w'' ⟨he, hb⟩ => ⟨he, ⟨w'', x.le.trans (hb.mono x.le.size)⟩, rfl⟩
theorem Ext.same {P : Program} {f : FuncId} {args : Array Value} {W : World} {x : Ext W} {v : Value}
    (h : Calls P f args x.w fun e w' => e = .returned v ∧ x.w = w') : Calls P f args x.w fun e w'' => e = .returned v ∧ ∃ y : Ext W, w'' = y.w :=
  h.mono fun _ _ ⟨he, hb⟩ => ⟨he, x, hb.symm⟩
/-- A region that draws its order, whose operations read and call functions that turn nothing that lay there: one walk in the order of the text. -/
theorem region_ext {P : Program} {id : Nat} {Q : Exit → Act → World → Prop} {a : Act} {w : World} {l : List Oper} (hm : P.follows .mixedOrders = true) (hB : Region.lexB .any l.toArray = true)
    (h : wpQuiet P l.toArray (fun w' => ∃ x : Ext w, w' = x.w) (fun a' => ∀ w', (∃ x : Ext w, w' = x.w) → Q .normal a' w') l a) : (Code.region id l.toArray true).wp P Q a w :=
  wp_region_quiet (C := fun w' => ∃ x : Ext w, w' = x.w) hm hB ⟨⟨_, (Below.refl _ w).drew⟩, rfl⟩ (by simpa using h)

theorem run_makeI {P : Program} (t e : TypeId) (i : TypeInfo) (z : Value) (ht : P.underlying t = some (.slice e)) (hi : P.info? e = some i) (hz : i.zero = some z) (hz1 : z.cells = #[z]) (hs : i.size = 1)
    (kl kc : IntKind) (n : Nat) (hbytes : i.bytes * n ≤ 281474976710656) (h63 : n ≤ 9223372036854775807) (w : World) :
    (Instr.makeSlice t (.int kl (n : Int)) (.int kc (n : Int))).run P w = .ok (.slice (some ⟨w.heap.size, 0, none⟩) n n) (w.alloc (.cells (Array.replicate n z) e)) := by
  have hb : (i.bytes : Int) * (n : Int) ≤ 281474976710656 := by
    have h : ((i.bytes * n : Nat) : Int) ≤ 281474976710656 := by omega
    rwa [Int.natCast_mul] at h
  have hr := run_make (P := P) w t e i z ht hi hz kl kc n n (by omega) (by omega) hb (by omega)
  simp only [Int.toNat_natCast] at hr
  rw [hr, hz1, hs, Nat.mul_one]
  congr 3
  apply Array.toList_inj.1
  rw [toList_madeCells_one, Array.toList_replicate]
theorem ret_int {k : IntKind} {a b : Int} (h : a = b) : Ending.returned (.int k a) = .returned (.int k b) := by rw [h]

/-! A region whose last operations come one behind the other, behind all others: the others read (or call what turns nothing), in whatever order; the last ones are walked one by one, in any later world. -/
section
variable {P : Program} {ops : Array Oper} {md : Region.Mode} {C : World → Prop}
def headQ (P : Program) (md : Region.Mode) (ops : Array Oper) (C : World → Prop) (n : Nat) (L : Array Bool → Act → Prop) : Nat → Array Bool → Act → Prop
  | 0, listed, a => L listed a
  | f + 1, listed, a => Region.ready md ops listed ≠ [] ∧ ∀ i ∈ Region.ready md ops listed, i < n ∧ qOp P ops C i (headQ P md ops C n L f (listed.setIfInBounds i true)) a

theorem wpAny_of_headQ {n g : Nat} {L : Array Bool → Act → Prop} {Q' : Exit → Act → World → Prop} (hL : ∀ listed a w, C w → L listed a → wpAny P md ops Q' g listed a w) :
    ∀ (f : Nat) (listed : Array Bool) (a : Act) (w : World), C w → headQ P md ops C n L f listed a → wpAny P md ops Q' (f + g) listed a w
  | 0, listed, a, w, hw, h => by rw [Nat.zero_add]; exact hL _ _ _ hw h
  | f + 1, listed, a, w, hw, h => by
    rw [show f + 1 + g = (f + g) + 1 by omega]
    exact ⟨fun h0 => absurd h0 h.1, fun i hi => wpOp_of_qOp hw (fun a' w' hw' h' => wpAny_of_headQ hL f _ a' w' hw' h') (h.2 i hi).2⟩

theorem headQ_first {n i : Nat} {oi : Oper} {v : Value} {L : Array Bool → Act → Prop} (hi : ops[i]? = some oi) (hsel : ∀ (j : Nat) (o : Oper) cs b, ops[j]? = some o → o.op ≠ .select cs b)
    (hs : Region.sinkB md ops n = true) (hc : Region.chainB md ops n = true) (hn : n < ops.size) (hin : i < n) (hdone : ∀ listed a, L listed a → ∀ j ∈ Region.ready md ops listed, n ≤ j) :
    ∀ (f : Nat) (listed : Array Bool) (a : Act), HeadInv md ops n listed →
      (∀ j oj, ops[j]? = some oj → j ≠ i → listed.getD j true = false → (∀ e ∈ oj.after, Region.binds md e = true → e.on ≠ i) → oi.apart ops oj = true) →
      i ∈ Region.ready md ops listed → YieldsIn P ops C oi v a →
      headQ P md ops C n L f (listed.setIfInBounds i true) (a.put oi.dst v) → headQ P md ops C n L (f + 1) listed a := by
  intro f
  induction f with
  | zero =>
    intro listed a inv _ hr hy H
    have hun := (mem_ready.1 hr).1
    refine ⟨fun h => (by rw [h] at hr; cases hr), fun j hj => ?_⟩
    have hjn : j < n := by
      by_cases h : j < n
      · exact h
      · exact absurd hj (tail_waits hs hc hn inv _ i rfl hin hun j (by omega))
    refine ⟨hjn, ?_⟩
    by_cases hji : j = i
    · subst hji; exact hy.qOp hi H
    · have := hdone _ _ H j (ready_mono hj hji)
      omega
  | succ f ih =>
    intro listed a inv hfree hr hy H
    have hun := (mem_ready.1 hr).1
    refine ⟨fun h => (by rw [h] at hr; cases hr), fun j hj => ?_⟩
    have hjn : j < n := by
      by_cases h : j < n
      · exact h
      · exact absurd hj (tail_waits hs hc hn inv _ i rfl hin hun j (by omega))
    refine ⟨hjn, ?_⟩
    by_cases hji : j = i
    · subst hji; exact hy.qOp hi H
    · have h1 := (H.2 j (ready_mono hj hji)).2
      obtain ⟨hjun, oj, hoj, hall⟩ := mem_ready.1 hj
      have hnot : ∀ e ∈ oj.after, Region.binds md e = true → e.on ≠ i := fun e he hb heq => by
        have h1 := hall e he hb
        rw [heq, getD_both hun] at h1
        cases h1
      have h2 := qOp_put hoj (hfree j oj hoj hji hjun hnot) (fun cs b => hsel i oi cs b hi) (fun cs b => hsel j oj cs b hoj) hy h1
      have hfree' : ∀ k ok, ops[k]? = some ok → k ≠ i → (listed.setIfInBounds j true).getD k true = false →
          (∀ e ∈ ok.after, Region.binds md e = true → e.on ≠ i) → oi.apart ops ok = true := fun k ok hk hki hu hno => by
        refine hfree k ok hk hki ?_ hno
        by_cases hjk : j = k
        · subst hjk; exact hjun
        · rw [getD_set_ne true hjk] at hu; exact hu
      refine qOp_mono (fun a' h3 => ih (listed.setIfInBounds j true) a' (inv.set hj hjn) hfree' (ready_mono hr (Ne.symm hji)) h3.1 ?_) h2
      rw [Array.setIfInBounds_comm _ _ hji]
      exact h3.2

theorem headQ_lex {n g : Nat} {Lq : Act → Prop} (hsel : Region.noSelect ops = true) (hs : Region.sinkB md ops n = true) (hc : Region.chainB md ops n = true) (hn : n < ops.size) :
    ∀ (l : List Oper) (k : Nat) (listed : Array Bool) (a : Act), (∀ j, j < l.length → l[j]? = ops[k + j]?) → k + l.length = n → HeadInv md ops n listed →
    Region.lexHead md ops g l.length k listed = true → wpQuiet P ops C Lq l a →
    headQ P md ops C n (fun listed' a' => Region.seqB md ops g n listed' = true ∧ Lq a') l.length listed a
  | [], k, listed, a, _, hk, _, hB, h => by
    obtain rfl : k = n := by simpa using hk
    exact ⟨by simpa [Region.lexHead] using hB, h⟩
  | o :: l, k, listed, a, hl, hk, inv, hB, h => by
    have h0 : ops[k]? = some o := by simpa using (hl 0 (by simp)).symm
    simp only [List.length_cons, Region.lexHead, Bool.and_eq_true] at hB
    obtain ⟨⟨hr, hf⟩, hB'⟩ := hB
    have hkn : k < n := by simp only [List.length_cons] at hk; omega
    have hr' : k ∈ Region.ready md ops listed := by simpa using hr
    have hst : qOp P ops C k (wpQuiet P ops C Lq l) a := by unfold qOp; simp only [h0]; exact h
    obtain ⟨v, hy, hK⟩ := yieldsIn_of_qOp h0 hst
    exact headQ_first h0 (Region.noSelect_spec hsel) hs hc hn hkn (fun listed' a' hL => seqB_ready hL.1) l.length listed a inv (Region.free_spec h0 hf) hr' hy
      (headQ_lex hsel hs hc hn l (k + 1) _ _ (fun j hj => by have := hl (j + 1) (by simp; omega); simpa [Nat.add_assoc, Nat.add_comm 1 j] using this) (by simp only [List.length_cons] at hk; omega) (inv.set hr' hkn) hB' hK)

theorem region_ext_tail {id : Nat} {Q : Exit → Act → World → Prop} {a : Act} {w : World} {l : List Oper} (n : Nat) (hm : P.follows .mixedOrders = true) (hB : Region.lexTailB .any l.toArray n = true)
    (h : wpQuiet P l.toArray (fun w' => ∃ x : Ext w, w' = x.w) (fun a' => ∀ x : Ext w, wpList P l.toArray Q (l.drop n) a' x.w) (l.take n) a) : (Code.region id l.toArray true).wp P Q a w := by
  simp only [Region.lexTailB, Bool.and_eq_true, decide_eq_true_eq] at hB
  obtain ⟨⟨⟨⟨hsel, hn⟩, hs⟩, hc⟩, hlex⟩ := hB
  have hn' : n < l.length := by simpa using hn
  have htl : (l.take n).length = n := by simp; omega
  have hdl : (l.drop n).length = l.toArray.size - n := by simp
  have inv0 : HeadInv .any l.toArray n (Array.replicate l.toArray.size false) :=
    ⟨by simp, fun j oj _ hl => (by rw [getD_replicate_false] at hl; cases hl), fun t _ ht => getD_in (by simpa using ht) (getD_replicate_false _ _)⟩
  have H := headQ_lex (md := .any) (g := l.toArray.size - n) hsel hs hc hn (l.take n) 0 _ a (fun j hj => by
    have hj' : j < n := by rw [htl] at hj; exact hj
    simp [hj']) (by simpa using htl) inv0 (by rw [htl]; exact hlex) h
  refine wp_region_any hm ?_
  have := wpAny_of_headQ (Q' := Q) (g := l.toArray.size - n) (fun listed a' w' hw' hL => by
    obtain ⟨x, rfl⟩ := hw'
    have := wpAny_of_seq (md := .any) (Q' := Q) (l.drop n) n listed a' x.w (fun j => by simp [List.getElem?_drop]) (by rw [hdl]; exact hL.1) (hL.2 x)
    rwa [hdl] at this) _ _ _ _ (⟨⟨_, (Below.refl _ w).drew⟩, rfl⟩ : ∃ x : Ext w, ({ w with drawn := w.drawn + 1 } : World) = x.w) H
  rw [htl, show n + (l.toArray.size - n) = l.toArray.size by omega] at this
  exact this
end
theorem Ext.frozen {W : World} (x : Ext W) {p : Addr} {v : Value} (h : W.cell? p = some v) (hf : W.frozen? p = false) : x.w.frozen? p = false := by
  have hb : p.block < W.heap.size := by
    by_cases hp : p.block < W.heap.size
    · exact hp
    · have : W.heap[p.block]? = none := Array.getElem?_eq_none (by omega)
      simp [World.cell?, this] at h
  exact (x.le.frozen hb).trans hf

theorem ret_bool {a b : Bool} (h : a = b) : Ending.returned (.bool a) = .returned (.bool b) := by rw [h]
theorem drop_cons {α : Type} (d : α) (xs : List α) (k : Nat) (h : k < xs.length) : xs.drop k = xs.getD k d :: xs.drop (k+1) := by
  rw [List.drop_eq_getElem_cons h]; simp [List.getD_eq_getElem?_getD, h]
/-! A region whose operations are taken one by one in whatever order: an invariant that speaks of what has been done. -/
section
variable {P : Program} {Q : Exit → Act → World → Prop}
def StepAll (P : Program) (ops : Array Oper) (Q : Exit → Act → World → Prop) (Inv : (Nat → Bool) → Act → World → Prop) : List Oper → Nat → Prop
  | [], _ => True
  | o :: r, k => (∀ (D : Nat → Bool) (a : Act) (w : World), Inv D a w → D k = false → (∀ e ∈ o.after, Region.binds .any e = true → D e.on = true) →
      (if Region.wanted o (yielded ops a.tmps) then o.wp P a w (fun a' w' => Inv (fun j => j == k || D j) a' w') Q else Inv (fun j => j == k || D j) (a.put o.dst undef) w)) ∧ StepAll P ops Q Inv r (k + 1)

theorem StepAll.at_ {ops : Array Oper} {Inv : (Nat → Bool) → Act → World → Prop} : ∀ (l : List Oper) (k : Nat), StepAll P ops Q Inv l k → ∀ i o, l[i]? = some o →
    ∀ (D : Nat → Bool) (a : Act) (w : World), Inv D a w → D (k + i) = false → (∀ e ∈ o.after, Region.binds .any e = true → D e.on = true) →
      (if Region.wanted o (yielded ops a.tmps) then o.wp P a w (fun a' w' => Inv (fun j => j == (k + i) || D j) a' w') Q else Inv (fun j => j == (k + i) || D j) (a.put o.dst undef) w)
  | [], _, _, i, o, hi => by simp at hi
  | o :: r, k, h, i, o', hi => by
    cases i with
    | zero => simp at hi; subst hi; exact h.1
    | succ i =>
      have := StepAll.at_ r (k + 1) h.2 i o' (by simpa using hi)
      rw [show k + 1 + i = k + (i + 1) by omega] at this
      exact this

end

end Go.Pol
namespace Go.Pol
abbrev Sp := Int × Int

def vld (x : Sp) : Bool := decide (0 ≤ x.1) && decide (x.1 < 1024) && decide (1 ≤ x.2) && decide (x.2 ≤ 1024 - x.1)
theorem vld_iff {x : Sp} : vld x = true ↔ 0 ≤ x.1 ∧ x.1 < 1024 ∧ 1 ≤ x.2 ∧ x.2 ≤ 1024 - x.1 := by simp [vld, and_assoc]
def formOk : Int → List Sp → Bool
  | _, [] => true
  | e, x :: r => decide (e < x.1) && formOk (x.1 + x.2) r
def mem (p : Int) (s : List Sp) : Bool := s.any fun x => decide (x.1 ≤ p) && decide (p < x.1 + x.2)
def Can (s : List Sp) : Prop := (∀ x ∈ s, vld x = true) ∧ formOk (-1) s = true

theorem mem_nil {p : Int} : mem p [] = false := rfl
theorem mem_cons {p : Int} {x : Sp} {s : List Sp} : mem p (x :: s) = ((decide (x.1 ≤ p) && decide (p < x.1 + x.2)) || mem p s) := rfl
theorem mem_append {p : Int} {s t : List Sp} : mem p (s ++ t) = (mem p s || mem p t) := by simp [mem]
theorem mem_cons' {p : Int} {x : Sp} {s : List Sp} : mem p (x :: s) = true ↔ (x.1 ≤ p ∧ p < x.1 + x.2) ∨ mem p s = true := by simp [mem_cons]
theorem formOk_cons {e : Int} {x : Sp} {s : List Sp} : formOk e (x :: s) = true ↔ e < x.1 ∧ formOk (x.1 + x.2) s = true := by simp [formOk]
theorem mem_lt {p : Int} : ∀ {s : List Sp} {e : Int}, formOk e s = true → (∀ x ∈ s, 0 ≤ x.2) → mem p s = true → e < p
  | [], _, _, _, h => by simp [mem_nil] at h
  | x :: s, e, hf, hw, h => by
    rw [formOk_cons] at hf
    have := hw x (by simp)
    rcases mem_cons'.1 h with h | h
    · omega
    · have := mem_lt hf.2 (fun y hy => hw y (by simp [hy])) h
      omega
theorem form_len : ∀ (s : List Sp) (e : Int), e < 1024 → (∀ x ∈ s, vld x = true) → formOk e s = true → 2 * (s.length : Int) ≤ 1024 - e
  | [], e, he, _, _ => by simp; omega
  | x :: s, e, _, hv, hf => by
    rw [formOk_cons] at hf
    have hx := vld_iff.1 (hv x (by simp))
    cases s with
    | nil => simp; omega
    | cons y r =>
      have hf2 := formOk_cons.1 hf.2
      have hy := vld_iff.1 (hv y (by simp))
      have := (form_len (y :: r) (x.1 + x.2) (by omega) (fun z hz => hv z (List.mem_cons_of_mem _ hz)) hf.2)
      simp only [List.length_cons] at this ⊢
      omega
theorem Can.len {s : List Sp} (h : Can s) : s.length ≤ 512 := by
  have := form_len s (-1) (by omega) h.1 h.2
  omega
/-! the common pages -/
def commonN : Nat → List Sp → List Sp → List Sp
  | 0, _, _ => []
  | _ + 1, [], _ => []
  | _ + 1, _ :: _, [] => []
  | k + 1, x :: a, y :: b =>
    (if max x.1 y.1 < min (x.1 + x.2) (y.1 + y.2) then [(max x.1 y.1, min (x.1 + x.2) (y.1 + y.2) - max x.1 y.1)] else []) ++
      (if x.1 + x.2 < y.1 + y.2 then commonN k a (y :: b) else commonN k (x :: a) b)
def commonF (a b : List Sp) : List Sp := commonN (a.length + b.length) a b
theorem common_form : ∀ (k : Nat) (a b : List Sp) (ea eb e : Int), (∀ x ∈ a, 0 ≤ x.2) → (∀ x ∈ b, 0 ≤ x.2) → formOk ea a = true → formOk eb b = true → (e ≤ ea ∨ e ≤ eb) → formOk e (commonN k a b) = true
  | 0, _, _, _, _, _, _, _, _, _, _ => rfl
  | _ + 1, [], _, _, _, _, _, _, _, _, _ => rfl
  | _ + 1, _ :: _, [], _, _, _, _, _, _, _, _ => rfl
  | k + 1, x :: a, y :: b, ea, eb, e, ha, hb, fa, fb, he => by
    have fa' := formOk_cons.1 fa
    have fb' := formOk_cons.1 fb
    have hx := ha x (by simp)
    have hy := hb y (by simp)
    have ha' : ∀ z ∈ a, 0 ≤ z.2 := fun z hz => ha z (by simp [hz])
    have hb' : ∀ z ∈ b, 0 ≤ z.2 := fun z hz => hb z (by simp [hz])
    rw [commonN]
    by_cases hlt : max x.1 y.1 < min (x.1 + x.2) (y.1 + y.2)
    · rw [if_pos hlt, List.singleton_append, formOk_cons]
      refine ⟨by simp only; omega, ?_⟩
      simp only
      split
      · exact common_form k a (y :: b) (x.1 + x.2) eb _ ha' hb fa'.2 fb (by omega)
      · exact common_form k (x :: a) b ea (y.1 + y.2) _ ha hb' fa fb'.2 (by omega)
    · rw [if_neg hlt, List.nil_append]
      split
      · exact common_form k a (y :: b) (x.1 + x.2) eb _ ha' hb fa'.2 fb (by omega)
      · exact common_form k (x :: a) b ea (y.1 + y.2) _ ha hb' fa fb'.2 (by omega)
theorem common_vld : ∀ (k : Nat) (a b : List Sp), (∀ x ∈ a, vld x = true) → (∀ x ∈ b, vld x = true) → ∀ x ∈ commonN k a b, vld x = true
  | 0, _, _, _, _ => by simp [commonN]
  | _ + 1, [], _, _, _ => by simp [commonN]
  | _ + 1, _ :: _, [], _, _ => by simp [commonN]
  | k + 1, x :: a, y :: b, ha, hb => by
    have hx := vld_iff.1 (ha x (by simp))
    have hy := vld_iff.1 (hb y (by simp))
    have ha' : ∀ z ∈ a, vld z = true := fun z hz => ha z (by simp [hz])
    have hb' : ∀ z ∈ b, vld z = true := fun z hz => hb z (by simp [hz])
    intro z hz
    rw [commonN, List.mem_append] at hz
    rcases hz with hz | hz
    · split at hz
      · simp only [List.mem_singleton] at hz
        subst hz
        rw [vld_iff]
        simp only
        omega
      · simp at hz
    · split at hz
      · exact common_vld k a (y :: b) ha' hb z hz
      · exact common_vld k (x :: a) b ha hb' z hz
theorem Can.common {a b : List Sp} (ha : Can a) (hb : Can b) : Can (commonF a b) :=
  ⟨common_vld _ a b ha.1 hb.1, common_form _ a b (-1) (-1) (-1) (fun x hx => by have := (vld_iff.1 (ha.1 x hx)).2.2.1; omega) (fun x hx => by have := (vld_iff.1 (hb.1 x hx)).2.2.1; omega) ha.2 hb.2 (.inl (by omega))⟩
theorem Can.one {x : Sp} (h : vld x = true) : Can [x] := ⟨by simpa using h, by rw [formOk_cons]; have := (vld_iff.1 h).1; exact ⟨by omega, rfl⟩⟩
/-! the gaps -/
/-! the set of the pages that are marked -/
def bump (l : List Sp) : List Sp := match l.reverse with | [] => [] | x :: r => r.reverse ++ [(x.1, x.2 + 1)]
def setF (f : Nat → Bool) : Nat → List Sp
  | 0 => []
  | p + 1 => if f p then (if decide (0 < p) && f (p - 1) then bump (setF f p) else setF f p ++ [((p : Int), 1)]) else setF f p
def lastE : Int → List Sp → Int
  | e, [] => e
  | _, x :: r => lastE (x.1 + x.2) r
theorem lastE_snoc (e : Int) : ∀ (l : List Sp) (x : Sp), lastE e (l ++ [x]) = x.1 + x.2
  | [], _ => rfl
  | y :: r, x => lastE_snoc (y.1 + y.2) r x
theorem formOk_snoc : ∀ (l : List Sp) (e : Int) (x : Sp), formOk e (l ++ [x]) = true ↔ formOk e l = true ∧ lastE e l < x.1
  | [], e, x => by simp [formOk, lastE]
  | y :: r, e, x => by rw [List.cons_append, formOk_cons, formOk_cons, formOk_snoc r, lastE]; simp only [and_assoc]
theorem Can.range {s : List Sp} (h : Can s) {p : Int} (hp : mem p s = true) : 0 ≤ p ∧ p < 1024 := by
  obtain ⟨x, hx, hh⟩ := List.any_eq_true.1 hp
  have := vld_iff.1 (h.1 x hx)
  simp at hh
  omega
end Go.Pol
namespace Go.Pol
open Go Go.RowKit

/-- B differs from A at blocks of T alone; it may have more blocks. -/
structure Far (T : Nat → Prop) (A B : World) : Prop where
  os : B.os = A.os
  tape : B.tape = A.tape
  output : B.output = A.output
  size : A.heap.size ≤ B.heap.size
  block : ∀ k, k < A.heap.size → ¬ T k → B.heap[k]? = A.heap[k]?
section
variable {T T' : Nat → Prop} {A B C : World}
theorem Far.refl (T : Nat → Prop) (A : World) : Far T A A := ⟨rfl, rfl, rfl, Nat.le_refl _, fun _ _ _ => rfl⟩
theorem Far.trans (h : Far T A B) (k : Far T B C) : Far T A C :=
  ⟨k.os.trans h.os, k.tape.trans h.tape, k.output.trans h.output, Nat.le_trans h.size k.size, fun i hi hT => (k.block i (Nat.lt_of_lt_of_le hi h.size) hT).trans (h.block i hi hT)⟩
theorem Far.mono (h : Far T A B) (hT : ∀ k, k < A.heap.size → T k → T' k) : Far T' A B := ⟨h.os, h.tape, h.output, h.size, fun k hk hn => h.block k hk (fun ht => hn (hT k hk ht))⟩
/-- the first world's own blocks -/
theorem Far.trans' (h : Far T A B) (k : Far T' B C) (hT : ∀ i, i < A.heap.size → T' i → T i) : Far T A C :=
  ⟨k.os.trans h.os, k.tape.trans h.tape, k.output.trans h.output, Nat.le_trans h.size k.size, fun i hi hn => (k.block i (Nat.lt_of_lt_of_le hi h.size) (fun ht => hn (hT i hi ht))).trans (h.block i hi hn)⟩
theorem Far.of_below (h : Below A.heap.size A B) : Far T A B := ⟨h.os, h.tape, h.output, h.size, fun k hk _ => h.block k hk⟩
theorem Far.below {n : Nat} (h : Far T A B) (hn : n ≤ A.heap.size) (hT : ∀ k, k < n → ¬ T k) : Below n A B := ⟨h.os, h.tape, h.output, h.size, fun k hk => h.block k (by omega) (hT k hk)⟩
theorem Far.alloc (h : Far T A B) (o : Obj) : Far T A (B.alloc o) := h.trans (.of_below ((Below.refl _ _).alloc (Nat.le_refl _) o))
theorem Far.drew (h : Far T A B) : Far T A B.drew := h.trans (.of_below ((Below.refl _ _).drew))
theorem Far.setCell (h : Far T A B) {p : Addr} (hp : p.block < A.heap.size → T p.block) (v : Value) : Far T A (B.setCell p v) := by
  refine ⟨h.os, h.tape, h.output, Nat.le_trans h.size (KeepsWalks.setCell B p v).size, fun k hk hT => (Below.heap_setCell B p v k (fun e => ?_)).trans (h.block k hk hT)⟩
  exact hT (by rw [e]; exact hp (by rw [← e]; exact hk))
theorem Far.putObj (h : Far T A B) {l : Nat} (hl : l < A.heap.size → T l) (o : Obj) : Far T A (B.putObj l o) :=
  ⟨h.os, h.tape, h.output, by rw [World.putObj_size]; exact h.size, fun k hk hT => (World.putObj_heap_other (fun e => hT (by rw [e]; exact hl (by rw [← e]; exact hk)))).trans (h.block k hk hT)⟩
theorem Far.call (h : Far T A B) (hb : Below B.heap.size B C) : Far T A C := h.trans (.of_below hb)
theorem Far.blk {g : Nat} {t : TypeId} {cs : Array Value} (h : Far T A B) (hg : Blk A g t cs) (hT : ¬ T g) : Blk B g t cs := (h.block g hg.lt hT).trans hg
theorem Far.same {l : Nat} {o : Obj} (h : Far T A B) (hl : A.heap[l]? = some o) (hT : ¬ T l) : B.heap[l]? = some o := (h.block l (Array.getElem?_eq_some_iff.1 hl).1 hT).trans hl
theorem Far.cell {p : Addr} {v : Value} (h : Far T A B) (hc : A.cell? p = some v) (hT : ¬ T p.block) : B.cell? p = some v := by
  have hb : p.block < A.heap.size := World.block_lt_of_cell? _ _ hc
  have := h.block p.block hb hT
  simp only [World.cell?] at hc ⊢
  rw [this]; exact hc
theorem Far.frozen {p : Addr} {v : Value} (h : Far T A B) (hc : A.cell? p = some v) (hf : A.frozen? p = false) (hT : ¬ T p.block) : B.frozen? p = false := by
  have hb : p.block < A.heap.size := World.block_lt_of_cell? _ _ hc
  have := h.block p.block hb hT
  simp only [World.frozen?] at hf ⊢
  rw [this]; exact hf
theorem Far.ru {Bn : Nat} {Ad : Option Addr} {us : List (Int × Int)} (h : Far T A B) (hr : RU A Bn Ad us) (hT : ∀ b o, Ad = some ⟨b, o, none⟩ → ¬ T b) : RU B Bn Ad us := fun k hl => by
  obtain ⟨b, o, e, hb, hc, hd⟩ := hr k hl
  exact ⟨b, o, e, hb, h.cell hc (hT b o e), h.cell hd (hT b o e)⟩
theorem Far.ri {Bn : Nat} {Ad : Option Addr} {us : List Int} (h : Far T A B) (hr : RI A Bn Ad us) (hT : ∀ b o, Ad = some ⟨b, o, none⟩ → ¬ T b) : RI B Bn Ad us := fun k hl => by
  obtain ⟨b, o, e, hb, hc⟩ := hr k hl
  exact ⟨b, o, e, hb, h.cell hc (hT b o e)⟩
end

/-- the contract of a function value that is ranged over: it goes through just 'xs' -/
def SeqF {α : Type} (P : Program) (g : Nat) (lb : Array Value) (encs : α → Array Value) (T K : Nat → Prop) (xs : List α) (w : World) : Prop :=
  ∀ (n l : Nat) (J Jx : List α → World → Prop) (W : World), Far (fun k => ¬ K k) w W →
    (∀ pre A B, J pre A → Far T A B → J pre B) → (∀ pre A B, Jx pre A → Far T A B → Jx pre B) →
    (∀ m pre x W1, J pre W1 → pre ++ [x] <+: xs → YieldAt Fence.wide m P l (encs x) W1 fun e W' =>
      (e = .returned (.bool true) ∧ J (pre ++ [x]) W' ∧ Far (fun k => ¬ K k) W1 W') ∨ (e = .returned (.bool false) ∧ Jx (pre ++ [x]) W')) →
    J [] W →
    CallsIn Fence.wide n P g (#[.func (.yield l) #[] #[]] ++ lb) W fun e W' => (∃ v, e = .returned v) ∧ (J xs W' ∨ ∃ pre, pre <+: xs ∧ Jx pre W')

theorem SeqF.later {α : Type} {P : Program} {g : Nat} {lb : Array Value} {encs : α → Array Value} {T K : Nat → Prop} {xs : List α} {w w' : World}
    (h : SeqF P g lb encs T K xs w) (hw : Far (fun k => ¬ K k) w w') : SeqF P g lb encs T K xs w' :=
  fun n l J Jx W hW => h n l J Jx W (hw.trans hW)

/-- how a round's body may be left -/
def fPost {α : Type} (D : Nat) (K : Nat → Prop) (I : List α → World → Prop) (Ix : Code → List α → World → Prop) (xs : List α) (W : World) : Exit → Act → World → Prop
  | .normal, _, W' => Far (fun k => ¬ (K k ∨ k = D ∨ k = D + 1)) W W' ∧ I xs W'
  | .ret, _, W' => Far (fun k => ¬ (k = D ∨ k = D + 1)) W W' ∧ Ix .ret xs W'
  | .exit id, _, W' => Far (fun k => ¬ (k = D ∨ k = D + 1)) W W' ∧ Ix (.exit id) xs W'
  | .goto t, _, W' => Far (fun k => ¬ (k = D ∨ k = D + 1)) W W' ∧ Ix (.goto t) xs W'
  | .panic _, _, _ => False
  | .outgrown, _, _ => False

/-- the mark that the statement leaves among the activation's deferred calls -/
abbrev markOf (D : Nat) : Deferred := { target := .collected D, args := #[] }

theorem rangeF {α : Type} {P : Program} {g : Operand} {ps : Array Tmp} {assign body : Code} {Q : Exit → Act → World → Prop} {a : Act} {w : World}
    {gf : Nat} {lb : Array Value} (hg : a.eval g = .func (.func gf) #[] lb) (eg : ∀ args w, (callFunc gf args).run P w = .ok (.enter gf args) w)
    {encs : α → Array Value} {T K : Nat → Prop} {xs : List α} (hseq : SeqF P gf lb encs T K xs w) (hps : ∀ x, (encs x).size = ps.size)
    (hT : ∀ k, T k → k < w.heap.size) (hK : ∀ k, K k → k < w.heap.size)
    (I : List α → World → Prop) (Ix : Code → List α → World → Prop)
    (hI : ∀ pre A B, I pre A → Far (fun k => T k ∨ k = w.heap.size ∨ k = w.heap.size + 1) A B → I pre B)
    (hIx : ∀ c pre A B, Ix c pre A → Far (fun k => T k ∨ k = w.heap.size ∨ k = w.heap.size + 1) A B → Ix c pre B)
    (h0 : I [] w) (Ax : Nat → α → Act → World → Prop) (hAx : ∀ N x a' A B, Ax N x a' A → Far (fun k => k = w.heap.size + 1) A B → Ax N x a' B)
    (hassign : ∀ (m l : Nat) (x : α) (W : World) (C : Act → World → Prop), w.heap.size + 2 ≤ W.heap.size → (∀ a' W', Far (fun _ => False) W W' → Ax W.heap.size x a' W' → C a' W') →
      assign.wpIn (Fence.wide.inRound l) m P (Exit.then C (fun _ _ _ => False)) { tmps := (ps.zip (encs x)).foldl (fun t (p, v) => t.setIfInBounds p v) a.tmps, defers := [] } W)
    (hbody : ∀ (m l : Nat) (pre : List α) (x : α) (a' : Act) (Wa W : World), w.heap.size + 2 ≤ W.heap.size → I pre W → Ax Wa.heap.size x a' W → pre ++ [x] <+: xs → I pre Wa → Far (fun k => k = w.heap.size + 1) Wa W →
      body.wpIn (Fence.wide.inRound l) m P (fPost w.heap.size K I Ix (pre ++ [x]) W) a' W)
    (hdone : ∀ (W : World), w.heap.size + 2 ≤ W.heap.size → I xs W → W.heap[w.heap.size]? = some (.deferred (some [])) → Q .normal { a with defers := markOf w.heap.size :: a.defers } W)
    (hstop : ∀ (c : Code) (pre : List α) (W : World), w.heap.size + 2 ≤ W.heap.size → pre <+: xs → Ix c pre W → W.heap[w.heap.size]? = some (.deferred (some [])) → c.wp P Q { a with defers := markOf w.heap.size :: a.defers } W) :
    (Code.rangeFunc g ps assign body).wp P Q a w := by
  refine (wpIn_wide (n := 0)).1 (wpIn_rangeFunc fun fn _ => ?_)
  obtain ⟨D, hD⟩ : ∃ D, w.heap.size = D := ⟨_, rfl⟩
  -- the loop's record, in its three states
  obtain ⟨rec, hrec⟩ : ∃ rec : LoopState → Option Code → Loop, rec = fun s p => { state := s, pending := p, fn, tmps := a.tmps, params := ps, assign, body, defers := D } := ⟨_, rfl⟩
  obtain ⟨W1, hW1⟩ : ∃ W1, (w.alloc (.deferred (some []))).alloc (.loop (rec .ready none)) = W1 := ⟨_, rfl⟩
  have hent : (Instr.enterLoop fn a.tmps ps assign body none).run P w = .ok (D + 1, [markOf D]) W1 := by
    rw [← hW1, hrec, ← hD]; exact run_enterLoop_outer _ _ _ _ _
  have hfar : Far (fun _ => False) w W1 := by rw [← hW1]; exact ((Far.refl _ w).alloc _).alloc _
  have hl1 : W1.heap[D + 1]? = some (.loop (rec .ready none)) := by
    rw [← hW1, ← hD]
    have := World.alloc_heap_new (w.alloc (.deferred (some []))) (.loop (rec .ready none))
    rwa [World.size_alloc] at this
  have hd1 : W1.heap[D]? = some (.deferred (some [])) := by
    rw [← hW1, ← hD]; exact (Below.heap_alloc _ _ _ (by simp)).trans (World.alloc_heap_new w _)
  rw [hD] at hT hK hI hIx hAx hassign hbody hdone hstop
  refine ⟨D + 1, [markOf D], W1, { target := .fn (.func gf) lb, args := #[.func (.yield (D + 1)) #[] #[]] }, W1, gf, #[.func (.yield (D + 1)) #[] #[]] ++ lb, W1, hent, ?_, fun _ _ => trivial, ?_, fun h => (by cases h), ?_⟩
  · simp only [resolve, hg]
    simp [go_sem]
  · simp [invoke, go_sem, eg]
  -- what the iterator carries: the loop's invariant, the record, the block for deferred calls
  let J : List α → World → Prop := fun pre W => I pre W ∧ W.heap[D + 1]? = some (.loop (rec .ready none)) ∧ W.heap[D]? = some (.deferred (some []))
  let Jx : List α → World → Prop := fun pre W => ∃ c, Ix c pre W ∧ W.heap[D + 1]? = some (.loop (rec .done (some c))) ∧ W.heap[D]? = some (.deferred (some []))
  have hnT : ∀ k, T k → k ≠ D ∧ k ≠ D + 1 := fun k hk => by have := hT k hk; omega
  have hnK : ∀ k, K k → k ≠ D ∧ k ≠ D + 1 := fun k hk => by have := hK k hk; omega
  refine (hseq _ (D + 1) J Jx W1 (hfar.mono (fun _ _ h => h.elim)) (fun pre A B h hf => ⟨hI pre A B h.1 (hf.mono fun _ _ ht => .inl ht), hf.same h.2.1 (fun h => (hnT _ h).2 rfl), hf.same h.2.2 (fun h => (hnT _ h).1 rfl)⟩)
    (fun pre A B h hf => by
      obtain ⟨c, h1, h2, h3⟩ := h
      exact ⟨c, hIx c pre A B h1 (hf.mono fun _ _ ht => .inl ht), hf.same h2 (fun h => (hnT _ h).2 rfl), hf.same h3 (fun h => (hnT _ h).1 rfl)⟩)
    ?_ ⟨hI [] w W1 h0 (hfar.mono fun _ _ h => h.elim), hl1, hd1⟩).mono ?_
  · -- a round
    rintro m pre x Wa ⟨hi, hl, hd⟩ hpre
    have hlt : D + 1 < Wa.heap.size := (Array.getElem?_eq_some_iff.1 hl).1
    have hy := run_yield (P := P) (args := encs x) hl (by rw [hrec]; exact hps x)
    rw [hrec] at hy
    refine ⟨fn, _, assign, body, hy, roundIn_of_wpIn trivial (hassign m (D + 1) x Wa _ (by omega) fun a' Wb hab hax => ?_)⟩
    have hlb := hab.same hl id
    have hdb := hab.same hd id
    have hib := hI pre Wa Wb hi (hab.mono fun _ _ h => h.elim)
    have hltb : D + 1 < Wb.heap.size := (Array.getElem?_eq_some_iff.1 hlb).1
    refine ⟨_, run_beginRound hlb (by rw [hrec]), ?_⟩
    obtain ⟨Wc, hWc⟩ : ∃ Wc, Wb.putObj (D + 1) (.loop { rec .ready none with state := .busy }) = Wc := ⟨_, rfl⟩
    rw [hWc]
    have hbc : Far (fun k => k = D + 1) Wb Wc := by rw [← hWc]; exact Far.putObj (T := fun k => k = D + 1) (Far.refl _ Wb) (fun _ => rfl) _
    have hlc : Wc.heap[D + 1]? = some (.loop { rec .ready none with state := .busy }) := by rw [← hWc]; exact World.putObj_heap_same hltb
    have hdc : Wc.heap[D]? = some (.deferred (some [])) := hbc.same hdb (by omega)
    have hltc : D + 1 < Wc.heap.size := (Array.getElem?_eq_some_iff.1 hlc).1
    refine wpIn_mono (hbody m (D + 1) pre x a' Wa Wc (by omega) (hI pre Wb Wc hib (hbc.mono fun _ _ h => .inr (.inr h))) (hAx _ x a' Wb Wc hax hbc) hpre hi ((hab.mono fun _ _ h => h.elim : Far (fun k => k = D + 1) Wa Wb).trans hbc)) ?_
    -- what 'endRound' makes of it
    have fin : ∀ (j : Option Code) (Wd : World), Far (fun k => ¬ (k = D ∨ k = D + 1)) Wc Wd →
        (Instr.endRound (D + 1) j).run P Wd = .ok (.bool j.isNone) (Wd.putObj (D + 1) (.loop (rec (if j.isNone then .ready else .done) j))) ∧
        (Wd.putObj (D + 1) (.loop (rec (if j.isNone then .ready else .done) j))).heap[D + 1]? = some (.loop (rec (if j.isNone then .ready else .done) j)) ∧
        (Wd.putObj (D + 1) (.loop (rec (if j.isNone then .ready else .done) j))).heap[D]? = some (.deferred (some [])) := fun j Wd hcd => by
      have hld := hcd.same hlc (fun h => h (.inr rfl))
      have he := run_endRound (P := P) j hld
      rw [hrec] at he ⊢
      exact ⟨he, World.putObj_heap_same (Array.getElem?_eq_some_iff.1 hld).1, (World.putObj_heap_other (by omega)).trans (hcd.same hdc (fun h => h (.inl rfl)))⟩
    have back : ∀ (o : Obj) (Wd : World), Far (fun k => T k ∨ k = D ∨ k = D + 1) Wd (Wd.putObj (D + 1) o) := fun o Wd => (Far.refl _ Wd).putObj (fun _ => .inr (.inr rfl)) o
    intro e a3 Wd hp
    cases e with
    | normal =>
      obtain ⟨hcd, hid⟩ := hp
      obtain ⟨h1, h2, h3⟩ := fin none Wd (hcd.mono fun k _ h h' => h (.inr h'))
      refine ⟨_, _, h1, .inl ⟨rfl, ⟨hI _ _ _ hid (back _ Wd), h2, h3⟩, ?_⟩⟩
      refine (((hab.mono fun _ _ h => h.elim : Far (fun k => ¬ K k) Wa Wb).trans (hbc.mono fun k _ h hk => (hnK k hk).2 h)).trans (hcd.mono fun k _ h hk => h (.inl hk))).putObj (fun _ hk => (hnK _ hk).2 rfl) _
    | ret =>
      obtain ⟨hcd, hid⟩ := hp
      obtain ⟨h1, h2, h3⟩ := fin (some .ret) Wd hcd
      exact ⟨_, _, h1, .inr ⟨rfl, .ret, hIx _ _ _ _ hid (back _ Wd), h2, h3⟩⟩
    | exit id =>
      obtain ⟨hcd, hid⟩ := hp
      obtain ⟨h1, h2, h3⟩ := fin (some (.exit id)) Wd hcd
      exact ⟨_, _, h1, .inr ⟨rfl, .exit id, hIx _ _ _ _ hid (back _ Wd), h2, h3⟩⟩
    | goto t =>
      obtain ⟨hcd, hid⟩ := hp
      obtain ⟨h1, h2, h3⟩ := fin (some (.goto t)) Wd hcd
      exact ⟨_, _, h1, .inr ⟨rfl, .goto t, hIx _ _ _ _ hid (back _ Wd), h2, h3⟩⟩
    | panic ch => exact hp.elim
    | outgrown => exact hp.elim
  · -- behind the iterator
    have back : ∀ (o : Obj) (Wd : World), Far (fun k => T k ∨ k = D ∨ k = D + 1) Wd (Wd.putObj (D + 1) o) := fun o Wd => (Far.refl _ Wd).putObj (fun _ => .inr (.inr rfl)) o
    rintro e W2 ⟨⟨v, rfl⟩, h2⟩
    rcases h2 with ⟨hi, hl, hd⟩ | ⟨pre, hpre, c, hi, hl, hd⟩
    · have he := run_endLoop (P := P) hl (by rw [hrec]; simp)
      rw [hrec] at he
      have hlt : D + 1 < W2.heap.size := (Array.getElem?_eq_some_iff.1 hl).1
      exact ⟨none, _, he, hdone _ (by rw [World.putObj_size]; omega) (hI _ _ _ hi (back _ W2)) ((World.putObj_heap_other (by omega)).trans hd)⟩
    · have he := run_endLoop (P := P) hl (by rw [hrec]; simp)
      rw [hrec] at he
      have hlt : D + 1 < W2.heap.size := (Array.getElem?_eq_some_iff.1 hl).1
      exact ⟨some c, _, he, (wpIn_wide (n := 0)).2 (hstop c pre _ (by rw [World.putObj_size]; omega) hpre (hIx _ _ _ _ hi (back _ W2)) ((World.putObj_heap_other (by omega)).trans hd))⟩

/-- a function whose body holds such a statement is entered -/
theorem calls_of_marks {P : Program} {f : FuncId} {fn : Func} {c : Code} {args : Array Value} {w : World} {R : Ending → World → Prop}
    (hf : P.funcs[f]? = some fn) (hb : fn.body = some c) (h : c.wp P (bodyPostM Fence.wide 0 P fn R) { tmps := args ++ Array.replicate (fn.ntmps - args.size) undef, defers := [] } w) : Calls P f args w R :=
  (callsIn_wide (n := 0)).1 (callsIn_of_wp_marks hf hb trivial (wpIn_wide.2 h))
/-- it returns behind the statement -/
theorem leave_mark {P : Program} {fn : Func} {tmps : Array Value} {w : World} {R : Ending → World → Prop} {D : Nat} {v : Value} (hd : w.heap[D]? = some (.deferred (some [])))
    (hres : (results fn tmps).run P (w.putObj D (.deferred none)) = .ok v (w.putObj D (.deferred none))) (hR : R (.returned v) (w.putObj D (.deferred none))) :
    bodyPostM Fence.wide 0 P fn R .ret { tmps := tmps, defers := [markOf D] } w :=
  ⟨by simp, .inl ⟨_, _, rfl, run_takeDeferred hd, v, hres, hR⟩⟩
theorem wide_fn (k : Nat) : Fence.wide.fn k = True := rfl
theorem wide_depth : Fence.wide.depth = none := rfl
theorem wide_fn' (k l : Nat) : (Fence.wide.inRound l).fn k = True := rfl
theorem wide_depth' (l : Nat) : (Fence.wide.inRound l).depth = none := rfl
end Go.Pol
namespace Go.Proofs.YtpabnbhbcphfiaaGreat
open Go Go.Proofs Go.RowKit Go.Pol
attribute [local go_sem] Oper.semAt_some Go.Pol.wide_fn Go.Pol.wide_depth Go.Pol.wide_fn' Go.Pol.wide_depth'

/-- a slice that the iterator still has before it -/
structure Left (w : World) (N : Nat) (K : Nat → Prop) (B1 B2 : Nat) (P : Option Addr) (m d : Nat) (us : List Sp) : Prop where
  len : us.length = m
  cap : m ≤ d
  max : d ≤ 9223372036854775807
  ru : RU w N P us
  own : us ≠ [] → ∀ b o, P = some ⟨b, o, none⟩ → K b ∧ b ≠ B1 ∧ b ≠ B2
  vl : ∀ x ∈ us, vld x = true
theorem Left.far {T : Nat → Prop} {w w' : World} {N : Nat} {K : Nat → Prop} {B1 B2 : Nat} {P : Option Addr} {m d : Nat} {us : List Sp} (h : Left w N K B1 B2 P m d us) (hf : Far T w w') (hT : ∀ k, K k → k ≠ B1 → k ≠ B2 → ¬ T k) : Left w' N K B1 B2 P m d us :=
  ⟨h.len, h.cap, h.max, by
    by_cases h0 : us = []
    · subst h0; exact RU.nil
    · exact hf.ru h.ru (fun b o e => by have := h.own h0 b o e; exact hT b this.1 this.2.1 this.2.2), h.own, h.vl⟩

end Go.Proofs.YtpabnbhbcphfiaaGreat
namespace Go.Pol
def wrongG (f b ev : Int) : Bool := !(decide (0 ≤ f) && decide (f ≤ 16) && decide (0 ≤ b) && decide (b ≤ 16) && decide (0 ≤ ev) && decide (ev ≤ 1024))
/-- what an access to a page of a plan hits -/
def kindG (pg n f b ev page : Int) : Int :=
  if page - pg < 0 ∨ n ≤ page - pg then 4 else if page - pg < f then 1 else if n - b ≤ page - pg then 2 else if 0 < ev ∧ (page - pg - f + 1) % (ev + 1) = 0 then 3 else 0
end Go.Pol
namespace Go.Pol
def badLeast (u f b ev : Int) : Prop := u < 1 ∨ 1024 < u ∨ wrongG f b ev = true
instance badLeastDec (u f b ev : Int) : Decidable (badLeast u f b ev) := by unfold badLeast; infer_instance
theorem tab_size : Lib.len8tab.size = 256 := by decide +kernel
theorem tab_fin : ∀ i : Fin 256, ((Lib.len8tab[i.val]?).map UInt8.toNat).getD 0 = Lib.bitLen i.val := by decide +kernel
theorem tab_get (i : Nat) (h : i < Lib.len8tab.size) : (Lib.len8tab[i]'h).toNat = Lib.bitLen i := by
  have h2 : i < 256 := by rw [← tab_size]; exact h
  have := tab_fin ⟨i, h2⟩
  simpa [getElem?_pos Lib.len8tab i h] using this
end Go.Pol
namespace Go.Proofs.YtpabnbhbcphfiaaGreat
open Go Go.Proofs Go.RowKit Go.Pol

set_option maxHeartbeats 4000000 in
set_option maxRecDepth 100000 in
theorem len64_any (x : Int) (w : World) (h0 : 0 ≤ x) (h1 : x ≤ 4000) :
    Calls Tryz.prog 182 #[.int .u64 x] w fun e w' => e = .returned (.int .i64 (Lib.bitLen x.toNat : Nat)) ∧ w = w' := by
  have q1 : decide (4294967296 ≤ x) = false := by simp; omega
  have q2 : decide (65536 ≤ x) = false := by simp; omega
  obtain ⟨L, hL⟩ : ∃ L : Int, ((Lib.bitLen x.toNat : Nat) : Int) = L := ⟨_, rfl⟩
  rw [hL]
  have hL' := Lib.hid hL
  clear hL
  by_cases hx : 256 ≤ x
  · have q3 : decide (256 ≤ x) = true := by simpa using hx
    have hsz : (x / 256).toNat < Lib.len8tab.size := by rw [tab_size]; omega
    have hb := Lib.bitLen_le8' (x / 256) (by omega) (by omega)
    have hs := Lib.hid (Lib.bitLen_shift8 x.toNat (by omega) (by omega))
    have ht := Lib.hid (show (x / 256).toNat = x.toNat / 256 by omega)
    have hg := Lib.hid (tab_get (x / 256).toNat hsz)
    go_enter Tryz.func182, Tryz.ntmps182
    go_wp2
    go_ret
    simp only [Array.getD, List.size_toArray, List.length_cons, List.length_nil]
    refine ⟨?_, by first | trivial | rfl⟩
    simp
    rw [hg.out, ← hL'.out, hs.out, ← ht.out]
    simp only [wrap64]
    omega
  · have q3 : decide (256 ≤ x) = false := by simpa using hx
    have hsz : x.toNat < Lib.len8tab.size := by rw [tab_size]; omega
    have hb := Lib.bitLen_le8' x (by omega) (by omega)
    have hg := Lib.hid (tab_get x.toNat hsz)
    go_enter Tryz.func182, Tryz.ntmps182
    go_wp2
    go_ret
    refine ⟨?_, by first | trivial | rfl⟩
    simp
    rw [hg.out, ← hL'.out]
    simp only [wrap64]
    omega

theorem len_any (x : Int) (w : World) (h0 : 0 ≤ x) (h1 : x ≤ 4000) :
    Calls Tryz.prog 124 #[.int .u64 x] w fun e w' => e = .returned (.int .i64 (Lib.bitLen x.toNat : Nat)) ∧ w = w' := by
  have HL := Lib.hid (fun W => len64_any x W h0 h1)
  generalize (Lib.bitLen x.toNat : Nat) = L at *
  go_enter Tryz.func124, Tryz.ntmps124
  go_wp2_with (go_at_call 182; refine (HL.out _).mono ?_; rintro e w' ⟨rfl, rfl⟩)
  go_ret
  exact ⟨rfl, rfl⟩

end Go.Proofs.YtpabnbhbcphfiaaGreat
namespace Go.Proofs.YtpabnbhbcphfiaaGreat
open Go Go.Proofs Go.Shelf
def sortMv_ren : Go.Shelf.Ren := ⟨fun | 6 => 226 | 15 => 124 | 14 => 242 | 28 => 181 | 29 => 182 | 20 => 258 | 21 => 259 | 22 => 260 | 23 => 261 | 24 => 262 | 25 => 263 | 26 => 264 | 27 => 265 | 46 => 274 | 47 => 270 | 48 => 271 | 49 => 275 | 50 => 276 | 57 => 279 | n => n, fun | 22 => 56 | 24 => 65 | 25 => 275 | 3 => 3 | 39 => 222 | 0 => 0 | 53 => 265 | 55 => 267 | 4 => 4 | 46 => 324 | 45 => 323 | 50 => 328 | 5 => 5 | 9 => 9 | 66 => 338 | 70 => 235 | 76 => 346 | 77 => 218 | n => n, fun | n => n⟩
theorem sortMv : Go.Proofs.SlLaysF0.n6 Tryz.prog sortMv_ren := {
  mixed := by kernel_rfl
  f6 := ⟨Tryz.f226.name, by decide, Tryz.func226.trans (congrArg some (by kernel_rfl))⟩
  f14 := ⟨Tryz.f242.name, by decide, Tryz.func242.trans (congrArg some (by kernel_rfl))⟩
  f15 := Tryz.func124.trans (congrArg some (by kernel_rfl))
  f20 := ⟨Tryz.f258.name, by decide, Tryz.func258.trans (congrArg some (by kernel_rfl))⟩
  f21 := ⟨Tryz.f259.name, by decide, Tryz.func259.trans (congrArg some (by kernel_rfl))⟩
  f22 := ⟨Tryz.f260.name, by decide, Tryz.func260.trans (congrArg some (by kernel_rfl))⟩
  f23 := ⟨Tryz.f261.name, by decide, Tryz.func261.trans (congrArg some (by kernel_rfl))⟩
  f24 := ⟨Tryz.f262.name, by decide, Tryz.func262.trans (congrArg some (by kernel_rfl))⟩
  f25 := ⟨Tryz.f263.name, by decide, Tryz.func263.trans (congrArg some (by kernel_rfl))⟩
  f26 := ⟨Tryz.f264.name, by decide, Tryz.func264.trans (congrArg some (by kernel_rfl))⟩
  f27 := ⟨Tryz.f265.name, by decide, Tryz.func265.trans (congrArg some (by kernel_rfl))⟩
  f28 := Tryz.func181.trans (congrArg some (by kernel_rfl))
  f29 := Tryz.func182.trans (congrArg some (by kernel_rfl))
  f46 := ⟨Tryz.f274.name, by decide, Tryz.func274.trans (congrArg some (by kernel_rfl))⟩
  f47 := Tryz.func270.trans (congrArg some (by kernel_rfl))
  f48 := Tryz.func271.trans (congrArg some (by kernel_rfl))
  f49 := ⟨Tryz.f275.name, by decide, Tryz.func275.trans (congrArg some (by kernel_rfl))⟩
  f50 := ⟨Tryz.f276.name, by decide, Tryz.func276.trans (congrArg some (by kernel_rfl))⟩
  f57 := ⟨Tryz.f279.name, by decide, Tryz.func279.trans (congrArg some (by kernel_rfl))⟩
  t0 := Tryz.underlying0
  a0 := Tryz.isAgg0
  z0 := Tryz.sizeOf0
  v0 := Tryz.zeroValue0
  t3 := Tryz.underlying3
  a3 := Tryz.isAgg3
  z3 := Tryz.sizeOf3
  v3 := Tryz.zeroValue3
  t4 := Tryz.underlying4
  a4 := Tryz.isAgg4
  z4 := Tryz.sizeOf4
  v4 := Tryz.zeroValue4
  t5 := Tryz.underlying5
  a5 := Tryz.isAgg5
  z5 := Tryz.sizeOf5
  v5 := Tryz.zeroValue5
  t9 := Tryz.underlying9
  a9 := Tryz.isAgg9
  z9 := Tryz.sizeOf9
  v9 := Tryz.zeroValue9
  t22 := Tryz.underlying56
  a22 := Tryz.isAgg56
  z22 := Tryz.sizeOf56
  v22 := Tryz.zeroValue56
  t25 := Tryz.underlying275
  a25 := Tryz.isAgg275
  z25 := Tryz.sizeOf275
  v25 := Tryz.zeroValue275
  t39 := Tryz.underlying222
  a39 := Tryz.isAgg222
  z39 := Tryz.sizeOf222
  v39 := Tryz.zeroValue222
  t45 := Tryz.underlying323
  a45 := Tryz.isAgg323
  z45 := Tryz.sizeOf323
  v45 := Tryz.zeroValue323
  t46 := Tryz.underlying324
  a46 := Tryz.isAgg324
  z46 := Tryz.sizeOf324
  v46 := Tryz.zeroValue324
  t50 := Tryz.underlying328
  a50 := Tryz.isAgg328
  z50 := Tryz.sizeOf328
  v50 := Tryz.zeroValue328
  t53 := Tryz.underlying265
  a53 := Tryz.isAgg265
  z53 := Tryz.sizeOf265
  v53 := Tryz.zeroValue265
  t55 := Tryz.underlying267
  a55 := Tryz.isAgg267
  z55 := Tryz.sizeOf267
  v55 := Tryz.zeroValue267
  t66 := Tryz.underlying338
  a66 := Tryz.isAgg338
  z66 := Tryz.sizeOf338
  v66 := Tryz.zeroValue338
  t70 := Tryz.underlying235
  a70 := Tryz.isAgg235
  z70 := Tryz.sizeOf235
  v70 := Tryz.zeroValue235
  t76 := Tryz.underlying346
  a76 := Tryz.isAgg346
  z76 := Tryz.sizeOf346
  v76 := Tryz.zeroValue346
  t77 := Tryz.underlying218
  a77 := Tryz.isAgg218
  z77 := Tryz.sizeOf218
  v77 := Tryz.zeroValue218 }
end Go.Proofs.YtpabnbhbcphfiaaGreat
namespace Go.Pol
open Go Go.RowKit
def spCells (us : List Sp) : List Value := us.flatMap fun x => [.int .i64 x.1, .int .i64 x.2]
theorem spCells_len (us : List Sp) : (spCells us).length = us.length * 2 := by
  induction us with
  | nil => rfl
  | cons x r ih => simp only [spCells, List.flatMap_cons, List.length_append, List.length_cons, List.length_nil] at ih ⊢; omega
theorem spCells_snoc (us : List Sp) (x : Sp) : spCells (us ++ [x]) = spCells us ++ [.int .i64 x.1, .int .i64 x.2] := by simp [spCells]
theorem spCells_at : ∀ (us : List Sp) (k : Nat), k < us.length → (spCells us)[k * 2]? = some (.int .i64 (us.getD k (0,0)).1) ∧ (spCells us)[k * 2 + 1]? = some (.int .i64 (us.getD k (0,0)).2)
  | [], k, h => by simp at h
  | x :: r, 0, _ => by simp [spCells]
  | x :: r, k + 1, h => by
    have ih := spCells_at r k (by simpa using h)
    have e : spCells (x :: r) = .int .i64 x.1 :: .int .i64 x.2 :: spCells r := by simp [spCells]
    rw [e, show (k + 1) * 2 = k * 2 + 1 + 1 by omega]
    simpa using ih
section
variable {T : Nat → Prop} {w w' : World} {base : Nat} {e : TypeId} {size : Nat} {v : Value} {n : Nat} {xs : List Value} {us : List Sp}
theorem ownsRow_far (h : w.ownsRow base e size v n xs) (hf : Far T w w') (hT : ∀ g, v.ownBlock = some g → ¬ T g) : w'.ownsRow base e size v n xs := by
  refine ⟨h.1, ?_⟩
  rcases h.2 with hn | ⟨g, cap, cur, rfl, hb, hg, rest⟩
  · exact .inl hn
  · exact .inr ⟨g, cap, cur, rfl, hb, hf.same hg (hT g rfl), rest⟩
theorem ownsRow_call (h : w.ownsRow base e size v n xs) (hf : Below w.heap.size w w') : w'.ownsRow base e size v n xs := ownsRow_far (T := fun _ => False) h (.of_below hf) (fun _ _ h => h)
theorem ownsRow_base {base' : Nat} (h : w.ownsRow base e size v n xs) (hb : base' ≤ base) : w.ownsRow base' e size v n xs := by
  refine ⟨h.1, ?_⟩
  rcases h.2 with hn | ⟨g, cap, cur, rfl, hb', rest⟩
  · exact .inl hn
  · exact .inr ⟨g, cap, cur, rfl, by omega, rest⟩
theorem Far.grown {A B C : World} {row : Option Nat} (h : Far T A B) (hg : B.grownBy C row) (hr : ∀ r, row = some r → r < A.heap.size → T r) : Far T A C :=
  ⟨hg.os.trans h.os, hg.tape.trans h.tape, hg.output.trans h.output, Nat.le_trans h.size hg.size, fun k hk hT => (hg.block k (Nat.lt_of_lt_of_le hk h.size) (fun e => hT (hr k e.symm hk))).trans (h.block k hk hT)⟩
/-- what a call of the own made reads as a list -/
theorem own_RU (h : w.ownsRow base e 2 v n (spCells us)) (hn : us.length = n) : ∃ (A : Option Addr) (cap : Nat), v = .slice A n cap ∧ RU w w.heap.size A us ∧ n ≤ cap ∧ cap ≤ maxLen ∧ (∀ b o, A = some ⟨b, o, none⟩ → base ≤ b) ∧ (us = [] ∨ A ≠ none) := by
  have hv := h
  rcases h.2 with ⟨rfl, h0⟩ | ⟨g, cap, cur, rfl, hg, hk, hnc, hcm, _⟩
  · subst h0
    obtain rfl : us = [] := List.eq_nil_of_length_eq_zero hn
    exact ⟨none, 0, rfl, RU.nil, Nat.le_refl _, by unfold maxLen; omega, fun b o e => (by cases e), .inl rfl⟩
  · refine ⟨_, cap, rfl, fun k hk' => ?_, hnc, hcm, fun b o e => by cases e; exact hg, .inr (by simp)⟩
    have h2 := spCells_at us k hk'
    have h0 := hv.cellAt (k * 2) (by omega)
    have h1 := hv.cellAt (k * 2 + 1) (by omega)
    refine ⟨g, 0, rfl, Blk.lt hk, ?_, ?_⟩
    · rw [Nat.zero_add, h0]; exact h2.1
    · rw [Nat.zero_add, h1]; exact h2.2
theorem own_cap {A : Option Addr} {cap m : Nat} (h : w.ownsRow base e size (.slice A n cap) m xs) (hA : A = none) : cap = 0 := by
  rcases h.2 with ⟨h0, _⟩ | ⟨g, cap', cur, h0, _⟩
  · cases h0; rfl
  · cases h0; cases hA
/-- a box is not a slice's own row -/
theorem Blk.not_row {g : Nat} {t : TypeId} {cs : Array Value} (h : Blk w g t cs) (hr : w.ownsRow base e size v n xs) (hte : t ≠ e) : v.ownBlock ≠ some g := by
  rcases hr.2 with ⟨rfl, _⟩ | ⟨g', cap, cur, rfl, _, hgb, _⟩
  · simp [Value.ownBlock]
  · intro e'
    obtain rfl : g' = g := by simpa [Value.ownBlock] using e'
    unfold Blk at h
    rw [h] at hgb
    simp at hgb
    exact hte hgb.2
theorem news_two {g : Nat} {t : TypeId} {a b : Int} (h : Blk w g t #[.int .i64 a, .int .i64 b]) : ∀ (j : Nat) (u : Value), [Value.int .i64 a, Value.int .i64 b][j]? = some u → w.cell? ((⟨g, 0, none⟩ : Addr).add j) = some u := by
  intro j u hu
  rw [addr_add0, Nat.zero_add]
  rw [h.cell]
  simpa using hu
theorem news_one2 {a b : Int} : ∀ u ∈ [Value.int .i64 a, Value.int .i64 b], u.oneCell' = true := by
  intro u hu
  simp only [List.mem_cons, List.not_mem_nil, or_false] at hu
  rcases hu with rfl | rfl <;> rfl
end
/-- the box of a slice of spans, and the row that the slice owns beyond 'base' -/
structure BoxS (w : World) (B : Nat) (tb te : TypeId) (base : Nat) (us : List Sp) : Prop where
  ex : ∃ v, Blk w B tb #[v] ∧ w.ownsRow base te 2 v us.length (spCells us) ∧ (v = .slice none 0 0 ↔ us = [])
theorem BoxS.far {T : Nat → Prop} {w w' : World} {B : Nat} {tb te : TypeId} {base : Nat} {us : List Sp} (h : BoxS w B tb te base us) (hf : Far T w w') (hB : ¬ T B) (hT : ∀ g, base ≤ g → ¬ T g) : BoxS w' B tb te base us := by
  obtain ⟨v, h1, h2, h3⟩ := h.ex
  exact ⟨v, hf.blk h1 hB, ownsRow_far h2 hf (fun g hg => hT g (h2.lt g hg).1), h3⟩
/-- 'out = append(out, x)': what lies behind it -/
theorem BoxS.appended {w w1 : World} {B : Nat} {tb te : TypeId} {base : Nat} {us us' : List Sp} {v v' : Value} {tmp : Obj} {m : Nat} (hv : Blk w B tb #[v]) (hte : tb ≠ te) (hrow : w.ownsRow base te 2 v us.length (spCells us))
    (hown : w1.ownsRow base te 2 v' m (spCells us')) (hm : m = us'.length) (hne : us' ≠ []) (hg : (w.alloc tmp).grownBy w1 v.ownBlock) :
    Blk w1 B tb #[v] ∧ BoxS (w1.setCell ⟨B, 0, none⟩ v') B tb te base us' ∧ ∀ (T : Nat → Prop), T B → (∀ g, v.ownBlock = some g → T g) → Far T w (w1.setCell ⟨B, 0, none⟩ v') := by
  subst hm
  have hv1 : Blk w1 B tb #[v] := (hv.alloc tmp).grown hg (fun e => hv.not_row hrow hte e.symm)
  refine ⟨hv1, ⟨v', by simpa using hv1.set_ 0 v', ?_, ?_⟩, fun T hTB hT => ?_⟩
  · have hfar : Far (fun k => k = B) w1 (w1.setCell ⟨B, 0, none⟩ v') := Far.setCell (T := fun k => k = B) (p := ⟨B, 0, none⟩) (Far.refl _ _) (fun _ => rfl) v'
    exact ownsRow_far hown hfar (fun g hg' e => by subst e; exact hv1.not_row hown hte hg')
  · constructor
    · intro e
      subst e
      rcases hown.2 with ⟨_, h0⟩ | ⟨g, cap, cur, e, _⟩
      · exact List.eq_nil_of_length_eq_zero h0
      · cases e
    · intro e; exact absurd e hne
  · have h1 : Far T w (w.alloc tmp) := (Far.refl T w).alloc tmp
    refine (h1.grown hg (fun r e hr => ?_)).setCell (p := ⟨B, 0, none⟩) (fun _ => hTB) v'
    exact hT r e

end Go.Pol
namespace Go.Pol
open Go Go.RowKit
/-- a slice of blocks -/
def RT (w : World) (B : Nat) (A : Option Addr) (bs : List B3) : Prop :=
  ∀ k, k < bs.length → ∃ b o, A = some ⟨b, o, none⟩ ∧ b < B ∧ w.cell? ⟨b, o + k * 3, none⟩ = some (.int .i64 (bs.getD k b0).1) ∧ w.cell? ⟨b, o + k * 3 + 1, none⟩ = some (.int .i64 (bs.getD k b0).2.1) ∧ w.cell? ⟨b, o + k * 3 + 2, none⟩ = some (.bool (bs.getD k b0).2.2)
def tCells (bs : List B3) : List Value := bs.flatMap fun x => [.int .i64 x.1, .int .i64 x.2.1, .bool x.2.2]
theorem tCells_len (bs : List B3) : (tCells bs).length = bs.length * 3 := by
  induction bs with
  | nil => rfl
  | cons x r ih => simp only [tCells, List.flatMap_cons, List.length_append, List.length_cons, List.length_nil] at ih ⊢; omega
theorem tCells_snoc (bs : List B3) (x : B3) : tCells (bs ++ [x]) = tCells bs ++ [.int .i64 x.1, .int .i64 x.2.1, .bool x.2.2] := by simp [tCells]
theorem tCells_one (bs : List B3) : ∀ u ∈ tCells bs, u.oneCell' = true := by
  intro u hu
  simp only [tCells, List.mem_flatMap, List.mem_cons, List.not_mem_nil, or_false] at hu
  obtain ⟨x, _, rfl | rfl | rfl⟩ := hu <;> rfl
theorem tCells_at : ∀ (bs : List B3) (k : Nat), k < bs.length → (tCells bs)[k * 3]? = some (.int .i64 (bs.getD k b0).1) ∧ (tCells bs)[k * 3 + 1]? = some (.int .i64 (bs.getD k b0).2.1) ∧ (tCells bs)[k * 3 + 2]? = some (.bool (bs.getD k b0).2.2)
  | [], k, h => by simp at h
  | x :: r, 0, _ => by simp [tCells]
  | x :: r, k + 1, h => by
    have ih := tCells_at r k (by simpa using h)
    have e : tCells (x :: r) = .int .i64 x.1 :: .int .i64 x.2.1 :: .bool x.2.2 :: tCells r := by simp [tCells]
    rw [e, show (k + 1) * 3 = k * 3 + 1 + 1 + 1 by omega]
    simpa using ih
section
variable {w w' : World} {B B' : Nat} {A : Option Addr} {bs : List B3}
theorem RT.keep (h : RT w B A bs) (hk : ∀ p : Addr, p.block < B → w'.cell? p = w.cell? p) : RT w' B A bs := fun k hl => by
  obtain ⟨b, o, e, hb, hc, hd, hf⟩ := h k hl
  exact ⟨b, o, e, hb, (hk _ hb).trans hc, (hk _ hb).trans hd, (hk _ hb).trans hf⟩
theorem RT.below (h : RT w B A bs) (hb : Below B w w') : RT w' B A bs := h.keep fun _ hp => hb.cell hp
theorem RT.more (h : RT w B A bs) (hB : B ≤ B') : RT w B' A bs := fun k hl => by
  obtain ⟨b, o, e, hb, hc⟩ := h k hl
  exact ⟨b, o, e, by omega, hc⟩
theorem RT.on (h : RT w w.heap.size A bs) (hb : Below w.heap.size w w') : RT w' w'.heap.size A bs := (h.below hb).more hb.size
theorem RT.at_ (h : RT w B A bs) {k : Nat} (hk : k < bs.length) : ∃ b o, A = some ⟨b, o, none⟩ ∧ b < B ∧ w.cell? ⟨b, o + k * 3, none⟩ = some (.int .i64 (bs.getD k b0).1) ∧ w.cell? ⟨b, o + k * 3 + 1, none⟩ = some (.int .i64 (bs.getD k b0).2.1) ∧ w.cell? ⟨b, o + k * 3 + 2, none⟩ = some (.bool (bs.getD k b0).2.2) := h k hk
theorem RT.nil : RT w B A [] := fun k h => absurd h (by simp)
/-- what a call of the own made reads as a list -/
theorem own_RT {base n : Nat} {e : TypeId} {v : Value} (h : w.ownsRow base e 3 v n (tCells bs)) (hn : bs.length = n) : ∃ (A : Option Addr) (cap : Nat), v = .slice A n cap ∧ RT w w.heap.size A bs ∧ n ≤ cap ∧ cap ≤ maxLen ∧ (∀ b o, A = some ⟨b, o, none⟩ → base ≤ b) ∧ (bs = [] ∨ A ≠ none) := by
  have hv := h
  rcases h.2 with ⟨rfl, h0⟩ | ⟨g, cap, cur, rfl, hg, hk, hnc, hcm, _⟩
  · subst h0
    obtain rfl : bs = [] := List.eq_nil_of_length_eq_zero hn
    exact ⟨none, 0, rfl, RT.nil, Nat.le_refl _, by unfold maxLen; omega, fun b o e => (by cases e), .inl rfl⟩
  · refine ⟨_, cap, rfl, fun k hk' => ?_, hnc, hcm, fun b o e => by cases e; exact hg, .inr (by simp)⟩
    have h2 := tCells_at bs k hk'
    have c0 := hv.cellAt (k * 3) (by omega)
    have c1 := hv.cellAt (k * 3 + 1) (by omega)
    have c2 := hv.cellAt (k * 3 + 2) (by omega)
    refine ⟨g, 0, rfl, Blk.lt hk, ?_, ?_, ?_⟩
    · rw [Nat.zero_add, c0]; exact h2.1
    · rw [Nat.zero_add, c1]; exact h2.2.1
    · rw [Nat.zero_add, c2]; exact h2.2.2
theorem news_three {g : Nat} {t : TypeId} {a b : Int} {c : Bool} (h : Blk w g t #[.int .i64 a, .int .i64 b, .bool c]) : ∀ (j : Nat) (u : Value), [Value.int .i64 a, Value.int .i64 b, Value.bool c][j]? = some u → w.cell? ((⟨g, 0, none⟩ : Addr).add j) = some u := by
  intro j u hu
  rw [addr_add0, Nat.zero_add]
  rw [h.cell]
  simpa using hu
theorem news_one3 {a b : Int} {c : Bool} : ∀ u ∈ [Value.int .i64 a, Value.int .i64 b, Value.bool c], u.oneCell' = true := by
  intro u hu
  simp only [List.mem_cons, List.not_mem_nil, or_false] at hu
  rcases hu with rfl | rfl | rfl <;> rfl
end
/-- the value of a block -/
abbrev bV (x : B3) : Value := .agg #[.int .i64 x.1, .int .i64 x.2.1, .bool x.2.2]
end Go.Pol
namespace Go.Proofs.YtpabnbhbcphfiaaGreat
open Go Go.Proofs Go.RowKit Go.Pol

theorem pw_wrap {o : Int} (h : 0 ≤ o ∧ o ≤ 10) : wrap64 (2 ^ o.toNat) = pw o := by
  have h1 := pw_pos o
  have h2 := pw_le h.2
  show wrap64 (pw o) = pw o
  unfold wrap64; omega
theorem size_any (o : Int) (w : World) (h : 0 ≤ o ∧ o ≤ 10) : Calls Tryz.prog 86 #[.int .i64 o] w fun e w' => e = .returned (.int .i64 (pw o)) ∧ w' = w := by
  have hw := pw_wrap h
  have hb1 := pw_pos o
  have hb2 := pw_le h.2
  generalize pw o = p at *
  go_enter Tryz.func86, Tryz.ntmps86
  go_wp2_with fail
  go_ret
  exact ⟨ret_int hw, rfl⟩
theorem refSize_any (o : Int) (w : World) (h : 0 ≤ o ∧ o ≤ 10) : Calls Tryz.prog 23 #[.int .i64 o] w fun e w' => e = .returned (.int .i64 (pw o)) ∧ w' = w := by
  have hw := pw_wrap h
  have hb1 := pw_pos o
  have hb2 := pw_le h.2
  generalize pw o = p at *
  go_enter Tryz.func23, Tryz.ntmps23
  go_wp2_with fail
  go_ret
  exact ⟨ret_int hw, rfl⟩
theorem refOrd_any (o : Int) (w : World) : Calls Tryz.prog 134 #[.int .i64 o] w fun e w' => e = .returned (.bool (isOrd o)) ∧ w' = w := by
  have hE := Lib.hid (show isOrd o = (decide (0 ≤ o) && decide (o ≤ 10)) from rfl)
  generalize isOrd o = R at *
  by_cases h1 : 0 ≤ o
  · have h1' : decide (0 ≤ o) = true := by simpa using h1
    rw [h1'] at hE
    clear h1
    go_enter Tryz.func134, Tryz.ntmps134
    go_wp2_with fail
    go_ret
    exact ⟨ret_bool (by rw [hE.out]; simp), rfl⟩
  · have h1' : decide (0 ≤ o) = false := by simpa using h1
    rw [h1'] at hE
    clear h1
    go_enter Tryz.func134, Tryz.ntmps134
    go_wp2_with fail
    go_ret
    exact ⟨ret_bool (by rw [hE.out]; simp), rfl⟩
/-- a place of a block, with bounds -/
def okPl (x : B3) : Prop := (-100000 ≤ x.1 ∧ x.1 ≤ 100000) ∧ 0 ≤ x.2.1 ∧ x.2.1 ≤ 10
theorem end_anyV (x : B3) (w : World) (h : okPl x) : Calls Tryz.prog 195 #[bV x] w fun e w' => e = .returned (.int .i64 (x.1 + pw x.2.1)) ∧ Below w.heap.size w w' := by
  obtain ⟨a, o, c⟩ := x
  obtain ⟨ha, ho⟩ := h
  simp only at ha ho ⊢
  have HS := Lib.hid (fun W => size_any o W ho)
  have hb1 := pw_pos o
  have hb2 := pw_le ho.2
  generalize pw o = p at *
  have hb0 := (Below.refl w.heap.size w).alloc (Nat.le_refl _) (.cells #[.int .i64 a, .int .i64 o, .bool c] 65)
  have k0 := Blk.new w 65 #[.int .i64 a, .int .i64 o, .bool c]
  have q0 := fun z : Ext (w.alloc (.cells #[.int .i64 a, .int .i64 o, .bool c] 65)) => (z.blk k0).cell
  have G := Lib.hid (fun z : Ext (w.alloc (.cells #[.int .i64 a, .int .i64 o, .bool c] 65)) => Ext.call (x := z) ((HS.out z.w).mono (fun e w' h => ⟨h.1, by rw [h.2]; exact Below.refl _ _⟩)))
  go_enter Tryz.func195, Tryz.ntmps195
  go_upto_region 1 with fail
  refine region_ext (by kernel_rfl) (by kernel_rfl) ?_
  repeat (go_big_quiet_step ((go_at_call 86; exact G.out _)))
  refine wpQuiet_nil ?_
  rintro w1 ⟨⟨_, hw1⟩, rfl⟩
  go_wp2_with fail
  go_ret
  exact ⟨rfl, hb0.trans (hw1.mono hb0.size)⟩

set_option maxRecDepth 100000 in
theorem over_any (x y : B3) (w : World) (hx : okPl x) (hy : okPl y) : Calls Tryz.prog 74 #[bV x, bV y] w fun e w' => e = .returned (.bool (overB x y)) ∧ Below w.heap.size w w' := by
  have hE := Lib.hid (show overB x y = (decide (x.1 < y.1 + pw y.2.1) && decide (y.1 < x.1 + pw x.2.1)) from rfl)
  generalize overB x y = R at *
  obtain ⟨a, o, c⟩ := x
  obtain ⟨a2, o2, c2⟩ := y
  obtain ⟨ha, ho⟩ := hx
  obtain ⟨ha2, ho2⟩ := hy
  simp only at ha ho ha2 ho2 hE ⊢
  have HS := Lib.hid (fun W => refSize_any o W ho)
  have HS2 := Lib.hid (fun W => refSize_any o2 W ho2)
  have hb1 := pw_pos o
  have hb2 := pw_le ho.2
  have hb3 := pw_pos o2
  have hb4 := pw_le ho2.2
  generalize pw o = p at *
  generalize pw o2 = p2 at *
  obtain ⟨wB, hwB⟩ : ∃ wB, (w.alloc (.cells #[.int .i64 a, .int .i64 o, .bool c] 65)).alloc (.cells #[.int .i64 a2, .int .i64 o2, .bool c2] 65) = wB := ⟨_, rfl⟩
  have hb0 := ((Below.refl w.heap.size w).alloc (Nat.le_refl _) (.cells #[.int .i64 a, .int .i64 o, .bool c] 65)).alloc (by simp) (.cells #[.int .i64 a2, .int .i64 o2, .bool c2] 65)
  have k0 := (Blk.new w 65 #[.int .i64 a, .int .i64 o, .bool c]).alloc (.cells #[.int .i64 a2, .int .i64 o2, .bool c2] 65)
  have k1 := Blk.new (w.alloc (.cells #[.int .i64 a, .int .i64 o, .bool c] 65)) 65 #[.int .i64 a2, .int .i64 o2, .bool c2]
  rw [World.size_alloc] at k1
  rw [hwB] at hb0 k0 k1
  have q0 := fun z : Ext wB => (z.blk k0).cell
  have q1 := fun z : Ext wB => (z.blk k1).cell
  have G := Lib.hid (fun z : Ext wB => Ext.call (x := z) ((HS.out z.w).mono (fun e w' h => ⟨h.1, by rw [h.2]; exact Below.refl _ _⟩)))
  have G2 := Lib.hid (fun z : Ext wB => Ext.call (x := z) ((HS2.out z.w).mono (fun e w' h => ⟨h.1, by rw [h.2]; exact Below.refl _ _⟩)))
  have hwB' := Lib.hid hwB
  by_cases h1 : a < a2 + p2
  · have h1' : decide (a < a2 + p2) = true := by simpa using h1
    rw [h1'] at hE
    clear h1
    go_enter Tryz.func74, Tryz.ntmps74
    go_upto_region 1 with fail
    try rw [hwB]
    refine region_ext (by kernel_rfl) (by kernel_rfl) ?_
    repeat (go_big_quiet_step ((go_at_call 23; first | exact G.out _ | exact G2.out _)))
    refine wpQuiet_nil ?_
    rintro w1 ⟨⟨_, hw1⟩, rfl⟩
    go_wp2_with fail
    go_ret
    exact ⟨ret_bool (by rw [hE.out]; simp), hb0.trans (hw1.mono hb0.size)⟩
  · have h1' : decide (a < a2 + p2) = false := by simpa using h1
    rw [h1'] at hE
    clear h1
    go_enter Tryz.func74, Tryz.ntmps74
    go_upto_region 1 with fail
    try rw [hwB]
    refine region_ext (by kernel_rfl) (by kernel_rfl) ?_
    repeat (go_big_quiet_step ((go_at_call 23; first | exact G.out _ | exact G2.out _)))
    refine wpQuiet_nil ?_
    rintro w1 ⟨⟨_, hw1⟩, rfl⟩
    go_wp2_with fail
    go_ret
    exact ⟨ret_bool (by rw [hE.out]; simp), hb0.trans (hw1.mono hb0.size)⟩

theorem and_mask (page o : Int) (hp : 0 ≤ page) (ho : o ≤ 10) : bits .and .i64 page (pw o - 1) = page % pw o := by
  obtain ⟨a, rfl⟩ := Int.eq_ofNat_of_zero_le hp
  have h1 : pw o = ((2 ^ o.toNat : Nat) : Int) := by simp [pw]
  obtain ⟨i, hi⟩ : ∃ i, o.toNat = i := ⟨_, rfl⟩
  have hi10 : i ≤ 10 := by omega
  rw [h1, hi]
  have hpos : 0 < 2 ^ i := Nat.two_pow_pos i
  have h1024 : 2 ^ i ≤ 1024 := Nat.pow_le_pow_right (by decide) hi10
  have hc : (((2 ^ i : Nat) : Int) - 1) = ((2 ^ i - 1 : Nat) : Int) := by rw [Int.natCast_sub hpos]; simp
  rw [hc]
  simp only [bits, BitVec.ofInt_natCast, BitVec.toNat_and, BitVec.toNat_ofNat]
  rw [Nat.mod_eq_of_lt (a := 2 ^ i - 1) (by show _ < 2 ^ 64; omega), Nat.and_two_pow_sub_one_eq_mod]
  have hd : (2 ^ i) ∣ 2 ^ IntKind.i64.bits := Nat.pow_dvd_pow 2 (by show i ≤ 64; omega)
  rw [Nat.mod_mod_of_dvd _ hd]
  have := Nat.mod_lt a hpos
  rw [show ((a : Int) % ((2 ^ i : Nat) : Int)) = ((a % 2 ^ i : Nat) : Int) from rfl, IntKind.wrap_i64]
  omega
theorem wrong_anyV (pages page o : Int) (w : World) (hp : -100000 ≤ pages ∧ pages ≤ 100000) : Calls Tryz.prog 191 #[.int .i64 pages, .int .i64 page, .int .i64 o] w fun e w' => e = .returned (.bool (!insB pages page o)) ∧ w' = w := by
  have hE := Lib.hid (show insB pages page o = (isOrd o && (decide (0 ≤ page) && (decide (page % pw o = 0) && decide (page ≤ pages - pw o)))) from rfl)
  generalize insB pages page o = R at *
  by_cases ho : 0 ≤ o ∧ o ≤ 10
  · have h1 : decide (o < 0) = false := by simp; omega
    have h2 : decide (10 < o) = false := by simp; omega
    have hO : isOrd o = true := isOrd_iff.2 ho
    rw [hO] at hE
    by_cases hpg : 0 ≤ page
    · have h3 : decide (page < 0) = false := by simp; omega
      have h3' : decide (0 ≤ page) = true := by simpa using hpg
      rw [h3'] at hE
      have HS := Lib.hid (fun W => size_any o W ho)
      have hb1 := pw_pos o
      have hb2 := pw_le ho.2
      have hm := and_mask page o hpg ho.2
      generalize pw o = p at *
      by_cases hz : page % p = 0
      · have hz' : decide (page % p = 0) = true := by simpa using hz
        rw [hz'] at hE
        rw [hz] at hm
        have hm' : (bits .and .i64 page (p - 1) != 0) = false := by rw [hm]; rfl
        clear hm hz hz'
        go_enter Tryz.func191, Tryz.ntmps191
        go_wp2_with (go_at_call 86; refine (HS.out _).mono ?_; rintro e w1 ⟨rfl, rfl⟩)
        go_ret
        have hlast : decide (pages - p < page) = !decide (page ≤ pages - p) := by
          by_cases q : page ≤ pages - p
          · have : ¬ (pages - p < page) := by omega
            simp [q, this]
          · have : pages - p < page := by omega
            simp [q, this]
        exact ⟨ret_bool (by rw [hE.out]; simpa using hlast), rfl⟩
      · have hz' : decide (page % p = 0) = false := by simpa using hz
        rw [hz'] at hE
        have hm' : (bits .and .i64 page (p - 1) != 0) = true := by rw [hm]; simpa using hz
        clear hm hz hz'
        go_enter Tryz.func191, Tryz.ntmps191
        go_wp2_with (go_at_call 86; refine (HS.out _).mono ?_; rintro e w1 ⟨rfl, rfl⟩)
        go_ret
        exact ⟨ret_bool (by rw [hE.out]; simp), rfl⟩
    · have h3 : decide (page < 0) = true := by simp; omega
      have h3' : decide (0 ≤ page) = false := by simpa using hpg
      rw [h3'] at hE
      clear hpg
      go_enter Tryz.func191, Tryz.ntmps191
      go_wp2_with fail
      go_ret
      exact ⟨ret_bool (by rw [hE.out]; simp), rfl⟩
  · have hO : isOrd o = false := by cases h : isOrd o with | false => rfl | true => exact absurd (isOrd_iff.1 h) ho
    rw [hO] at hE
    by_cases h1 : o < 0
    · have h1' : decide (o < 0) = true := by simpa using h1
      clear h1 ho hO
      go_enter Tryz.func191, Tryz.ntmps191
      go_wp2_with fail
      go_ret
      exact ⟨ret_bool (by rw [hE.out]; simp), rfl⟩
    · have h1' : decide (o < 0) = false := by simpa using h1
      have h2' : decide (10 < o) = true := by simp; omega
      clear h1 ho hO
      go_enter Tryz.func191, Tryz.ntmps191
      go_wp2_with fail
      go_ret
      exact ⟨ret_bool (by rw [hE.out]; simp), rfl⟩
theorem refIns_any (pages page o : Int) (w : World) (hp : -100000 ≤ pages ∧ pages ≤ 100000) : Calls Tryz.prog 73 #[.int .i64 pages, .int .i64 page, .int .i64 o] w fun e w' => e = .returned (.bool (insB pages page o)) ∧ w' = w := by
  have hE := Lib.hid (show insB pages page o = (isOrd o && (decide (0 ≤ page) && (decide (page % pw o = 0) && decide (page ≤ pages - pw o)))) from rfl)
  generalize insB pages page o = R at *
  have HO := Lib.hid (fun W => refOrd_any o W)
  by_cases ho : 0 ≤ o ∧ o ≤ 10
  · have hO : isOrd o = true := isOrd_iff.2 ho
    rw [hO] at hE HO
    have HS := Lib.hid (fun W => refSize_any o W ho)
    have hb1 := pw_pos o
    have hb2 := pw_le ho.2
    by_cases hpg : 0 ≤ page
    · have h3 : decide (0 ≤ page) = true := by simpa using hpg
      rw [h3] at hE
      have hmod : page.tmod (pw o) = page % pw o := Int.tmod_eq_emod_of_nonneg hpg
      generalize pw o = p at *
      have hp0 : ¬ p = 0 := by omega
      by_cases hz : page % p = 0
      · have hz' : decide (page % p = 0) = true := by simpa using hz
        rw [hz'] at hE
        have hz2 : (page % p == 0) = true := by simpa using hz
        clear hz hz'
        go_enter Tryz.func73, Tryz.ntmps73
        go_wp2_with (first | (go_at_call 23; refine (HS.out _).mono ?_; rintro e w1 ⟨rfl, rfl⟩) | (go_at_call 134; refine (HO.out _).mono ?_; rintro e w1 ⟨rfl, rfl⟩))
        go_ret
        exact ⟨ret_bool (by rw [hE.out]; simp), rfl⟩
      · have hz' : decide (page % p = 0) = false := by simpa using hz
        rw [hz'] at hE
        have hz2 : (page % p == 0) = false := by simpa using hz
        clear hz hz'
        go_enter Tryz.func73, Tryz.ntmps73
        go_wp2_with (first | (go_at_call 23; refine (HS.out _).mono ?_; rintro e w1 ⟨rfl, rfl⟩) | (go_at_call 134; refine (HO.out _).mono ?_; rintro e w1 ⟨rfl, rfl⟩))
        go_ret
        exact ⟨ret_bool (by rw [hE.out]; simp), rfl⟩
    · have h3 : decide (0 ≤ page) = false := by simpa using hpg
      rw [h3] at hE
      clear hpg
      go_enter Tryz.func73, Tryz.ntmps73
      go_wp2_with (go_at_call 134; refine (HO.out _).mono ?_; rintro e w1 ⟨rfl, rfl⟩)
      go_ret
      exact ⟨ret_bool (by rw [hE.out]; simp), rfl⟩
  · have hO : isOrd o = false := by cases h : isOrd o with | false => rfl | true => exact absurd (isOrd_iff.1 h) ho
    rw [hO] at hE HO
    clear ho hO
    go_enter Tryz.func73, Tryz.ntmps73
    go_wp2_with (go_at_call 134; refine (HO.out _).mono ?_; rintro e w1 ⟨rfl, rfl⟩)
    go_ret
    exact ⟨ret_bool (by rw [hE.out]; simp), rfl⟩

theorem check1_any (B : Nat) (pages : Int) (x : B3) (w : World) (hp : -100000 ≤ pages ∧ pages ≤ 100000) (kB : Blk w B 3 #[.int .i64 pages]) :
    Calls Tryz.prog 190 #[bV x, .pointer (some ⟨B, 0, none⟩)] w fun e w' => e = .returned (.bool (!insB pages x.1 x.2.1)) ∧ Below w.heap.size w w' := by
  obtain ⟨a, o, c⟩ := x
  simp only
  have HW := Lib.hid (fun W => wrong_anyV pages a o W hp)
  generalize insB pages a o = R at *
  have c0 := kB.cell
  have hb0 := (Below.refl w.heap.size w).alloc (Nat.le_refl _) (.cells #[.int .i64 a, .int .i64 o, .bool c] 65)
  have hl := kB.lt
  go_enter Tryz.func190, Tryz.ntmps190
  go_wp2_with (go_at_call 191; refine (HW.out _).mono ?_; rintro e w1 ⟨rfl, rfl⟩)
  go_ret
  exact ⟨rfl, hb0⟩
/-- is that a number of pages of an address space? (the reference) -/
theorem refSpace_any (pages : Int) (w : World) : Calls Tryz.prog 72 #[.int .i64 pages] w fun e w' => e = .returned (.bool (spaceB pages)) ∧ w' = w := by
  have hE := Lib.hid (spaceB_iff (pages := pages))
  generalize spaceB pages = R at *
  go_enter Tryz.func72, Tryz.ntmps72
  go_wp2_with fail
  go_loopw [3] (fun i wr => ∃ k : Nat, k ≤ 11 ∧ i = .int .i64 k ∧ wr = w ∧ Hid (∀ o : Nat, o < k → pages ≠ pw (o : Int))) (fun i _ => 11 - (intOf i).toNat)
  case atStart => exact ⟨0, by omega, rfl, rfl, Lib.hid (by omega)⟩
  case round =>
    obtain ⟨k, hk, rfl, hw, hL⟩ := hrel
    have hw' := hw.symm
    clear hw
    subst hw'
    by_cases hlt : k < 11
    · have hlt' : decide ((k : Int) ≤ 10) = true := by simp; omega
      have HS := Lib.hid (fun W => refSize_any (k : Int) W (by omega))
      obtain ⟨p, hp⟩ : ∃ p, pw (k : Int) = p := ⟨_, rfl⟩
      rw [hp] at HS
      have hp' := Lib.hid hp
      clear hp
      by_cases he : pages = p
      · have he' : (pages == p) = true := by simpa using he
        have hR : Hid (R = true) := Lib.hid (hE.out.2 ⟨k, by omega, by rw [hp'.out]; exact he⟩)
        clear he hE
        go_wp2_with (go_at_call 23; refine (HS.out _).mono ?_; rintro e wr ⟨rfl, rfl⟩)
        go_ret
        exact ⟨ret_bool hR.out.symm, rfl⟩
      · have he' : (pages == p) = false := by simpa using he
        have hL2 : Hid (∀ o : Nat, o < k + 1 → pages ≠ pw (o : Int)) := Lib.hid (fun o ho => by
          by_cases h : o = k
          · subst h; rw [hp'.out]; exact he
          · exact hL.out o (by omega))
        clear he
        go_wp2_with (go_at_call 23; refine (HS.out _).mono ?_; rintro e wr ⟨rfl, rfl⟩)
        go_roundw
        case rel => exact ⟨k + 1, by omega, by go_num, by first | rfl | trivial, hL2⟩
        case measure => simp [intOf]; omega
    · obtain rfl : k = 11 := by omega
      have hR : Hid (R = false) := Lib.hid (by
        cases h : R with
        | false => rfl
        | true => obtain ⟨o, ho, e⟩ := hE.out.1 h; exact absurd e (hL.out o (by omega)))
      clear hE
      go_wp2_with fail
      go_ret
      exact ⟨ret_bool hR.out.symm, rfl⟩
end Go.Proofs.YtpabnbhbcphfiaaGreat
namespace Go.Pol
theorem any_false_iff {α : Type} {p : α → Bool} {l : List α} : l.any p = false ↔ ∀ x ∈ l, p x = false := by
  induction l with
  | nil => simp
  | cons a r ih => simp [ih]
theorem getD_memB {bs : List B3} {k : Nat} (h : k < bs.length) : bs.getD k b0 ∈ bs := by
  rw [List.getD_eq_getElem?_getD, List.getElem?_eq_getElem h]; simp
theorem all_getD {bs : List B3} {p : B3 → Prop} : (∀ x ∈ bs, p x) ↔ ∀ k, k < bs.length → p (bs.getD k b0) :=
  ⟨fun h k hk => h _ (getD_memB hk), fun h x hx => by
    obtain ⟨i, hi, rfl⟩ := List.getElem_of_mem hx
    have := h i hi
    simpa [List.getD_eq_getElem?_getD, hi] using this⟩
end Go.Pol
namespace Go.Proofs.YtpabnbhbcphfiaaGreat
open Go Go.Proofs Go.RowKit Go.Pol
theorem ins_okPl {pages : Int} {x : B3} (hp : pages ≤ 1024) (h : insB pages x.1 x.2.1 = true) : okPl x := by
  have h' := insB_iff.1 h
  have := pw_pos x.2.1
  exact ⟨⟨by omega, by omega⟩, h'.1.1, h'.1.2⟩

set_option maxRecDepth 100000 in
set_option maxHeartbeats 1600000 in
theorem refCheck_any (pages : Int) (A : Option Addr) (n cap : Nat) (bs : List B3) (w : World) (hn : bs.length = n) (hm : n ≤ maxLen) (hr : RT w w.heap.size A bs) :
    Calls Tryz.prog 20 #[.int .i64 pages, .slice A n cap] w fun e w' => e = .returned (.int .i64 (chkB pages bs)) ∧ Below w.heap.size w w' := by
  unfold maxLen at hm
  have HS := Lib.hid (fun W => refSpace_any pages W)
  have hE := Lib.hid (show chkB pages bs = if spaceB pages = false then 2 else if 64 < bs.length then 3 else if bs.any (fun b => !insB pages b.1 b.2.1) = true then 7 else if clash bs = true then 8 else 0 from rfl)
  have hsp : Hid (spaceB pages = true → 1 ≤ pages ∧ pages ≤ 1024) := Lib.hid (fun h => spaceB_bound h)
  generalize chkB pages bs = R at *
  have hn' := Lib.hid hn
  cases hs : spaceB pages with
  | false =>
    rw [hs] at HS
    have hR : Hid (R = 2) := Lib.hid (by rw [hE.out, if_pos hs])
    clear hE hs hsp hn
    go_enter Tryz.func20, Tryz.ntmps20
    go_wp2_with (go_at_call 72; refine (HS.out _).mono ?_; rintro e w ⟨rfl, rfl⟩)
    go_ret
    exact ⟨ret_int hR.out.symm, Below.refl _ _⟩
  | true =>
    rw [hs] at HS
    have hpb := hsp.out hs
    have hE2 : Hid (R = if 64 < n then 3 else if bs.any (fun b => !insB pages b.1 b.2.1) = true then 7 else if clash bs = true then 8 else 0) := Lib.hid (by rw [hE.out, if_neg (by simp [hs]), hn])
    clear hE hs hsp hn
    by_cases h64 : 64 < n
    · have h64' : decide ((64 : Int) < (n : Int)) = true := by simp; omega
      have hR : Hid (R = 3) := Lib.hid (by rw [hE2.out, if_pos h64])
      clear hE2 h64
      go_enter Tryz.func20, Tryz.ntmps20
      go_wp2_with (go_at_call 72; refine (HS.out _).mono ?_; rintro e w ⟨rfl, rfl⟩)
      go_ret
      exact ⟨ret_int hR.out.symm, Below.refl _ _⟩
    · have h64' : decide ((64 : Int) < (n : Int)) = false := by simp; omega
      have hE : Hid (R = if bs.any (fun b => !insB pages b.1 b.2.1) = true then 7 else if clash bs = true then 8 else 0) := Lib.hid (by rw [hE2.out, if_neg h64])
      clear hE2
      go_enter Tryz.func20, Tryz.ntmps20
      go_wp2_with (go_at_call 72; refine (HS.out _).mono ?_; rintro e w ⟨rfl, rfl⟩)
      clear HS h64'
      go_loopw [5] (fun i wr => ∃ k : Nat, k ≤ n ∧ i = .int .i64 k ∧ Below w.heap.size w wr ∧ Hid (∀ i, i < k → insB pages (bs.getD i b0).1 (bs.getD i b0).2.1 = true)) (fun i _ => n - (intOf i).toNat)
      case atStart => exact ⟨0, by omega, rfl, Below.refl _ _, Lib.hid (by omega)⟩
      case round =>
        obtain ⟨k, hk, rfl, hB, hL⟩ := hrel
        by_cases hlt : k < n
        · have hlt' : decide ((k : Int) < (n : Int)) = true := by simpa using hlt
          obtain ⟨b, o, rfl, _, c1, c2, _⟩ := ((hr.below hB).more hB.size).at_ (k := k) (by have := hn'.out; omega)
          have HI := Lib.hid (fun W => refIns_any pages (bs.getD k b0).1 (bs.getD k b0).2.1 W (by omega))
          obtain ⟨I, hI⟩ : ∃ I, insB pages (bs.getD k b0).1 (bs.getD k b0).2.1 = I := ⟨_, rfl⟩
          rw [hI] at HI
          have hI' := Lib.hid hI
          clear hI
          have q1 := fun z : Ext wr => z.cell c1
          have q2 := fun z : Ext wr => z.cell c2
          obtain ⟨x1, hx1⟩ : ∃ x1, (bs.getD k b0).1 = x1 := ⟨_, rfl⟩
          obtain ⟨x2, hx2⟩ : ∃ x2, (bs.getD k b0).2.1 = x2 := ⟨_, rfl⟩
          rw [hx1] at q1 HI c1
          rw [hx2] at q2 HI c2
          clear hx1 hx2
          have G := Lib.hid (fun z : Ext wr => Ext.call (x := z) ((HI.out z.w).mono (fun e w' h => ⟨h.1, by rw [h.2]; exact Below.refl _ _⟩)))
          cases I with
          | false =>
            have hR : Hid (R = 7) := Lib.hid (by
              rw [hE.out, if_pos (List.any_eq_true.2 ⟨_, getD_memB (k := k) (by have := hn'.out; omega), by rw [hI'.out]; rfl⟩)])
            clear hE hL
            go_upto_region 8 with fail
            refine region_ext (by kernel_rfl) (by kernel_rfl) ?_
            repeat (go_big_quiet_step ((go_at_call 73; exact G.out _)))
            refine wpQuiet_nil ?_
            rintro w1 ⟨⟨_, hw1⟩, rfl⟩
            go_wp2_with fail
            go_ret
            exact ⟨ret_int hR.out.symm, hB.trans (hw1.mono hB.size)⟩
          | true =>
            have hL2 : Hid (∀ i, i < k + 1 → insB pages (bs.getD i b0).1 (bs.getD i b0).2.1 = true) := Lib.hid (fun i hi => by
              by_cases h : i = k
              · subst h; exact hI'.out
              · exact hL.out i (by omega))
            clear hL
            go_upto_region 8 with fail
            refine region_ext (by kernel_rfl) (by kernel_rfl) ?_
            repeat (go_big_quiet_step ((go_at_call 73; exact G.out _)))
            refine wpQuiet_nil ?_
            rintro w1 ⟨⟨_, hw1⟩, rfl⟩
            go_wp2_with fail
            go_roundw
            case rel => exact ⟨k + 1, by omega, by go_num, hB.trans (hw1.mono hB.size), hL2⟩
            case measure => simp [intOf]; omega
        · obtain rfl : k = n := by omega
          have hlt' : decide ((k : Int) < (k : Int)) = false := by simp
          have hins : Hid (∀ i, i < k → okPl (bs.getD i b0)) := Lib.hid (fun i hi => ins_okPl hpb.2 (hL.out i hi))
          have hE3 : Hid (R = if clash bs = true then 8 else 0) := Lib.hid (by
            rw [hE.out, if_neg]
            rw [Bool.not_eq_true, any_false_iff, all_getD (p := fun b => (!insB pages b.1 b.2.1) = false)]
            intro i hi
            rw [hL.out i (by have := hn'.out; omega)]; rfl)
          clear hE hL
          go_wp2_with fail
          go_loopw [6] (fun i wr2 => ∃ j : Nat, j ≤ k ∧ i = .int .i64 j ∧ Below w.heap.size w wr2 ∧ Hid (∀ i m, i < j → m < i → overB (bs.getD i b0) (bs.getD m b0) = false)) (fun i _ => k - (intOf i).toNat)
          case atStart => exact ⟨0, by omega, rfl, hB, Lib.hid (by omega)⟩
          case round =>
            obtain ⟨j, hj, rfl, hB2, hL2⟩ := hrel
            by_cases hlt2 : j < k
            · have hlt2' : decide ((j : Int) < (k : Int)) = true := by simpa using hlt2
              go_wp2_with fail
              go_loopw [7] (fun i wr3 => ∃ m : Nat, m ≤ j ∧ i = .int .i64 m ∧ Below w.heap.size w wr3 ∧ Hid (∀ m', m' < m → overB (bs.getD j b0) (bs.getD m' b0) = false)) (fun i _ => j - (intOf i).toNat)
              case atStart => exact ⟨0, by omega, rfl, hB2, Lib.hid (by omega)⟩
              case round =>
                obtain ⟨m, hm2, rfl, hB3, hL3⟩ := hrel
                by_cases hlt3 : m < j
                · have hlt3' : decide ((m : Int) < (j : Int)) = true := by simpa using hlt3
                  have hrr := (hr.below hB3).more hB3.size
                  obtain ⟨b, o, rfl, _, c1, c2, c3⟩ := hrr.at_ (k := j) (by have := hn'.out; omega)
                  obtain ⟨b', o', e', _, d1, d2, d3⟩ := hrr.at_ (k := m) (by have := hn'.out; omega)
                  cases e'
                  have ok1 := hins.out j (by omega)
                  have ok2 := hins.out m (by omega)
                  have HO := Lib.hid (fun W => over_any (bs.getD j b0) (bs.getD m b0) W ok1 ok2)
                  obtain ⟨I, hI⟩ : ∃ I, overB (bs.getD j b0) (bs.getD m b0) = I := ⟨_, rfl⟩
                  rw [hI] at HO
                  have hI' := Lib.hid hI
                  clear hI ok1 ok2
                  obtain ⟨x, hx⟩ : ∃ x, bs.getD j b0 = x := ⟨_, rfl⟩
                  obtain ⟨y, hy⟩ : ∃ y, bs.getD m b0 = y := ⟨_, rfl⟩
                  rw [hx] at c1 c2 c3 HO
                  rw [hy] at d1 d2 d3 HO
                  clear hx hy
                  obtain ⟨xa, xo, xc⟩ := x
                  obtain ⟨ya, yo, yc⟩ := y
                  simp only at c1 c2 c3 d1 d2 d3 HO
                  have q1 := fun z : Ext wr => z.cell c1
                  have q2 := fun z : Ext wr => z.cell c2
                  have q3 := fun z : Ext wr => z.cell c3
                  have q4 := fun z : Ext wr => z.cell d1
                  have q5 := fun z : Ext wr => z.cell d2
                  have q6 := fun z : Ext wr => z.cell d3
                  have G := Lib.hid (fun z : Ext wr => Ext.call (x := z) (HO.out z.w))
                  cases I with
                  | true =>
                    have hR : Hid (R = 8) := Lib.hid (by rw [hE3.out, if_pos (clash_iff.2 ⟨j, m, by have := hn'.out; omega, hlt3, hI'.out⟩)])
                    clear hE3 hL3 hL2
                    go_upto_region 16 with fail
                    refine region_ext (by kernel_rfl) (by kernel_rfl) ?_
                    repeat (go_big_quiet_step ((go_at_call 74; exact G.out _)))
                    refine wpQuiet_nil ?_
                    rintro w1 ⟨⟨_, hw1⟩, rfl⟩
                    go_wp2_with fail
                    go_ret
                    exact ⟨ret_int hR.out.symm, hB3.trans (hw1.mono hB3.size)⟩
                  | false =>
                    have hL4 : Hid (∀ m', m' < m + 1 → overB (bs.getD j b0) (bs.getD m' b0) = false) := Lib.hid (fun m' hm' => by
                      by_cases h : m' = m
                      · subst h; exact hI'.out
                      · exact hL3.out m' (by omega))
                    clear hL3
                    go_upto_region 16 with fail
                    refine region_ext (by kernel_rfl) (by kernel_rfl) ?_
                    repeat (go_big_quiet_step ((go_at_call 74; exact G.out _)))
                    refine wpQuiet_nil ?_
                    rintro w1 ⟨⟨_, hw1⟩, rfl⟩
                    go_wp2_with fail
                    go_roundw
                    case rel => exact ⟨m + 1, by omega, by go_num, hB3.trans (hw1.mono hB3.size), hL4⟩
                    case measure => simp [intOf]; omega
                · obtain rfl : m = j := by omega
                  have hlt3' : decide ((m : Int) < (m : Int)) = false := by simp
                  have hL4 : Hid (∀ i m', i < m + 1 → m' < i → overB (bs.getD i b0) (bs.getD m' b0) = false) := Lib.hid (fun i m' hi hm' => by
                    by_cases h : i = m
                    · subst h; exact hL3.out m' hm'
                    · exact hL2.out i m' (by omega) hm')
                  clear hL2 hL3
                  go_wp2_with fail
                  go_roundw
                  case rel => exact ⟨m + 1, by omega, by go_num, hB3, hL4⟩
                  case measure => simp [intOf]; omega
            · obtain rfl : j = k := by omega
              have hlt2' : decide ((j : Int) < (j : Int)) = false := by simp
              have hR : Hid (R = 0) := Lib.hid (by
                rw [hE3.out, if_neg]
                intro hc
                obtain ⟨i, m, h1, h2, h3⟩ := clash_iff.1 hc
                rw [hL2.out i m (by have := hn'.out; omega) h2] at h3
                cases h3)
              clear hE3 hL2
              go_wp2_with fail
              go_ret
              exact ⟨ret_int hR.out.symm, hB2⟩
end Go.Proofs.YtpabnbhbcphfiaaGreat
namespace Go.Pol
open Go Go.RowKit

/-- the contract of a function value that is ranged over, and that makes blocks of its own (X): it goes through just 'xs' -/
def SeqX {α : Type} (P : Program) (g : Nat) (lb : Array Value) (encs : α → Array Value) (T K : Nat → Prop) (xs : List α) (w : World) : Prop :=
  ∀ (n l : Nat) (J Jx : (Nat → Prop) → List α → World → Prop) (W : World), Far (fun k => ¬ K k) w W →
    (∀ X pre A B, J X pre A → Far (fun k => T k ∨ X k) A B → J X pre B) → (∀ X pre A B, Jx X pre A → Far (fun k => T k ∨ X k) A B → Jx X pre B) →
    (∀ X X' pre A, J X pre A → (∀ k, X' k → X k ∨ A.heap.size ≤ k) → J X' pre A) →
    (∀ m X pre x W1, J X pre W1 → (∀ k, X k → k < W1.heap.size) → pre ++ [x] <+: xs → YieldAt Fence.wide m P l (encs x) W1 fun e W' =>
      (e = .returned (.bool true) ∧ J X (pre ++ [x]) W' ∧ Far (fun k => ¬ (K k ∨ X k)) W1 W') ∨ (e = .returned (.bool false) ∧ Jx X (pre ++ [x]) W')) →
    J (fun _ => False) [] W →
    CallsIn Fence.wide n P g (#[.func (.yield l) #[] #[]] ++ lb) W fun e W' => (∃ v, e = .returned v) ∧ ((∃ X, J X xs W') ∨ ∃ X pre, pre <+: xs ∧ Jx X pre W')

theorem SeqX.later {α : Type} {P : Program} {g : Nat} {lb : Array Value} {encs : α → Array Value} {T K : Nat → Prop} {xs : List α} {w w' : World}
    (h : SeqX P g lb encs T K xs w) (hw : Far (fun k => ¬ K k) w w') : SeqX P g lb encs T K xs w' :=
  fun n l J Jx W hW => h n l J Jx W (hw.trans hW)
/-- how a round's body may be left -/
def xPost {α : Type} (D : Nat) (K X : Nat → Prop) (I : (Nat → Prop) → List α → World → Prop) (Ix : Code → (Nat → Prop) → List α → World → Prop) (xs : List α) (W : World) : Exit → Act → World → Prop
  | .normal, _, W' => Far (fun k => ¬ (K k ∨ X k ∨ k = D ∨ k = D + 1)) W W' ∧ I X xs W'
  | .ret, _, W' => Far (fun k => ¬ (k = D ∨ k = D + 1)) W W' ∧ Ix .ret X xs W'
  | .exit id, _, W' => Far (fun k => ¬ (k = D ∨ k = D + 1)) W W' ∧ Ix (.exit id) X xs W'
  | .goto t, _, W' => Far (fun k => ¬ (k = D ∨ k = D + 1)) W W' ∧ Ix (.goto t) X xs W'
  | .panic _, _, _ => False
  | .outgrown, _, _ => False

theorem rangeX {α : Type} {P : Program} {g : Operand} {ps : Array Tmp} {assign body : Code} {Q : Exit → Act → World → Prop} {a : Act} {w : World}
    {gf : Nat} {lb : Array Value} (hg : a.eval g = .func (.func gf) #[] lb) (eg : ∀ args w, (callFunc gf args).run P w = .ok (.enter gf args) w)
    {encs : α → Array Value} {T K : Nat → Prop} {xs : List α} (hseq : SeqX P gf lb encs T K xs w) (hps : ∀ x, (encs x).size = ps.size)
    (hT : ∀ k, T k → k < w.heap.size) (hK : ∀ k, K k → k < w.heap.size)
    (I : (Nat → Prop) → List α → World → Prop) (Ix : Code → (Nat → Prop) → List α → World → Prop)
    (hI : ∀ X pre A B, I X pre A → Far (fun k => T k ∨ X k ∨ k = w.heap.size ∨ k = w.heap.size + 1) A B → I X pre B)
    (hIx : ∀ c X pre A B, Ix c X pre A → Far (fun k => T k ∨ X k ∨ k = w.heap.size ∨ k = w.heap.size + 1) A B → Ix c X pre B)
    (hnew : ∀ X X' pre A, I X pre A → (∀ k, X' k → X k ∨ A.heap.size ≤ k) → I X' pre A)
    (h0 : I (fun _ => False) [] w) (Ax : Nat → α → Act → World → Prop) (hAx : ∀ N x a' A B, Ax N x a' A → Far (fun k => k = w.heap.size + 1) A B → Ax N x a' B)
    (hassign : ∀ (m l : Nat) (x : α) (W : World) (C : Act → World → Prop), w.heap.size + 2 ≤ W.heap.size → (∀ a' W', Far (fun _ => False) W W' → Ax W.heap.size x a' W' → C a' W') →
      assign.wpIn (Fence.wide.inRound l) m P (Exit.then C (fun _ _ _ => False)) { tmps := (ps.zip (encs x)).foldl (fun t (p, v) => t.setIfInBounds p v) a.tmps, defers := [] } W)
    (hbody : ∀ (m l : Nat) (X : Nat → Prop) (pre : List α) (x : α) (a' : Act) (Wa W : World), w.heap.size + 2 ≤ W.heap.size → (∀ k, X k → k < Wa.heap.size ∧ k ≠ w.heap.size ∧ k ≠ w.heap.size + 1) → I X pre W → Ax Wa.heap.size x a' W → pre ++ [x] <+: xs → I X pre Wa → Far (fun k => k = w.heap.size + 1) Wa W →
      body.wpIn (Fence.wide.inRound l) m P (xPost w.heap.size K X I Ix (pre ++ [x]) W) a' W)
    (hdone : ∀ (X : Nat → Prop) (W : World), w.heap.size + 2 ≤ W.heap.size → I X xs W → W.heap[w.heap.size]? = some (.deferred (some [])) → Q .normal { a with defers := markOf w.heap.size :: a.defers } W)
    (hstop : ∀ (c : Code) (X : Nat → Prop) (pre : List α) (W : World), w.heap.size + 2 ≤ W.heap.size → pre <+: xs → Ix c X pre W → W.heap[w.heap.size]? = some (.deferred (some [])) → c.wp P Q { a with defers := markOf w.heap.size :: a.defers } W) :
    (Code.rangeFunc g ps assign body).wp P Q a w := by
  refine (wpIn_wide (n := 0)).1 (wpIn_rangeFunc fun fn _ => ?_)
  obtain ⟨D, hD⟩ : ∃ D, w.heap.size = D := ⟨_, rfl⟩
  -- the loop's record, in its three states
  obtain ⟨rec, hrec⟩ : ∃ rec : LoopState → Option Code → Loop, rec = fun s p => { state := s, pending := p, fn, tmps := a.tmps, params := ps, assign, body, defers := D } := ⟨_, rfl⟩
  obtain ⟨W1, hW1⟩ : ∃ W1, (w.alloc (.deferred (some []))).alloc (.loop (rec .ready none)) = W1 := ⟨_, rfl⟩
  have hent : (Instr.enterLoop fn a.tmps ps assign body none).run P w = .ok (D + 1, [markOf D]) W1 := by
    rw [← hW1, hrec, ← hD]; exact run_enterLoop_outer _ _ _ _ _
  have hfar : Far (fun _ => False) w W1 := by rw [← hW1]; exact ((Far.refl _ w).alloc _).alloc _
  have hl1 : W1.heap[D + 1]? = some (.loop (rec .ready none)) := by
    rw [← hW1, ← hD]
    have := World.alloc_heap_new (w.alloc (.deferred (some []))) (.loop (rec .ready none))
    rwa [World.size_alloc] at this
  have hd1 : W1.heap[D]? = some (.deferred (some [])) := by
    rw [← hW1, ← hD]; exact (Below.heap_alloc _ _ _ (by simp)).trans (World.alloc_heap_new w _)
  rw [hD] at hT hK hI hIx hAx hassign hbody hdone hstop
  refine ⟨D + 1, [markOf D], W1, { target := .fn (.func gf) lb, args := #[.func (.yield (D + 1)) #[] #[]] }, W1, gf, #[.func (.yield (D + 1)) #[] #[]] ++ lb, W1, hent, ?_, fun _ _ => trivial, ?_, fun h => (by cases h), ?_⟩
  · simp only [resolve, hg]
    simp [go_sem]
  · simp [invoke, go_sem, eg]
  -- what the iterator carries: the loop's invariant, the record, the block for deferred calls
  let J : (Nat → Prop) → List α → World → Prop := fun X pre W => I X pre W ∧ W.heap[D + 1]? = some (.loop (rec .ready none)) ∧ W.heap[D]? = some (.deferred (some [])) ∧ ¬ X D ∧ ¬ X (D + 1)
  let Jx : (Nat → Prop) → List α → World → Prop := fun X pre W => ∃ c, Ix c X pre W ∧ W.heap[D + 1]? = some (.loop (rec .done (some c))) ∧ W.heap[D]? = some (.deferred (some [])) ∧ ¬ X D ∧ ¬ X (D + 1)
  have hnT : ∀ k, T k → k ≠ D ∧ k ≠ D + 1 := fun k hk => by have := hT k hk; omega
  have hnK : ∀ k, K k → k ≠ D ∧ k ≠ D + 1 := fun k hk => by have := hK k hk; omega
  have up : ∀ {X : Nat → Prop} {k : Nat}, T k ∨ X k → T k ∨ X k ∨ k = D ∨ k = D + 1 := fun h => h.elim .inl (fun h => .inr (.inl h))
  refine (hseq _ (D + 1) J Jx W1 (hfar.mono (fun _ _ h => h.elim))
    (fun X pre A B h hf => ⟨hI X pre A B h.1 (hf.mono fun _ _ ht => up ht), hf.same h.2.1 (fun h' => h'.elim (fun h => (hnT _ h).2 rfl) h.2.2.2.2), hf.same h.2.2.1 (fun h' => h'.elim (fun h => (hnT _ h).1 rfl) h.2.2.2.1), h.2.2.2⟩)
    (fun X pre A B h hf => by
      obtain ⟨c, h1, h2, h3, h4, h5⟩ := h
      exact ⟨c, hIx c X pre A B h1 (hf.mono fun _ _ ht => up ht), hf.same h2 (fun h' => h'.elim (fun h => (hnT _ h).2 rfl) h5), hf.same h3 (fun h' => h'.elim (fun h => (hnT _ h).1 rfl) h4), h4, h5⟩)
    (fun X X' pre A h hX => by
      have l1 : D < A.heap.size := (Array.getElem?_eq_some_iff.1 h.2.2.1).1
      have l2 : D + 1 < A.heap.size := (Array.getElem?_eq_some_iff.1 h.2.1).1
      exact ⟨hnew X X' pre A h.1 hX, h.2.1, h.2.2.1, fun hd => (hX _ hd).elim h.2.2.2.1 (fun h => by omega), fun hd => (hX _ hd).elim h.2.2.2.2 (fun h => by omega)⟩)
    ?_ ⟨hI _ [] w W1 h0 (hfar.mono fun _ _ h => h.elim), hl1, hd1, id, id⟩).mono ?_
  · -- a round
    rintro m X pre x Wa ⟨hi, hl, hd, hXD, hXE⟩ hXlt hpre
    have hlt : D + 1 < Wa.heap.size := (Array.getElem?_eq_some_iff.1 hl).1
    have hy := run_yield (P := P) (args := encs x) hl (by rw [hrec]; exact hps x)
    rw [hrec] at hy
    refine ⟨fn, _, assign, body, hy, roundIn_of_wpIn trivial (hassign m (D + 1) x Wa _ (by omega) fun a' Wb hab hax => ?_)⟩
    have hlb := hab.same hl id
    have hdb := hab.same hd id
    have hib := hI X pre Wa Wb hi (hab.mono fun _ _ h => h.elim)
    have hltb : D + 1 < Wb.heap.size := (Array.getElem?_eq_some_iff.1 hlb).1
    refine ⟨_, run_beginRound hlb (by rw [hrec]), ?_⟩
    obtain ⟨Wc, hWc⟩ : ∃ Wc, Wb.putObj (D + 1) (.loop { rec .ready none with state := .busy }) = Wc := ⟨_, rfl⟩
    rw [hWc]
    have hbc : Far (fun k => k = D + 1) Wb Wc := by rw [← hWc]; exact Far.putObj (T := fun k => k = D + 1) (Far.refl _ Wb) (fun _ => rfl) _
    have hlc : Wc.heap[D + 1]? = some (.loop { rec .ready none with state := .busy }) := by rw [← hWc]; exact World.putObj_heap_same hltb
    have hdc : Wc.heap[D]? = some (.deferred (some [])) := hbc.same hdb (by omega)
    have hltc : D + 1 < Wc.heap.size := (Array.getElem?_eq_some_iff.1 hlc).1
    refine wpIn_mono (hbody m (D + 1) X pre x a' Wa Wc (by omega) (fun k hk => ⟨hXlt k hk, fun h => hXD (h ▸ hk), fun h => hXE (h ▸ hk)⟩) (hI X pre Wb Wc hib (hbc.mono fun _ _ h => .inr (.inr (.inr h)))) (hAx _ x a' Wb Wc hax hbc) hpre hi ((hab.mono fun _ _ h => h.elim : Far (fun k => k = D + 1) Wa Wb).trans hbc)) ?_
    -- what 'endRound' makes of it
    have fin : ∀ (j : Option Code) (Wd : World), Far (fun k => ¬ (k = D ∨ k = D + 1)) Wc Wd →
        (Instr.endRound (D + 1) j).run P Wd = .ok (.bool j.isNone) (Wd.putObj (D + 1) (.loop (rec (if j.isNone then .ready else .done) j))) ∧
        (Wd.putObj (D + 1) (.loop (rec (if j.isNone then .ready else .done) j))).heap[D + 1]? = some (.loop (rec (if j.isNone then .ready else .done) j)) ∧
        (Wd.putObj (D + 1) (.loop (rec (if j.isNone then .ready else .done) j))).heap[D]? = some (.deferred (some [])) := fun j Wd hcd => by
      have hld := hcd.same hlc (fun h => h (.inr rfl))
      have he := run_endRound (P := P) j hld
      rw [hrec] at he ⊢
      exact ⟨he, World.putObj_heap_same (Array.getElem?_eq_some_iff.1 hld).1, (World.putObj_heap_other (by omega)).trans (hcd.same hdc (fun h => h (.inl rfl)))⟩
    have back : ∀ (Y : Nat → Prop) (o : Obj) (Wd : World), Far (fun k => T k ∨ Y k ∨ k = D ∨ k = D + 1) Wd (Wd.putObj (D + 1) o) := fun Y o Wd => (Far.refl _ Wd).putObj (fun _ => .inr (.inr (.inr rfl))) o
    intro e a3 Wd hp
    cases e with
    | normal =>
      obtain ⟨hcd, hid⟩ := hp
      obtain ⟨h1, h2, h3⟩ := fin none Wd (hcd.mono fun k _ h h' => h (.inr (.inr h')))
      refine ⟨_, _, h1, .inl ⟨rfl, ⟨hI _ _ _ _ hid (back _ _ Wd), h2, h3, hXD, hXE⟩, ?_⟩⟩
      refine (((hab.mono fun _ _ h => h.elim : Far (fun k => ¬ (K k ∨ X k)) Wa Wb).trans (hbc.mono fun k _ h hk => hk.elim (fun hk => (hnK k hk).2 h) (fun hk => hXE (h ▸ hk)))).trans (hcd.mono fun k _ h hk => h (hk.elim .inl (fun h => .inr (.inl h))))).putObj (fun _ hk => hk.elim (fun hk => (hnK _ hk).2 rfl) hXE) _
    | ret =>
      obtain ⟨hcd, hid⟩ := hp
      obtain ⟨h1, h2, h3⟩ := fin (some .ret) Wd hcd
      exact ⟨_, _, h1, .inr ⟨rfl, .ret, hIx _ _ _ _ _ hid (back _ _ Wd), h2, h3, hXD, hXE⟩⟩
    | exit id =>
      obtain ⟨hcd, hid⟩ := hp
      obtain ⟨h1, h2, h3⟩ := fin (some (.exit id)) Wd hcd
      exact ⟨_, _, h1, .inr ⟨rfl, .exit id, hIx _ _ _ _ _ hid (back _ _ Wd), h2, h3, hXD, hXE⟩⟩
    | goto t =>
      obtain ⟨hcd, hid⟩ := hp
      obtain ⟨h1, h2, h3⟩ := fin (some (.goto t)) Wd hcd
      exact ⟨_, _, h1, .inr ⟨rfl, .goto t, hIx _ _ _ _ _ hid (back _ _ Wd), h2, h3, hXD, hXE⟩⟩
    | panic ch => exact hp.elim
    | outgrown => exact hp.elim
  · -- behind the iterator
    have back : ∀ (Y : Nat → Prop) (o : Obj) (Wd : World), Far (fun k => T k ∨ Y k ∨ k = D ∨ k = D + 1) Wd (Wd.putObj (D + 1) o) := fun Y o Wd => (Far.refl _ Wd).putObj (fun _ => .inr (.inr (.inr rfl))) o
    rintro e W2 ⟨⟨v, rfl⟩, h2⟩
    rcases h2 with ⟨X, hi, hl, hd, _⟩ | ⟨X, pre, hpre, c, hi, hl, hd, _⟩
    · have he := run_endLoop (P := P) hl (by rw [hrec]; simp)
      rw [hrec] at he
      have hlt : D + 1 < W2.heap.size := (Array.getElem?_eq_some_iff.1 hl).1
      exact ⟨none, _, he, hdone _ _ (by rw [World.putObj_size]; omega) (hI _ _ _ _ hi (back _ _ W2)) ((World.putObj_heap_other (by omega)).trans hd)⟩
    · have he := run_endLoop (P := P) hl (by rw [hrec]; simp)
      rw [hrec] at he
      have hlt : D + 1 < W2.heap.size := (Array.getElem?_eq_some_iff.1 hl).1
      exact ⟨some c, _, he, (wpIn_wide (n := 0)).2 (hstop c _ pre _ (by rw [World.putObj_size]; omega) hpre (hIx _ _ _ _ _ hi (back _ _ W2)) ((World.putObj_heap_other (by omega)).trans hd))⟩


/-! a region of the function itself whose last operations come one behind the other, behind all others -/
end Go.Pol
namespace Go.Pol
open Go Go.RowKit

section
variable {P : Program} (w : World)
theorem append_block (base : Nat) (t ty e : TypeId) (i : TypeInfo) (z : Value) (size bytes : Nat) (ht : P.underlying t = some (.slice e)) (hi : P.info? e = some i) (hz : i.zero = some z)
    (hsize : i.size = size) (hby : i.bytes = bytes) (hzs : z.cells.size = size) (hsz : 0 < size)
    (v : Value) (n : Nat) (xs : List Value) (hown : w.ownsRow base e size v n xs)
    (a : Addr) (m c : Nat) (news : List Value) (hl : news.length = m * size) (hnews : ∀ j u, news[j]? = some u → w.cell? (a.add j) = some u) (h1 : ∀ u ∈ news, u.oneCell' = true)
    (h63 : n + m ≤ maxLen) (hbytes : (n + m) * bytes ≤ 140737488355328) (hbase : base ≤ w.heap.size) :
    ∃ v' w', (Builtin.append_ #[t, t] ty #[v, .slice (some a) m c]).run P w = .ok v' w' ∧ w'.ownsRow base e size v' (n + m) (xs ++ news) ∧ w.grownBy w' v.ownBlock ∧
      ∀ g, v'.ownBlock = some g → v.ownBlock = some g ∨ w.heap.size ≤ g := by
  obtain ⟨v', w', hr, r1, r2, _⟩ := run_append_own (P := P) w base t ty e i z size bytes ht hi hz hsize hby hzs hsz v n xs hown a m c news hl hnews h1 h63 hbytes hbase
  refine ⟨v', w', hr, r1, r2, fun g' hg' => ?_⟩
  have hsmall : n + m ≤ 9223372036854775807 := by simp only [maxLen] at h63; omega
  rcases hown.2 with ⟨hv, h0⟩ | ⟨g, cap, cur, hv, hbg, hg, hnc, hcm, hcs, htake⟩
  · subst h0
    have hx : xs = [] := List.eq_nil_of_length_eq_zero (by simpa using hown.1)
    have hown2 : w.ownsRow w.heap.size e size v 0 xs := by rw [hv, hx]; exact World.ownsRow_nil _ _ _ _
    obtain ⟨v2, w2, hr2, s1, _, _⟩ := run_append_own (P := P) w w.heap.size t ty e i z size bytes ht hi hz hsize hby hzs hsz v 0 xs hown2 a m c news hl hnews h1 h63 hbytes (Nat.le_refl _)
    rw [hr] at hr2
    injection hr2 with e1 e2
    subst e1; subst e2
    exact .inr (s1.lt g' hg').1
  · subst hsize
    subst hby
    subst hv
    by_cases hroom : n + m ≤ cap
    · have hfit : n * i.size + news.length ≤ cur.size := by rw [hl, hcs, ← Nat.add_mul]; exact Nat.mul_le_mul_right _ hroom
      have hr2 := run_append_room (P := P) w t ty e i ht hi g n cap cur hg a m c news hl hnews h1 hroom hfit
      rw [hr] at hr2
      injection hr2 with e1 e2
      subst e1
      exact .inl hg'
    · have holds : ∀ j u, xs[j]? = some u → w.cell? ((⟨g, 0, none⟩ : Addr).add j) = some u := hown.cells (g := g) rfl
      have hr2 := run_append_grow (P := P) w t ty e i z ht hi hz ⟨g, 0, none⟩ n cap xs hown.1 holds a m c news hl hnews (by omega) (by omega) (growslice_fits (by omega) hbytes)
      rw [hr] at hr2
      injection hr2 with e1 e2
      subst e1
      simp only [Value.ownBlock, Option.some.injEq] at hg'
      exact .inr (by omega)
end

theorem wpListIn_append_x {F : Fence} {n : Nat} {P : Program} (w : World) {ops : Array Oper} {rest : List Oper} {o : Oper} {a : Act} {Q : Exit → Act → World → Prop}
    (hg : o.guard = none) (s x : Operand) (t : TypeId) (hop : o.op = Op.call { callee := Callee.builtin Builtin.append, args := #[s, x], argTypes := #[t, t] })
    (base : Nat) (e : TypeId) (i : TypeInfo) (z : Value) (size bytes : Nat) (h1 : P.underlying t = some (.slice e)) (h2 : P.info? e = some i) (h3 : i.zero = some z) (h4 : i.size = size) (h5 : i.bytes = bytes) (h6 : z.cells.size = size) (h7 : 0 < size)
    (v : Value) (k : Nat) (xs : List Value) (hs : a.eval s = v) (hown : w.ownsRow base e size v k xs) (ad : Addr) (m c : Nat) (news : List Value) (hx : a.eval x = .slice (some ad) m c) (hn : news.length = m * size)
    (hc : ∀ j u, news[j]? = some u → w.cell? (ad.add j) = some u) (h1c : ∀ u ∈ news, u.oneCell' = true) (b1 : k + m ≤ maxLen) (b2 : (k + m) * bytes ≤ 140737488355328) (b3 : base ≤ w.heap.size)
    (hK : ∀ v' w', w'.ownsRow base e size v' (k + m) (xs ++ news) → w.grownBy w' v.ownBlock → (∀ g, v'.ownBlock = some g → v.ownBlock = some g ∨ w.heap.size ≤ g) → wpListIn F n P ops Q rest (a.put o.dst v') w') :
    wpListIn F n P ops Q (o :: rest) a w := by
  refine wpListIn_plain hg fun K hK' => ?_
  obtain ⟨v', w', hrun, r1, r2, r3⟩ := append_block (P := P) w base t o.type e i z size bytes h1 h2 h3 h4 h5 h6 h7 v k xs hown ad m c news hn hc h1c b1 b2 b3
  unfold Oper.wpIn
  refine ⟨?_, ?_⟩
  · simp [Oper.about, hop, resolve, Target.leads, Sem.run_pure]
  · rw [Oper.semAt_plain F _ _ (by rw [hop]; intro c hc'; cases hc')]
    simp [execOp, hop, resolve, invoke, builtin, hs, hx, hrun, Result.andThen]
    exact hK' _ _ (hK v' w' r1 r2 r3)

/-- the box of a slice, and the row that the slice owns beyond 'base'; neither is a block of X -/
structure BoxX (X : Nat → Prop) (w : World) (B : Nat) (tb te : TypeId) (base size n : Nat) (cs : List Value) : Prop where
  ex : ∃ v, Blk w B tb #[v] ∧ w.ownsRow base te size v n cs ∧ ¬ X B ∧ ∀ g, v.ownBlock = some g → ¬ X g
section
variable {X X' T : Nat → Prop} {w w' w1 : World} {B : Nat} {tb te : TypeId} {base size n : Nat} {cs cs' : List Value} {v v' : Value}
theorem BoxX.far (h : BoxX X w B tb te base size n cs) (hf : Far T w w') (hB : T B → X B) (hT : ∀ g, base ≤ g → T g → X g) : BoxX X w' B tb te base size n cs := by
  obtain ⟨v, h1, h2, h3, h4⟩ := h.ex
  exact ⟨v, hf.blk h1 (fun h => h3 (hB h)), ownsRow_far h2 hf (fun g hg h => h4 g hg (hT g (h2.lt g hg).1 h)), h3, h4⟩
theorem BoxX.new (h : BoxX X w B tb te base size n cs) (hX : ∀ k, X' k → X k ∨ w.heap.size ≤ k) : BoxX X' w B tb te base size n cs := by
  obtain ⟨v, h1, h2, h3, h4⟩ := h.ex
  refine ⟨v, h1, h2, fun h => (hX _ h).elim h3 (fun h => by have := h1.lt; omega), fun g hg h => (hX _ h).elim (h4 g hg) (fun h => by have := (h2.lt g hg).2; omega)⟩
/-- 'out = append(out, x)': what lies behind it -/
theorem BoxX.appended {tmp : Obj} {m : Nat} (hv : Blk w B tb #[v]) (hte : tb ≠ te) (hrow : w.ownsRow base te size v n cs) (hXB : ¬ X B) (hXg : ∀ g, v.ownBlock = some g → ¬ X g)
    (hown : w1.ownsRow base te size v' m cs') (hg : (w.alloc tmp).grownBy w1 v.ownBlock) (hblk : ∀ g, v'.ownBlock = some g → v.ownBlock = some g ∨ (w.alloc tmp).heap.size ≤ g) (hXlt : ∀ k, X k → k < w.heap.size) :
    Blk w1 B tb #[v] ∧ BoxX X (w1.setCell ⟨B, 0, none⟩ v') B tb te base size m cs' ∧ ∀ (T : Nat → Prop), T B → (∀ g, v.ownBlock = some g → T g) → Far T w (w1.setCell ⟨B, 0, none⟩ v') := by
  have hv1 : Blk w1 B tb #[v] := (hv.alloc tmp).grown hg (fun e => hv.not_row hrow hte e.symm)
  refine ⟨hv1, ⟨v', by simpa using hv1.set_ 0 v', ?_, hXB, fun g hg' hx => ?_⟩, fun T hTB hT => ?_⟩
  · have hfar : Far (fun k => k = B) w1 (w1.setCell ⟨B, 0, none⟩ v') := Far.setCell (T := fun k => k = B) (p := ⟨B, 0, none⟩) (Far.refl _ _) (fun _ => rfl) v'
    exact ownsRow_far hown hfar (fun g hg' e => by subst e; exact hv1.not_row hown hte hg')
  · rcases hblk g hg' with h | h
    · exact hXg g h hx
    · have := hXlt g hx
      simp at h; omega
  · have h1 : Far T w (w.alloc tmp) := (Far.refl T w).alloc tmp
    refine (h1.grown hg (fun r e hr => ?_)).setCell (p := ⟨B, 0, none⟩) (fun _ => hTB) v'
    exact hT r e
end

end Go.Pol
namespace Go.Pol
open Go Go.RowKit
/-- the values that a loop over blocks is handed -/
abbrev tA (x : B3) : Array Value := #[bV x]
/-- a loop over values of one parameter whose variable lies in a box -/
theorem rangeXT {P : Program} {g : Operand} {ps : Array Tmp} {assign body : Code} {Q : Exit → Act → World → Prop} {a : Act} {w : World} (ib pb : Nat) (tE : TypeId)
    {gf : Nat} {lb : Array Value} (hg : a.eval g = .func (.func gf) #[] lb) (eg : ∀ args w, (callFunc gf args).run P w = .ok (.enter gf args) w)
    {T K : Nat → Prop} {xs : List B3} (hseq : SeqX P gf lb tA T K xs w) (hps : ps = #[pb])
    (hT : ∀ k, T k → k < w.heap.size) (hK : ∀ k, K k → k < w.heap.size)
    (I : (Nat → Prop) → List B3 → World → Prop) (Ix : Code → (Nat → Prop) → List B3 → World → Prop)
    (hI : ∀ X pre A B, I X pre A → Far (fun k => T k ∨ X k ∨ k = w.heap.size ∨ k = w.heap.size + 1) A B → I X pre B)
    (hIx : ∀ c X pre A B, Ix c X pre A → Far (fun k => T k ∨ X k ∨ k = w.heap.size ∨ k = w.heap.size + 1) A B → Ix c X pre B)
    (hnew : ∀ X X' pre A, I X pre A → (∀ k, X' k → X k ∨ A.heap.size ≤ k) → I X' pre A)
    (h0 : I (fun _ => False) [] w)
    (hassign : ∀ (m l : Nat) (x : B3) (W : World) (C : Act → World → Prop),
      C { tmps := (a.tmps.setIfInBounds pb (bV x)).setIfInBounds ib (.pointer (some ⟨W.heap.size, 0, none⟩)), defers := [] } (W.alloc (.cells #[.int .i64 x.1, .int .i64 x.2.1, .bool x.2.2] tE)) →
      assign.wpIn (Fence.wide.inRound l) m P (Exit.then C (fun _ _ _ => False)) { tmps := a.tmps.setIfInBounds pb (bV x), defers := [] } W)
    (hbody : ∀ (m l : Nat) (X : Nat → Prop) (pre : List B3) (x : B3) (Bx : Nat) (Wa W : World), w.heap.size + 2 ≤ W.heap.size → (∀ k, X k → k < Wa.heap.size ∧ k ≠ w.heap.size ∧ k ≠ w.heap.size + 1) → I X pre W → pre ++ [x] <+: xs → w.heap.size + 2 ≤ Bx → Blk W Bx tE #[.int .i64 x.1, .int .i64 x.2.1, .bool x.2.2] → Wa.heap.size ≤ Bx →
      body.wpIn (Fence.wide.inRound l) m P (xPost w.heap.size K X I Ix (pre ++ [x]) W) { tmps := (a.tmps.setIfInBounds pb (bV x)).setIfInBounds ib (.pointer (some ⟨Bx, 0, none⟩)), defers := [] } W)
    (hdone : ∀ (X : Nat → Prop) (W : World), w.heap.size + 2 ≤ W.heap.size → I X xs W → W.heap[w.heap.size]? = some (.deferred (some [])) → Q .normal { a with defers := markOf w.heap.size :: a.defers } W)
    (hstop : ∀ (c : Code) (X : Nat → Prop) (pre : List B3) (W : World), w.heap.size + 2 ≤ W.heap.size → pre <+: xs → Ix c X pre W → W.heap[w.heap.size]? = some (.deferred (some [])) → c.wp P Q { a with defers := markOf w.heap.size :: a.defers } W) :
    (Code.rangeFunc g ps assign body).wp P Q a w := by
  subst hps
  refine rangeX hg eg hseq (fun _ => rfl) hT hK I Ix hI hIx hnew h0
    (fun N x a' W => ∃ Bx, N ≤ Bx ∧ w.heap.size + 2 ≤ Bx ∧ Blk W Bx tE #[.int .i64 x.1, .int .i64 x.2.1, .bool x.2.2] ∧ a' = { tmps := (a.tmps.setIfInBounds pb (bV x)).setIfInBounds ib (.pointer (some ⟨Bx, 0, none⟩)), defers := [] })
    (fun N x a' A B ⟨Bx, h0, h1, h2, h3⟩ hf => ⟨Bx, h0, h1, hf.blk h2 (by omega), h3⟩) ?_ ?_ hdone hstop
  · intro m l x W C hs hC
    have e : (#[pb].zip (tA x)).foldl (fun t (p, v) => t.setIfInBounds p v) a.tmps = a.tmps.setIfInBounds pb (bV x) := by simp [tA]
    rw [e]
    exact hassign m l x W C (hC _ _ ((Far.refl _ W).alloc _) ⟨W.heap.size, Nat.le_refl _, hs, Blk.new _ _ _, rfl⟩)
  · rintro m l X pre x a' Wa W hs hX hi ⟨Bx, h0, h1, h2, rfl⟩ hpre _ _
    exact hbody m l X pre x Bx Wa W hs hX hi hpre h1 h2 h0

theorem Far.rt {T : Nat → Prop} {w w' : World} {B : Nat} {A : Option Addr} {bs : List B3} (h : RT w B A bs) (hf : Far T w w') (hT : ∀ b o, A = some ⟨b, o, none⟩ → ¬ T b) : RT w' B A bs := fun k hk => by
  obtain ⟨b, o, e, hb, h1, h2, h3⟩ := h k hk
  exact ⟨b, o, e, hb, hf.cell h1 (hT b o e), hf.cell h2 (hT b o e), hf.cell h3 (hT b o e)⟩
end Go.Pol
namespace Go.Proofs.YtpabnbhbcphfiaaGreat
open Go Go.Proofs Go.RowKit Go.Pol Go.Shelf
attribute [local go_sem] Oper.semAt_some Go.Pol.wide_fn Go.Pol.wide_depth Go.Pol.wide_fn' Go.Pol.wide_depth'

theorem values_any (A : Option Addr) (n cap : Nat) (w : World) :
    Calls Tryz.prog 193 #[.slice A n cap] w fun e w' => e = .returned (.func (.func 227) #[] #[.pointer (some ⟨w.heap.size, 0, none⟩)]) ∧ w' = w.alloc (.cells #[.slice A n cap] 56) := by
  go_enter Tryz.func193, Tryz.ntmps193
  go_wp2
  go_ret
  exact ⟨rfl, rfl⟩
theorem values_enters : ∀ args w, (callFunc 227 args).run Tryz.prog w = .ok (.enter 227 args) w := enters_of Tryz.func227 (by kernel_rfl) rfl
theorem take_snocB (bs : List B3) (k : Nat) (h : k < bs.length) : bs.take (k + 1) = bs.take k ++ [bs.getD k b0] := by
  rw [List.take_add_one, List.getElem?_eq_getElem h, List.getD_eq_getElem?_getD, List.getElem?_eq_getElem h]; rfl

set_option maxRecDepth 100000 in
set_option maxHeartbeats 1600000 in
theorem values1_seq (A : Option Addr) (n cap : Nat) (bs : List B3) (B1 : Nat) (K : Nat → Prop) (w : World) (hK1 : K B1)
    (k1 : Blk w B1 56 #[.slice A n cap]) (hn : bs.length = n) (hm : n ≤ maxLen) (hr : RT w w.heap.size A bs) (hown : bs ≠ [] → ∀ b o, A = some ⟨b, o, none⟩ → K b) :
    SeqX Tryz.prog 227 #[.pointer (some ⟨B1, 0, none⟩)] tA (fun _ => False) K bs w := by
  intro m l J Jx W hW hJ hJx hnew hY h0
  unfold maxLen at hm
  have kB1 := hW.blk k1 (by simpa using hK1)
  have far_rt : ∀ {W1 W2 : World} {N : Nat} {T : Nat → Prop}, RT W1 N A bs → Far T W1 W2 → (∀ k, K k → ¬ T k) → RT W2 N A bs := fun h hf hT => by
    by_cases h0 : bs = []
    · subst h0; exact RT.nil
    · exact Far.rt h hf (fun b o e => hT b (hown h0 b o e))
  have hrW : RT W W.heap.size A bs := (far_rt hr hW (fun k hk h => h hk)).more hW.size
  refine callsIn_of_wp Tryz.func227 rfl trivial ?_ rfl
  simp only [Tryz.ntmps227, List.size_toArray, List.length_cons, List.length_nil, Nat.reduceAdd, Nat.reduceSub, Array.replicate_succ, Array.replicate_zero, List.push_toArray, List.append_toArray, List.nil_append, List.cons_append]
  have c1 := kB1.cell
  have hn' := Lib.hid hn
  clear hn hr hW k1
  gi_wp2_with fail
  gi_loopw [7] (fun i wr => ∃ (k : Nat) (X : Nat → Prop), k ≤ n ∧ i = .int .i64 k ∧ W.heap.size ≤ wr.heap.size ∧ J X (bs.take k) wr ∧ RT wr W.heap.size A bs) (fun i _ => n - (intOf i).toNat)
  case atStart => exact ⟨0, _, by omega, rfl, Nat.le_refl _, by simpa using h0, hrW⟩
  case round =>
    clear h0 hrW kB1 c1
    obtain ⟨k, X, hk, rfl, hwz, hJs, hru⟩ := hrel
    by_cases hlt : k < n
    · have hlt' : decide ((k : Int) < (n : Int)) = true := by simpa using hlt
      obtain ⟨b, o, rfl, hbl, hc, hd, he⟩ := hru.at_ (k := k) (by have := hn'.out; omega)
      have hts := Lib.hid (take_snocB bs k (by have := hn'.out; omega))
      generalize bs.getD k b0 = x at *
      obtain ⟨xa, xo, xc⟩ := x
      dsimp only at hc hd he
      have kX := Blk.new wr 65 #[.int .i64 xa, .int .i64 xo, .bool xc]
      have hfa : Far (fun _ => False) wr (wr.alloc (.cells #[.int .i64 xa, .int .i64 xo, .bool xc] 65)) := (Far.refl _ wr).alloc _
      have hJ2 := hJ _ _ _ _ (hnew _ (fun k => k = wr.heap.size) _ wr hJs (fun j hj => .inr (by omega))) (hfa.mono fun _ _ h => h.elim)
      have hrub := far_rt hru hfa (fun _ _ h => h)
      have hszb : W.heap.size ≤ (wr.alloc (.cells #[.int .i64 xa, .int .i64 xo, .bool xc] 65)).heap.size := by simp; omega
      have hbx0 : wr.heap.size < (wr.alloc (.cells #[.int .i64 xa, .int .i64 xo, .bool xc] 65)).heap.size := by simp
      have hpre : Hid (bs.take k ++ [(xa, xo, xc)] <+: bs) := Lib.hid (by rw [← hts.out]; exact List.take_prefix _ _)
      obtain ⟨fn, tmps, assign, body, hy, hRd⟩ := hY (m - 1) (fun j => j = wr.heap.size) (bs.take k) (xa, xo, xc) _ hJ2 (fun j hj => by rw [hj]; exact hbx0) hpre.out
      clear hY
      gi_wp2_with fail
      refine hRd.mono ?_
      rintro e W4 (⟨rfl, hJ4, hF4⟩ | ⟨rfl, hJx4⟩)
      · gi_wp2_with fail
        go_roundw
        case rel => exact ⟨k + 1, _, by omega, by go_num, Nat.le_trans hszb hF4.size, by rw [hts.out]; exact hJ4, far_rt hrub hF4 (fun j hj h => h (.inl hj))⟩
        case measure => simp [intOf]; omega
      · gi_wp2_with fail
        refine bodyPost_ret (results_none rfl _ _ _) rfl ?_
        exact ⟨⟨_, rfl⟩, .inr ⟨_, bs.take k ++ [(xa, xo, xc)], hpre.out, hJx4⟩⟩
    · have hlt' : decide ((k : Int) < (n : Int)) = false := by simp; omega
      have hE : Hid (bs.take k = bs) := Lib.hid (List.take_of_length_le (by have := hn'.out; omega))
      gi_wp2_with fail
      go_end0
      exact ⟨⟨_, rfl⟩, .inl ⟨_, by rw [hE.out] at hJs; exact hJs⟩⟩
end Go.Proofs.YtpabnbhbcphfiaaGreat
