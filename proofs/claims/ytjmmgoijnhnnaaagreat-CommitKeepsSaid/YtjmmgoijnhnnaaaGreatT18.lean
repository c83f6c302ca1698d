/- Plain functions: the pieces of spans between multiples of a size. -/
import Derived.Test.YtjmmgoijnhnnaaaGreatT17
namespace Go.Pol
open Go
def nextM (size a : Int) : Int := (a / size + 1) * size
def cutN (size en : Int) : Nat → Int → List Sp
 | 0, _ => []
 | k + 1, a => if a < en then (a, min (nextM size a) en - a) :: cutN size en k (min (nextM size a) en) else []
def cutF (size : Int) (x : Sp) : List Sp := cutN size (x.1 + x.2) 1024 x.1
def piecesF (us : List Sp) (size : Int) : List Sp := if chkS us = 0 ∧ 1 ≤ size ∧ size ≤ 1024 then us.flatMap (cutF size) else []
theorem nextM_gt {size a : Int} (hs : 1 ≤ size) : a < nextM size a ∧ nextM size a ≤ a + size := by
 unfold nextM
 have h := Int.emod_add_mul_ediv a size
 have h1 := Int.emod_nonneg a (show size ≠ 0 by omega)
 have h2 := Int.emod_lt_of_pos a (show 0 < size by omega)
 rw [Int.add_mul, Int.one_mul, Int.mul_comm (a / size) size]
 omega
theorem cutN_step {size en a : Int} {k : Nat} (h : a < en) : cutN size en (k + 1) a = (a, min (nextM size a) en - a) :: cutN size en k (min (nextM size a) en) := by rw [cutN, if_pos h]
theorem cutN_end {size en a : Int} {k : Nat} (h : ¬ a < en) : cutN size en k a = [] := by
 cases k with
 | zero => rfl
 | succ k => rw [cutN, if_neg h]
theorem flat_take (us : List Sp) (size : Int) (k : Nat) (hk : k < us.length) : (us.take (k + 1)).flatMap (cutF size) = (us.take k).flatMap (cutF size) ++ cutF size (us.getD k (0,0)) := by
 have e : us.take (k + 1) = us.take k ++ [us.getD k (0,0)] := by
  rw [List.take_add_one, List.getElem?_eq_getElem hk, List.getD_eq_getElem?_getD, List.getElem?_eq_getElem hk]; rfl
 rw [e, List.flatMap_append]; simp
theorem flat_pre (us : List Sp) (size : Int) (k : Nat) : (us.take k).flatMap (cutF size) <+: us.flatMap (cutF size) := by
 refine ⟨(us.drop k).flatMap (cutF size), ?_⟩
 rw [← List.flatMap_append, List.take_append_drop]
end Go.Pol
