/- What Best computes: sums over the first entries, the cost of a run of entries, the least waste of the entries from one on with so many classes. No program in sight. -/
import Derived.Test.YtiohcegkkpeodaaDoorSpecA
namespace Go.Pol
def objF (us : List (Int × Int)) : Nat → Int
  | 0 => 0
  | i + 1 => objF us i + (us.getD i (0,0)).2
def bytF (us : List (Int × Int)) : Nat → Int
  | 0 => 0
  | i + 1 => bytF us i + (us.getD i (0,0)).2 * (us.getD i (0,0)).1
def costF (us : List (Int × Int)) (i j : Nat) : Int := (objF us (j+1) - objF us i) * (us.getD j (0,0)).1 - (bytF us (j+1) - bytF us i)
/-- the least waste of the entries from i on, the first class being that of one of the first t of them; -1: not possible -/
def cellL (us : List (Int × Int)) (p : Nat → Int) (i : Nat) : Nat → Int
  | 0 => -1
  | t + 1 =>
    if 0 ≤ p (i + t + 1) ∧ (cellL us p i t < 0 ∨ costF us i (i + t) + p (i + t + 1) < cellL us p i t) then costF us i (i + t) + p (i + t + 1) else cellL us p i t
/-- the least waste of the entries from i on with just m classes -/
def rowF (us : List (Int × Int)) : Nat → Nat → Int
  | 0, i => if i = us.length then 0 else -1
  | m + 1, i => if i < us.length then cellL us (rowF us m) i (us.length - i) else -1
/-- the fewest classes with the least waste -/
def mSel (us : List (Int × Int)) (k : Nat) : Nat → Nat
  | 0 => 0
  | m + 1 => if 1 ≤ m ∧ rowF us m 0 = rowF us k 0 then mSel us k m else m + 1
theorem cellL_step (us : List (Int × Int)) (p : Nat → Int) (i j : Nat) (h : i ≤ j) : cellL us p i (j + 1 - i) =
    if 0 ≤ p (j + 1) ∧ (cellL us p i (j - i) < 0 ∨ costF us i j + p (j + 1) < cellL us p i (j - i)) then costF us i j + p (j + 1) else cellL us p i (j - i) := by
  rw [show j + 1 - i = (j - i) + 1 by omega, cellL, show i + (j - i) = j by omega]
theorem objF_mono (us : List (Int × Int)) (h : ∀ k, k < us.length → 0 ≤ (us.getD k (0,0)).2) : ∀ d i, i + d ≤ us.length → objF us i ≤ objF us (i + d)
  | 0, i, _ => Int.le_refl _
  | d + 1, i, hd => by
    have := objF_mono us h d i (by omega)
    have h2 := h (i + d) (by omega)
    have e : objF us (i + (d + 1)) = objF us (i + d) + (us.getD (i + d) (0,0)).2 := rfl
    omega
theorem objF_le (us : List (Int × Int)) (h : ∀ k, k < us.length → (us.getD k (0,0)).2 ≤ 1000000) : ∀ i, i ≤ us.length → objF us i ≤ 1000000 * i
  | 0, _ => by simp [objF]
  | i + 1, hi => by
    have := objF_le us h i (by omega)
    have h2 := h i (by omega)
    have e : objF us (i + 1) = objF us i + (us.getD i (0,0)).2 := rfl
    omega
theorem bytF_mono (us : List (Int × Int)) (h : ∀ k, k < us.length → 0 ≤ (us.getD k (0,0)).2 * (us.getD k (0,0)).1) : ∀ d i, i + d ≤ us.length → bytF us i ≤ bytF us (i + d)
  | 0, i, _ => Int.le_refl _
  | d + 1, i, hd => by
    have := bytF_mono us h d i (by omega)
    have h2 := h (i + d) (by omega)
    have e : bytF us (i + (d + 1)) = bytF us (i + d) + (us.getD (i + d) (0,0)).2 * (us.getD (i + d) (0,0)).1 := rfl
    omega
theorem bytF_le (us : List (Int × Int)) (h : ∀ k, k < us.length → (us.getD k (0,0)).2 * (us.getD k (0,0)).1 ≤ 4096000000) : ∀ i, i ≤ us.length → bytF us i ≤ 4096000000 * i
  | 0, _ => by simp [bytF]
  | i + 1, hi => by
    have := bytF_le us h i (by omega)
    have h2 := h i (by omega)
    have e : bytF us (i + 1) = bytF us i + (us.getD i (0,0)).2 * (us.getD i (0,0)).1 := rfl
    omega
theorem mul_bd {a b A B : Int} (ha : 0 ≤ a) (ha' : a ≤ A) (hb : 0 ≤ b) (hb' : b ≤ B) : 0 ≤ a * b ∧ a * b ≤ A * B :=
  ⟨Int.mul_nonneg ha hb, Int.mul_le_mul ha' hb' hb (by omega)⟩
section
variable {us : List (Int × Int)} (h : okU us)
include h
theorem okU.tb (k : Nat) (hk : k < us.length) : 0 ≤ (us.getD k (0,0)).2 * (us.getD k (0,0)).1 ∧ (us.getD k (0,0)).2 * (us.getD k (0,0)).1 ≤ 4096000000 := by
  obtain ⟨h1, h2, h3, h4, _⟩ := h.at_ k hk
  have := mul_bd (A := 1000000) (B := 4096) (by omega : 0 ≤ (us.getD k (0,0)).2) h4 (by omega : 0 ≤ (us.getD k (0,0)).1) h2
  omega
theorem okU.obj {i j : Nat} (hij : i ≤ j) (hj : j ≤ us.length) : 0 ≤ objF us i ∧ objF us i ≤ objF us j ∧ objF us j ≤ 200000000 := by
  have h0 := h.len
  have a := objF_mono us (fun k hk => by have := h.at_ k hk; omega) i 0 (by omega)
  have b := objF_mono us (fun k hk => by have := h.at_ k hk; omega) (j - i) i (by omega)
  have c := objF_le us (fun k hk => by have := h.at_ k hk; omega) j hj
  rw [show i + (j - i) = j by omega] at b
  rw [Nat.zero_add] at a
  have e : objF us 0 = 0 := rfl
  omega
theorem okU.byt {i j : Nat} (hij : i ≤ j) (hj : j ≤ us.length) : 0 ≤ bytF us i ∧ bytF us i ≤ bytF us j ∧ bytF us j ≤ 820000000000 := by
  have h0 := h.len
  have a := bytF_mono us (fun k hk => (h.tb k hk).1) i 0 (by omega)
  have b := bytF_mono us (fun k hk => (h.tb k hk).1) (j - i) i (by omega)
  have c := bytF_le us (fun k hk => (h.tb k hk).2) j hj
  rw [show i + (j - i) = j by omega] at b
  rw [Nat.zero_add] at a
  have e : bytF us 0 = 0 := rfl
  omega
theorem okU.asc {i j : Nat} (hij : i < j) (hj : j < us.length) : (us.getD i (0,0)).1 < (us.getD j (0,0)).1 := by
  induction j with
  | zero => omega
  | succ j ih =>
    have h1 := (h.at_ (j+1) hj).2.2.2.2
    have e : prevU us (j+1) = (us.getD j (0,0)).1 := rfl
    by_cases hij' : i = j
    · subst hij'; omega
    · have := ih (by omega) (by omega); omega
theorem okU.asc_le {i j : Nat} (hij : i ≤ j) (hj : j < us.length) : (us.getD i (0,0)).1 ≤ (us.getD j (0,0)).1 := by
  by_cases hij' : i = j
  · subst hij'; omega
  · have := h.asc (i := i) (j := j) (by omega) hj; omega
/-- sum of (s - size) * times over a run -/
theorem okU.run (s : Int) : ∀ d i, i + d ≤ us.length → (∀ k, i ≤ k → k < i + d → (us.getD k (0,0)).1 ≤ s) → 0 ≤ (objF us (i + d) - objF us i) * s - (bytF us (i + d) - bytF us i)
  | 0, i, _, _ => by simp
  | d + 1, i, hd, hs => by
    have ih := okU.run s d i (by omega) (fun k hk hk' => hs k hk (by omega))
    have h1 := hs (i + d) (by omega) (by omega)
    have h2 := h.at_ (i + d) (by omega)
    have eo : objF us (i + (d + 1)) = objF us (i + d) + (us.getD (i + d) (0,0)).2 := rfl
    have eb : bytF us (i + (d + 1)) = bytF us (i + d) + (us.getD (i + d) (0,0)).2 * (us.getD (i + d) (0,0)).1 := rfl
    have h3 := Int.mul_nonneg (show 0 ≤ (us.getD (i + d) (0,0)).2 by omega) (show 0 ≤ s - (us.getD (i + d) (0,0)).1 by omega)
    rw [eo, eb]
    generalize (us.getD (i + d) (0,0)).1 = x at *
    generalize (us.getD (i + d) (0,0)).2 = y at *
    generalize objF us (i + d) = a at *
    generalize objF us i = b at *
    rw [Int.mul_sub] at h3
    have : (a + y - b) * s = (a - b) * s + y * s := by rw [show a + y - b = (a - b) + y by omega, Int.add_mul]
    omega
theorem okU.cost {i j : Nat} (hij : i ≤ j) (hj : j < us.length) : 0 ≤ costF us i j ∧ costF us i j ≤ 900000000000 := by
  have h1 := okU.run h (us.getD j (0,0)).1 (j + 1 - i) i (by omega) (fun k hk hk' => h.asc_le (by omega) hj)
  rw [show i + (j + 1 - i) = j + 1 by omega] at h1
  have h2 := h.obj (i := i) (j := j + 1) (by omega) (by omega)
  have h3 := h.byt (i := i) (j := j + 1) (by omega) (by omega)
  have h4 := h.at_ j hj
  have h5 := mul_bd (A := 200000000) (B := 4096) (by omega : 0 ≤ objF us (j+1) - objF us i) (by omega) (by omega : 0 ≤ (us.getD j (0,0)).1) (by omega)
  unfold costF
  omega
theorem okU.cell_bd (p : Nat → Int) (M : Int) (hM : 0 ≤ M) (hp : ∀ q, q ≤ us.length → -1 ≤ p q ∧ p q ≤ M) (i : Nat) : ∀ t, i + t ≤ us.length → -1 ≤ cellL us p i t ∧ cellL us p i t ≤ M + 900000000000
  | 0, _ => by simp [cellL]; omega
  | t + 1, ht => by
    have ih := okU.cell_bd p M hM hp i t (by omega)
    have hc := h.cost (i := i) (j := i + t) (by omega) (by omega)
    have := hp (i + t + 1) (by omega)
    unfold cellL
    split <;> omega
theorem okU.row_bd : ∀ (m i : Nat), -1 ≤ rowF us m i ∧ rowF us m i ≤ 900000000000 * m
  | 0, i => by unfold rowF; split <;> omega
  | m + 1, i => by
    unfold rowF
    split
    · have := okU.cell_bd h (rowF us m) (900000000000 * m) (by omega) (fun q _ => okU.row_bd m q) i (us.length - i) (by omega)
      omega
    · omega
end
end Go.Pol
