/- What the functions of layer 18 compute, as plain functions on lists of integers; no program in sight. -/
namespace Go.Pol
def isSz (n : Int) : Bool := decide (1 ≤ n) && decide (n ≤ 4096)
theorem isSz_iff {n : Int} : isSz n = true ↔ 1 ≤ n ∧ n ≤ 4096 := by simp [isSz]
def chkL : Int → List Int → Int
  | _, [] => 0
  | last, n :: r => if isSz n = false then 7 else if n ≤ last then 6 else chkL n r
/-- the error of a table -/
def chkT (xs : List Int) : Int := if 64 < xs.length then 3 else if xs.length = 0 then 6 else chkL 0 xs
/-- the element before place k; 0 at the beginning -/
def prev (xs : List Int) (k : Nat) : Int := if k = 0 then 0 else xs.getD (k-1) 0
theorem drop_cons' {α : Type} (d : α) (xs : List α) (k : Nat) (h : k < xs.length) : xs.drop k = xs.getD k d :: xs.drop (k+1) := by
  rw [List.drop_eq_getElem_cons h]; simp [List.getD_eq_getElem?_getD, h]
theorem chkL_step (xs : List Int) (k : Nat) (h : k < xs.length) : chkL (prev xs k) (xs.drop k) = if isSz (xs.getD k 0) = false then 7 else if xs.getD k 0 ≤ prev xs k then 6 else chkL (prev xs (k+1)) (xs.drop (k+1)) := by
  rw [drop_cons' 0 xs k h, chkL]; rfl
def isUse (u : Int × Int) : Bool := isSz u.1 && (decide (1 ≤ u.2) && decide (u.2 ≤ 1000000))
def chkUL : Int → List (Int × Int) → Int
  | _, [] => 0
  | last, u :: r => if isUse u = false then 7 else if u.1 ≤ last then 6 else chkUL u.1 r
/-- the error of a usage -/
def chkU (us : List (Int × Int)) : Int := if 200 < us.length then 3 else chkUL 0 us
def prevU (us : List (Int × Int)) (k : Nat) : Int := if k = 0 then 0 else (us.getD (k-1) (0, 0)).1
theorem chkUL_step (us : List (Int × Int)) (k : Nat) (h : k < us.length) : chkUL (prevU us k) (us.drop k) = if isUse (us.getD k (0,0)) = false then 7 else if (us.getD k (0,0)).1 ≤ prevU us k then 6 else chkUL (prevU us (k+1)) (us.drop (k+1)) := by
  rw [drop_cons' (0,0) us k h, chkUL]; rfl
/-- the class of a size: how many classes are less, from the first one on -/
def cls : List Int → Int → Nat
  | [], _ => 0
  | x :: r, s => if x < s then cls r s + 1 else 0
theorem cls_le (xs : List Int) (s : Int) : cls xs s ≤ xs.length := by
  induction xs with
  | nil => simp [cls]
  | cons x r ih => unfold cls; split <;> simp <;> omega
theorem cls_drop (xs : List Int) (s : Int) (k : Nat) (h : k < xs.length) : cls (xs.drop k) s = if xs.getD k 0 < s then cls (xs.drop (k+1)) s + 1 else 0 := by
  rw [drop_cons' 0 xs k h, cls]
theorem cls_ge (xs : List Int) (s : Int) (h : cls xs s < xs.length) : s ≤ xs.getD (cls xs s) 0 := by
  induction xs with
  | nil => simp at h
  | cons x r ih =>
    unfold cls at h ⊢
    split
    · rename_i hx; simp only [if_pos hx, List.length_cons] at h; simpa using ih (by omega)
    · simp; omega
theorem cls_lt (xs : List Int) (s : Int) (k : Nat) (h : k < cls xs s) : xs.getD k 0 < s := by
  induction xs generalizing k with
  | nil => simp [cls] at h
  | cons x r ih =>
    unfold cls at h
    split at h
    · rename_i hx
      cases k with
      | zero => simpa using hx
      | succ k => simpa using ih k (by omega)
    · omega
/-- two fractions: a/b < c/d (denominators above 0) -/
def less (a b : Int × Int) : Bool := decide (a.1 * b.2 < b.1 * a.2)
/-- the greatest share of waste: size, numerator, denominator, the smallest size of the next class -/
def wrs : Int → Int × Int → Int → List Int → Int × (Int × Int)
  | size, worst, _, [] => (size, worst)
  | size, worst, first, c :: r => if less worst (c - first, c) = true then wrs first (c - first, c) (c+1) r else wrs size worst (c+1) r
def gcdL (fuel : Nat) (x y : Int) : Int :=
  match fuel with
  | 0 => y
  | f + 1 => if x = 0 then y else gcdL f (y % x) x
/-- all sizes are tried -/
def wrsR (xs : List Int) : Nat → Int → Int → Int → Int → Int × Int × Int
  | 0, _, size, num, den => (size, num, den)
  | f + 1, n, size, num, den =>
    if (xs.getD (cls xs n) 0 - n) * den > num * xs.getD (cls xs n) 0 then wrsR xs f (n+1) n (xs.getD (cls xs n) 0 - n) (xs.getD (cls xs n) 0)
    else wrsR xs f (n+1) size num den
def redR : Nat → Int → Int → Int × Int
  | 0, num, den => (num, den)
  | k + 1, num, den => if k = 0 then (num, den) else if num % ((k : Int)+1) = 0 ∧ den % ((k : Int)+1) = 0 then redR k (num / ((k : Int)+1)) (den / ((k : Int)+1)) else redR k num den
/-- what a table without an error is -/
structure okT (xs : List Int) : Prop where
  pos : 1 ≤ xs.length
  len : xs.length ≤ 64
  at_ : ∀ k, k < xs.length → 1 ≤ xs.getD k 0 ∧ xs.getD k 0 ≤ 4096 ∧ prev xs k < xs.getD k 0
theorem chkL_zero : ∀ (xs : List Int) (last : Int), chkL last xs = 0 → ∀ k, k < xs.length → 1 ≤ xs.getD k 0 ∧ xs.getD k 0 ≤ 4096 ∧ (if k = 0 then last else xs.getD (k-1) 0) < xs.getD k 0
  | [], _, _, k, hk => absurd hk (by simp)
  | n :: r, last, h, k, hk => by
    unfold chkL at h
    by_cases h1 : isSz n = false
    · rw [if_pos h1] at h; omega
    · rw [if_neg h1] at h
      have h1' : isSz n = true := by simpa using h1
      by_cases h2 : n ≤ last
      · rw [if_pos h2] at h; omega
      · rw [if_neg h2] at h
        cases k with
        | zero => have := isSz_iff.1 h1'; simp; omega
        | succ k =>
          have := chkL_zero r n h k (by simpa using hk)
          cases k with
          | zero => simpa using this
          | succ k => simpa using this
theorem chkT_ok {xs : List Int} (h : chkT xs = 0) : okT xs := by
  unfold chkT at h
  by_cases h1 : 64 < xs.length
  · rw [if_pos h1] at h; omega
  · rw [if_neg h1] at h
    by_cases h2 : xs.length = 0
    · rw [if_pos h2] at h; omega
    · rw [if_neg h2] at h
      exact ⟨by omega, by omega, fun k hk => chkL_zero xs 0 h k hk⟩
structure okU (us : List (Int × Int)) : Prop where
  len : us.length ≤ 200
  at_ : ∀ k, k < us.length → 1 ≤ (us.getD k (0,0)).1 ∧ (us.getD k (0,0)).1 ≤ 4096 ∧ 1 ≤ (us.getD k (0,0)).2 ∧ (us.getD k (0,0)).2 ≤ 1000000 ∧ prevU us k < (us.getD k (0,0)).1
theorem isUse_iff {u : Int × Int} : isUse u = true ↔ 1 ≤ u.1 ∧ u.1 ≤ 4096 ∧ 1 ≤ u.2 ∧ u.2 ≤ 1000000 := by
  simp [isUse, isSz_iff, and_assoc]
theorem chkUL_zero : ∀ (us : List (Int × Int)) (last : Int), chkUL last us = 0 → ∀ k, k < us.length → 1 ≤ (us.getD k (0,0)).1 ∧ (us.getD k (0,0)).1 ≤ 4096 ∧ 1 ≤ (us.getD k (0,0)).2 ∧ (us.getD k (0,0)).2 ≤ 1000000 ∧ (if k = 0 then last else (us.getD (k-1) (0,0)).1) < (us.getD k (0,0)).1
  | [], _, _, k, hk => absurd hk (by simp)
  | n :: r, last, h, k, hk => by
    unfold chkUL at h
    by_cases h1 : isUse n = false
    · rw [if_pos h1] at h; omega
    · rw [if_neg h1] at h
      have h1' : isUse n = true := by simpa using h1
      by_cases h2 : n.1 ≤ last
      · rw [if_pos h2] at h; omega
      · rw [if_neg h2] at h
        cases k with
        | zero => have := isUse_iff.1 h1'; simp; omega
        | succ k =>
          have := chkUL_zero r n.1 h k (by simpa using hk)
          cases k with
          | zero => simpa using this
          | succ k => simpa using this
theorem chkU_ok {us : List (Int × Int)} (h : chkU us = 0) : okU us := by
  unfold chkU at h
  by_cases h1 : 200 < us.length
  · rw [if_pos h1] at h; omega
  · rw [if_neg h1] at h
    exact ⟨by omega, fun k hk => chkUL_zero us 0 h k hk⟩
theorem prev_succ (xs : List Int) (k : Nat) : prev xs (k+1) = xs.getD k 0 := by simp [prev]
/-- the worst size of a table: size, numerator, denominator, error -/
def wrsT (xs : List Int) : Int × Int × Int × Int :=
  if chkT xs = 0 then
    let r := wrs 0 (-1, 1) 1 xs
    (r.1, r.2.1 / (Nat.gcd r.2.1.toNat r.2.2.toNat : Nat), r.2.2 / (Nat.gcd r.2.1.toNat r.2.2.toNat : Nat), 0)
  else (0, 0, 0, chkT xs)
end Go.Pol
