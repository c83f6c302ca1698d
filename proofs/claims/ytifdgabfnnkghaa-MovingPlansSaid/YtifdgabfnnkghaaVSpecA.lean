/- What the functions of layer 24 compute, as plain functions; no program in sight. -/
namespace Go.Pol
/-- a block: page, order, pinned -/
abbrev B3 := Int × Int × Bool
/-- pages of a block of an order -/
def pw (o : Int) : Int := 2 ^ o.toNat
theorem pw_nat (o : Nat) : pw (o : Int) = ((2 ^ o : Nat) : Int) := by unfold pw; simp
theorem pw_pos (o : Int) : 1 ≤ pw o := by
  have h : pw o = ((2 ^ o.toNat : Nat) : Int) := by simp [pw]
  have := Nat.two_pow_pos o.toNat
  omega
theorem pw_le {o : Int} (h : o ≤ 10) : pw o ≤ 1024 := by
  unfold pw
  have h1 : o.toNat ≤ 10 := by omega
  rcases (show o.toNat = 0 ∨ o.toNat = 1 ∨ o.toNat = 2 ∨ o.toNat = 3 ∨ o.toNat = 4 ∨ o.toNat = 5 ∨ o.toNat = 6 ∨ o.toNat = 7 ∨ o.toNat = 8 ∨ o.toNat = 9 ∨ o.toNat = 10 by omega) with h | h | h | h | h | h | h | h | h | h | h <;> rw [h] <;> decide
def isOrd (o : Int) : Bool := decide (0 ≤ o) && decide (o ≤ 10)
theorem isOrd_iff {o : Int} : isOrd o = true ↔ 0 ≤ o ∧ o ≤ 10 := by simp [isOrd]
/-- does a block of an order fit at a page? -/
def insB (pages page o : Int) : Bool := isOrd o && (decide (0 ≤ page) && (decide (page % pw o = 0) && decide (page ≤ pages - pw o)))
theorem insB_iff {pages page o : Int} : insB pages page o = true ↔ (0 ≤ o ∧ o ≤ 10) ∧ 0 ≤ page ∧ page % pw o = 0 ∧ page ≤ pages - pw o := by simp [insB, isOrd_iff]
def spaceB (pages : Int) : Bool := (List.range 11).any fun o => decide (pages = pw (o : Int))
/-- have two blocks a page in common? -/
def overB (a b : B3) : Bool := decide (a.1 < b.1 + pw b.2.1) && decide (b.1 < a.1 + pw a.2.1)
theorem overB_iff {a b : B3} : overB a b = true ↔ a.1 < b.1 + pw b.2.1 ∧ b.1 < a.1 + pw a.2.1 := by simp [overB]
theorem overB_comm (a b : B3) : overB a b = overB b a := by unfold overB; rw [Bool.and_comm]
abbrev b0 : B3 := (0, 0, false)
/-- is there a block that has a page in common with one ahead of it? -/
def clash (bs : List B3) : Bool := (List.range bs.length).any fun i => (List.range i).any fun k => overB (bs.getD i b0) (bs.getD k b0)
/-- the error of blocks -/
def chkB (pages : Int) (bs : List B3) : Int :=
  if spaceB pages = false then 2 else if 64 < bs.length then 3 else if bs.any (fun b => !insB pages b.1 b.2.1) = true then 7 else if clash bs = true then 8 else 0
theorem spaceB_iff {pages : Int} : spaceB pages = true ↔ ∃ o : Nat, o ≤ 10 ∧ pages = pw (o : Int) := by
  unfold spaceB
  rw [List.any_eq_true]
  simp only [List.mem_range, decide_eq_true_eq]
  exact ⟨fun ⟨o, h1, h2⟩ => ⟨o, by omega, h2⟩, fun ⟨o, h1, h2⟩ => ⟨o, by omega, h2⟩⟩
theorem spaceB_bound {pages : Int} (h : spaceB pages = true) : 1 ≤ pages ∧ pages ≤ 1024 := by
  obtain ⟨o, h1, rfl⟩ := spaceB_iff.1 h
  exact ⟨pw_pos _, pw_le (by omega)⟩
/-- what blocks without an error are -/
structure okB (pages : Int) (bs : List B3) : Prop where
  space : spaceB pages = true
  len : bs.length ≤ 64
  ins : ∀ b ∈ bs, insB pages b.1 b.2.1 = true
  apart : ∀ i k, i < bs.length → k < i → overB (bs.getD i b0) (bs.getD k b0) = false
theorem clash_iff {bs : List B3} : clash bs = true ↔ ∃ i k, i < bs.length ∧ k < i ∧ overB (bs.getD i b0) (bs.getD k b0) = true := by
  unfold clash
  simp only [List.any_eq_true, List.mem_range]
  exact ⟨fun ⟨i, h1, k, h2, h3⟩ => ⟨i, k, h1, h2, h3⟩, fun ⟨i, k, h1, h2, h3⟩ => ⟨i, h1, k, h2, h3⟩⟩
theorem chkB_ok {pages : Int} {bs : List B3} (h : chkB pages bs = 0) : okB pages bs := by
  unfold chkB at h
  by_cases h1 : spaceB pages = false
  · rw [if_pos h1] at h; omega
  · rw [if_neg h1] at h
    by_cases h2 : 64 < bs.length
    · rw [if_pos h2] at h; omega
    · rw [if_neg h2] at h
      by_cases h3 : bs.any (fun b => !insB pages b.1 b.2.1) = true
      · rw [if_pos h3] at h; omega
      · rw [if_neg h3] at h
        by_cases h4 : clash bs = true
        · rw [if_pos h4] at h; omega
        · refine ⟨by simpa using h1, by omega, fun b hb => ?_, fun i k hi hk => ?_⟩
          · cases hc : insB pages b.1 b.2.1 with
            | true => rfl
            | false => exact absurd (List.any_eq_true.2 ⟨b, hb, by rw [hc]; rfl⟩) h3
          · cases hc : overB (bs.getD i b0) (bs.getD k b0) with
            | false => rfl
            | true => exact absurd (clash_iff.2 ⟨i, k, hi, hk, hc⟩) h4
/-- the error of a move -/
def possB (pages : Int) (bs : List B3) (m : Int × Int) : Int :=
  if m.1 < 0 ∨ (bs.length : Int) ≤ m.1 then 4
  else if (bs.getD m.1.toNat b0).2.2 = true then 9
  else if insB pages m.2 (bs.getD m.1.toNat b0).2.1 = false then 2
  else if bs.any (fun c => overB c (m.2, (bs.getD m.1.toNat b0).2.1, false)) = true then 8 else 0
/-- a block moved -/
def movB (bs : List B3) (m : Int × Int) : List B3 := bs.set m.1.toNat (m.2, (bs.getD m.1.toNat b0).2)
/-- the blocks after moves, or the first error -/
def afterL (pages : Int) : List B3 → List (Int × Int) → List B3 × Int
  | bs, [] => (bs, 0)
  | bs, m :: r => if possB pages bs m = 0 then afterL pages (movB bs m) r else ([], possB pages bs m)
def afterB (pages : Int) (bs : List B3) (ms : List (Int × Int)) : List B3 × Int :=
  if chkB pages bs = 0 then if 256 < ms.length then ([], 3) else afterL pages bs ms else ([], chkB pages bs)
/-- the pages that are moved, added to n, or the first error -/
def costL (bs : List B3) : Int → List (Int × Int) → Int × Int
  | n, [] => (n, 0)
  | n, m :: r => if m.1 < 0 ∨ (bs.length : Int) ≤ m.1 then (0, 4) else if isOrd (bs.getD m.1.toNat b0).2.1 = false then (0, 7) else costL bs (n + pw (bs.getD m.1.toNat b0).2.1) r
def costB (bs : List B3) (ms : List (Int × Int)) : Int × Int := if 256 < ms.length then (0, 3) else costL bs 0 ms
end Go.Pol
