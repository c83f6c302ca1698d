/- Walks: slices.IndexFunc and slices.ContainsFunc over blocks; bits.OnesCount; the program's Check. -/
import Derived.Test.YtifdgabfnnkghaaVWalkE
namespace Go.Pol
def isPow2 (x : Nat) : Bool := List.elem x [1, 2, 4, 8, 16, 32, 64, 128, 256, 512, 1024]
theorem isPow2_space : ∀ x : Nat, x ≤ 1024 → spaceB (x : Int) = isPow2 x := by decide +kernel
/-- blocks sorted by their pages: is one not behind the one ahead of it? -/
def adjB (us : List B3) : Bool := (List.range us.length).any fun i => decide (0 < i) && decide ((us.getD i b0).1 < (us.getD (i - 1) b0).1 + pw (us.getD (i - 1) b0).2.1)
theorem adjB_iff {us : List B3} : adjB us = true ↔ ∃ i, i + 1 < us.length ∧ (us.getD (i + 1) b0).1 < (us.getD i b0).1 + pw (us.getD i b0).2.1 := by
  unfold adjB
  simp only [List.any_eq_true, List.mem_range, Bool.and_eq_true, decide_eq_true_eq]
  constructor
  · rintro ⟨i, h1, h2, h3⟩
    exact ⟨i - 1, by omega, by rw [show i - 1 + 1 = i by omega]; exact h3⟩
  · rintro ⟨i, h1, h2⟩
    exact ⟨i + 1, h1, by omega, by simpa using h2⟩
theorem clash_false {bs : List B3} : clash bs = false ↔ bs.Pairwise (fun a b => overB a b = false) := by
  rw [List.pairwise_iff_getElem]
  constructor
  · intro h i j hi hj hij
    cases hc : overB bs[i] bs[j] with
    | false => rfl
    | true =>
      have : clash bs = true := clash_iff.2 ⟨j, i, hj, hij, by rw [overB_comm]; simpa [List.getD_eq_getElem?_getD, hi, hj] using hc⟩
      rw [h] at this; cases this
  · intro h
    cases hc : clash bs with
    | false => rfl
    | true =>
      obtain ⟨i, k, hi, hk, ho⟩ := clash_iff.1 hc
      have := h k i (by omega) hi hk
      rw [overB_comm] at ho
      simp only [List.getD_eq_getElem?_getD, List.getElem?_eq_getElem hi, List.getElem?_eq_getElem (show k < bs.length by omega), Option.getD_some] at ho
      rw [this] at ho; cases ho
theorem clash_perm {bs us : List B3} (h : us.Perm bs) : clash us = clash bs := by
  have : clash us = false ↔ clash bs = false := by
    rw [clash_false, clash_false]
    exact h.pairwise_iff (fun {a b} hab => by rw [overB_comm]; exact hab)
  cases h1 : clash us <;> cases h2 : clash bs <;> simp_all
theorem adjB_clash {us : List B3} (hs : us.Pairwise (fun a b => a.1 ≤ b.1)) : adjB us = clash us := by
  have hle : ∀ i j, i < j → j < us.length → (us.getD i b0).1 ≤ (us.getD j b0).1 := fun i j hij hj => by
    have := (List.pairwise_iff_getElem.1 hs) i j (by omega) hj hij
    simpa [List.getD_eq_getElem?_getD, hj, show i < us.length by omega] using this
  have hiff : adjB us = true ↔ clash us = true := by
    rw [adjB_iff, clash_iff]
    constructor
    · rintro ⟨i, h1, h2⟩
      refine ⟨i + 1, i, h1, by omega, overB_iff.2 ⟨h2, ?_⟩⟩
      have := hle i (i + 1) (by omega) h1
      have := pw_pos (us.getD (i + 1) b0).2.1
      omega
    · rintro ⟨i, k, h1, h2, h3⟩
      have h3' := (overB_iff.1 h3).1
      -- some neighbours between k and i overlap
      by_cases hx : ∃ j, k ≤ j ∧ j < i ∧ (us.getD (j + 1) b0).1 < (us.getD j b0).1 + pw (us.getD j b0).2.1
      · obtain ⟨j, hj1, hj2, hj3⟩ := hx
        exact ⟨j, by omega, hj3⟩
      · exfalso
        have hno : (us.getD k b0).1 + pw (us.getD k b0).2.1 ≤ (us.getD (k + 1) b0).1 := by
          by_cases hq : (us.getD (k + 1) b0).1 < (us.getD k b0).1 + pw (us.getD k b0).2.1
          · exact absurd ⟨k, Nat.le_refl _, h2, hq⟩ hx
          · omega
        have : (us.getD (k + 1) b0).1 ≤ (us.getD i b0).1 := by
          by_cases hq : k + 1 = i
          · rw [hq]; omega
          · exact hle (k + 1) i (by omega) h1
        omega
  cases h1 : adjB us <;> cases h2 : clash us <;> simp_all
end Go.Pol
namespace Go.Proofs.Ytifdgabfnnkghaa
open Go Go.Proofs Go.RowKit Go.Pol Go.Shelf
attribute [local go_sem] Oper.semAt_some Go.Pol.wide_fn Go.Pol.wide_depth Go.Pol.wide_fn' Go.Pol.wide_depth'

/-- where the first entry is that a test holds of -/
def idxB (p : B3 → Bool) : List B3 → Nat → Int
  | [], _ => -1
  | x :: r, k => if p x = true then (k : Int) else idxB p r (k + 1)
theorem idxB_any (p : B3 → Bool) : ∀ (bs : List B3) (k : Nat), decide (0 ≤ idxB p bs k) = bs.any p
  | [], k => by simp [idxB]
  | x :: r, k => by
    rw [idxB]
    cases h : p x with
    | true => simp [h]
    | false => simp [h, idxB_any p r (k + 1)]
theorem idxB_bound (p : B3 → Bool) : ∀ (bs : List B3) (k : Nat), -1 ≤ idxB p bs k ∧ idxB p bs k < (bs.length : Int) + k
  | [], k => by simp [idxB]; omega
  | x :: r, k => by
    have := idxB_bound p r (k + 1)
    rw [idxB]
    split
    · simp only [List.length_cons]; omega
    · simp only [List.length_cons]; omega
set_option maxRecDepth 100000 in
theorem indexT_any (p : B3 → Bool) (g : Nat) (lb : Array Value) (A : Option Addr) (n cap : Nat) (bs : List B3) (w : World) (hn : bs.length = n) (hm : n ≤ maxLen) (hr : RT w w.heap.size A bs)
    (eg : ∀ args w, (callFunc g args).run Try.prog w = .ok (.enter g args) w)
    (hp : ∀ x ∈ bs, ∀ W, Below w.heap.size w W → Calls Try.prog g (#[bV x] ++ lb) W fun e W' => e = .returned (.bool (p x)) ∧ Below W.heap.size W W') :
    Calls Try.prog 50 #[.slice A n cap, .func (.func g) #[] lb] w fun e w' => e = .returned (.int .i64 (idxB p bs 0)) ∧ Below w.heap.size w w' := by
  unfold maxLen at hm
  obtain ⟨R, hR⟩ : ∃ R, idxB p bs 0 = R := ⟨_, rfl⟩
  rw [hR]
  have hR' := Lib.hid hR
  have hn' := Lib.hid hn
  have hp' := Lib.hid hp
  clear hR hn hp
  go_enter Try.func50, Try.ntmps50
  go_wp2_with fail
  go_loopw [8] (fun i wr => ∃ k : Nat, k ≤ n ∧ i = .int .i64 k ∧ Below w.heap.size w wr ∧ Hid (idxB p (bs.drop k) k = R)) (fun i _ => n - (intOf i).toNat)
  case atStart => exact ⟨0, by omega, rfl, Below.refl _ _, by simpa using hR'⟩
  case round =>
    obtain ⟨k, hk, rfl, hB, hH⟩ := hrel
    by_cases hlt : k < n
    · have hlt' : decide ((k : Int) < (n : Int)) = true := by simpa using hlt
      obtain ⟨b, o, rfl, _, c1, c2, c3⟩ := ((hr.below hB).more hB.size).at_ (k := k) (by have := hn'.out; omega)
      have HP := Lib.hid (hp'.out (bs.getD k b0) (getD_memB (by have := hn'.out; omega)) wr hB)
      have hst := hH.out
      rw [Go.Pol.drop_cons b0 bs k (by have := hn'.out; omega), idxB] at hst
      generalize bs.getD k b0 = x at *
      obtain ⟨xa, xo, xc⟩ := x
      simp only at c1 c2 c3
      cases hpx : p (xa, xo, xc) with
      | true =>
        rw [hpx] at HP
        rw [if_pos hpx] at hst
        have hst' := Lib.hid hst
        clear hst hH hpx
        go_wp2_with fail
        refine HP.out.mono ?_
        rintro e w1 ⟨rfl, hb1⟩
        go_wp2_with fail
        go_ret
        exact ⟨ret_int hst'.out, hB.trans (hb1.mono hB.size)⟩
      | false =>
        rw [hpx] at HP
        rw [if_neg (by simp [hpx])] at hst
        have hst' := Lib.hid hst
        clear hst hH hpx
        go_wp2_with fail
        refine HP.out.mono ?_
        rintro e w1 ⟨rfl, hb1⟩
        go_wp2_with fail
        go_roundw
        case rel => exact ⟨k + 1, by omega, by go_num, hB.trans (hb1.mono hB.size), hst'⟩
        case measure => simp [intOf]; omega
    · obtain rfl : k = n := by omega
      have hlt' : decide ((k : Int) < (k : Int)) = false := by simp
      have hst := hH.out
      rw [List.drop_of_length_le (by have := hn'.out; omega)] at hst
      have hst' := Lib.hid (show -1 = R from hst)
      clear hst hH
      go_wp2_with fail
      go_ret
      exact ⟨ret_int hst'.out, hB⟩
theorem containsT_any (p : B3 → Bool) (g : Nat) (lb : Array Value) (A : Option Addr) (n cap : Nat) (bs : List B3) (w : World) (hn : bs.length = n) (hm : n ≤ maxLen) (hr : RT w w.heap.size A bs)
    (eg : ∀ args w, (callFunc g args).run Try.prog w = .ok (.enter g args) w)
    (hp : ∀ x ∈ bs, ∀ W, Below w.heap.size w W → Calls Try.prog g (#[bV x] ++ lb) W fun e W' => e = .returned (.bool (p x)) ∧ Below W.heap.size W W') :
    Calls Try.prog 32 #[.slice A n cap, .func (.func g) #[] lb] w fun e w' => e = .returned (.bool (bs.any p)) ∧ Below w.heap.size w w' := by
  have HI := Lib.hid (indexT_any p g lb A n cap bs w hn hm hr eg hp)
  have hE := Lib.hid (idxB_any p bs 0)
  generalize idxB p bs 0 = R at *
  generalize bs.any p = S at *
  go_enter Try.func32, Try.ntmps32
  go_wp2_with fail
  refine HI.out.mono ?_
  rintro e w1 ⟨rfl, hb1⟩
  go_wp2_with fail
  go_ret
  exact ⟨ret_bool hE.out, hb1⟩
set_option maxRecDepth 100000 in
theorem ones64_any (x : Nat) (hx : x ≤ 1024) (w : World) : Calls Try.prog 49 #[.int .u64 (x : Int)] w fun e w' => ∃ r : Int, e = .returned (.int .i64 r) ∧ w' = w ∧ (r != 1) = !isPow2 x := by
  go_enter Try.func49, Try.ntmps49
  go_wp2_with fail
  go_ret
  refine ⟨_, rfl, rfl, ?_⟩
  clear w
  revert x
  decide +kernel
theorem ones_any (x : Nat) (hx : x ≤ 1024) (w : World) : Calls Try.prog 31 #[.int .u64 (x : Int)] w fun e w' => ∃ r : Int, e = .returned (.int .i64 r) ∧ w' = w ∧ (r != 1) = !isPow2 x := by
  have H := Lib.hid (ones64_any x hx w)
  go_enter Try.func31, Try.ntmps31
  go_wp2_with fail
  refine H.out.mono ?_
  rintro e w1 ⟨r, rfl, rfl, hr⟩
  go_wp2_with fail
  go_ret
  exact ⟨r, rfl, rfl, hr⟩


end Go.Proofs.Ytifdgabfnnkghaa
