/- Merged texts. Walks: the reference's usable pages and guards as sets. Plain laws on plans of guards: the reference's sets are the program's; numbers of usable pages; what is hit. Plain law: the usable pages of a plan by number: they ascend, lead back, and there are as many as their sum says; no run is longer than Every. Plain laws: how many pages of a span are in a set. Plain words for layer 13 (huge): what 'open' learns of a state, and when it does not. The kit's contracts for slices.SortFunc and slices.Grow, laid at this program in plain words (written by the kit's lay-plain; numbers of this seat). slices.SortFunc over spans, by their first pages: the kit's contract at this program, and what the slice owns behind it. The sort of spans at whatever length; of of whatever valid spans of the call's own. Walks: slices.Grow of nil, slices.Concat of two sets, Union. Walks: slices.Clone of spans, Of; the reference's Marks and Of. Plain functions: the pieces of spans between multiples of a size. A range over a function value whose function keeps cells of its own that it makes while it runs (X: what of all blocks is the function's); a region of such a function whose last operations hand a value to the loop. Walks: Count; Pieces as a function value that is ranged over. A slice of its own that a loop over a function value appends to, while the function makes blocks of its own: the slice's block is none of those. Walks: what Pieces hands back; the law's list of what such a function value goes through. Plain laws: pieces of one page are the pages; how many pieces there are. A range over a function value whose function ranges over another one: what the body must leave, it must leave too where it ends the loop. Walks: Pages as a function value that is ranged over: it ranges over the pieces of one page, and hands each to the loop. Walks: what Pages hands back; the law's list of what such a function value goes through. Walks: slices.IndexFunc and slices.ContainsFunc over ints; open$1. What the struct 'look' of layer 13 holds, as cells; what a store into it makes of that. Plain laws for layer 13: what the loops over pages count. Walks: Best. -/
import Derived.Deep.MidRow
import Derived.Shelf.SlSortCmp.WholeK
import Derived.Ground.SlsfProg
import Derived.Shelf.Spec.SlicesGrow
import Derived.Ground.Names8Prog
import Derived.Test.YtpabnbhbcphfiaaGreatProg
import Derived.Sort.OwnSortedInts
import Derived.Laws.AppendOwnNone
import Derived.OrdersIn
import Derived.Laws.AppendOwn
import Derived.Test.YtpabnbhbcphfiaaGreatS1
namespace Go.Pol
open Go Go.RowKit
theorem MarksAre.set {cs : Array Value} {f g : Nat → Bool} (h : MarksAre cs f) (k : Nat) (hk : k < 1024) (b : Bool) (hb : g k = b) (hg : ∀ j, j ≠ k → g j = f j) : MarksAre (cs.setIfInBounds k (.bool b)) g :=
  ⟨by simp [h.size], fun j hj => by
    by_cases hjk : j = k
    · subst hjk
      rw [Array.getElem?_setIfInBounds_self_of_lt (by rw [h.size]; exact hk), hb]
    · rw [Array.getElem?_setIfInBounds_ne (Ne.symm hjk), hg j hjk]; exact h.at_ j hj⟩
theorem rangeAt_blk {w : World} {g : Nat} {t : TypeId} {cs : Array Value} (h : Blk w g t cs) : w.rangeAt g 0 cs.toList := fun j v hj => by
  rw [Nat.zero_add, h.cell]; simpa using hj
end Go.Pol
namespace Go.Proofs.YtpabnbhbcphfiaaGreat
open Go Go.Proofs Go.RowKit Go.Pol
theorem zeros_are : MarksAre Tryz.zeroCells186 (fun _ => false) := by
  have e : Tryz.zeroCells186 = Array.replicate 1024 (.bool false) := by kernel_rfl
  rw [e]
  exact ⟨by simp, fun k hk => by simp [hk]⟩

end Go.Proofs.YtpabnbhbcphfiaaGreat
namespace Go.Pol
open Go
/-! numbers -/
theorem pagesX_cons (a c : Int) : ∀ (j : Nat), pagesX (a, c) (j + 1) = a :: pagesX (a + 1, c) j
  | j => by
    simp only [pagesX, List.range_succ_eq_map, List.map_cons, List.map_map]
    congr 1
    · simp
    · apply List.map_congr_left
      intro k _
      simp only [Function.comp]
      omega
/-! what is hit -/
end Go.Pol
namespace Go.Pol
open Go
theorem pages_sorted : ∀ (L : List Sp) (e : Int), (∀ x ∈ L, 1 ≤ x.2) → formOk e L = true → (pagesOf L).Pairwise (· < ·) ∧ ∀ p ∈ pagesOf L, e < p ∧ mem p L = true
  | [], _, _, _ => ⟨by simp [pagesOf], fun p hp => by simp [pagesOf] at hp⟩
  | x :: r, e, h, hf => by
    have hf' := formOk_cons.1 hf
    have hx := h x (by simp)
    obtain ⟨h1, h2⟩ := pages_sorted r (x.1 + x.2) (fun y hy => h y (by simp [hy])) hf'.2
    have hX : ∀ p ∈ pagesX x x.2.toNat, x.1 ≤ p ∧ p < x.1 + x.2 := by
      intro p hp
      simp only [pagesX, List.mem_map, List.mem_range] at hp
      obtain ⟨k, hk, rfl⟩ := hp
      omega
    rw [pagesOf_cons]
    constructor
    · rw [List.pairwise_append]
      refine ⟨?_, h1, fun a ha b hb => by have := hX a ha; have := (h2 b hb).1; omega⟩
      unfold pagesX
      rw [List.pairwise_map]
      exact List.pairwise_lt_range.imp (fun {a b} h => by omega)
    · intro p hp
      rcases List.mem_append.1 hp with h3 | h3
      · have := hX p h3
        exact ⟨by omega, mem_cons'.2 (.inl this)⟩
      · exact ⟨by have := (h2 p h3).1; omega, mem_cons'.2 (.inr (h2 p h3).2)⟩
theorem sum_form : ∀ (s : List Sp) (e : Int), e < 1024 → (∀ x ∈ s, vld x = true) → formOk e s = true → sumS s ≤ 1023 - e
  | [], e, he, _, _ => by simp [sumS]; omega
  | x :: s, e, he, hv, hf => by
    rw [formOk_cons] at hf
    have hx := vld_iff.1 (hv x (by simp))
    have e1 : sumS (x :: s) = x.2 + sumS s := by simp [sumS]
    rw [e1]
    cases s with
    | nil => simp [sumS]; omega
    | cons y r =>
      have hf2 := formOk_cons.1 hf.2
      have hy := vld_iff.1 (hv y (by simp))
      have := sum_form (y :: r) (x.1 + x.2) (by omega) (fun z hz => hv z (List.mem_cons_of_mem _ hz)) hf.2
      omega
end Go.Pol
namespace Go.Pol
open Go
def cntN (f : Int → Bool) : Nat → Int → Int
  | 0, _ => 0
  | k + 1, a => (if f a = true then 1 else 0) + cntN f k (a + 1)
/-- how many pages of a span are in some spans -/
def cntF (us : List Sp) (x : Sp) : Int := cntN (fun q => mem q us) x.2.toNat x.1
theorem cntN_snoc (f : Int → Bool) : ∀ (k : Nat) (a : Int), cntN f (k + 1) a = cntN f k a + if f (a + k) = true then 1 else 0
  | 0, a => by simp [cntN]
  | k + 1, a => by
    rw [cntN, cntN_snoc f k (a + 1), cntN, show a + 1 + (k : Int) = a + (k + 1 : Nat) by omega]
    omega
theorem cntN_split (f : Int → Bool) : ∀ (j k : Nat) (a : Int), cntN f (j + k) a = cntN f j a + cntN f k (a + j)
  | 0, k, a => by simp [cntN]
  | j + 1, k, a => by
    rw [show j + 1 + k = (j + k) + 1 by omega, cntN, cntN_split f j k (a + 1), cntN, show a + 1 + (j : Int) = a + (j + 1 : Nat) by omega]
    omega
theorem cntN_congr {f g : Int → Bool} : ∀ (k : Nat) (a : Int), (∀ q, a ≤ q → q < a + k → f q = g q) → cntN f k a = cntN g k a
  | 0, a, _ => rfl
  | k + 1, a, h => by
    rw [cntN, cntN, h a (by omega) (by omega), cntN_congr k (a + 1) (fun q h1 h2 => h q (by omega) (by omega))]
theorem cntN_bound (f : Int → Bool) : ∀ (k : Nat) (a : Int), 0 ≤ cntN f k a ∧ cntN f k a ≤ k
  | 0, a => by simp [cntN]
  | k + 1, a => by
    have := cntN_bound f k (a + 1)
    rw [cntN]
    split <;> omega
theorem cntN_all {f : Int → Bool} : ∀ (k : Nat) (a : Int), (∀ q, a ≤ q → q < a + k → f q = true) → cntN f k a = k
  | 0, a, _ => rfl
  | k + 1, a, h => by
    rw [cntN, h a (by omega) (by omega), if_pos rfl, cntN_all k (a + 1) (fun q h1 h2 => h q (by omega) (by omega))]
    omega
theorem cntN_none {f : Int → Bool} : ∀ (k : Nat) (a : Int), (∀ q, a ≤ q → q < a + k → f q = false) → cntN f k a = 0
  | 0, a, _ => rfl
  | k + 1, a, h => by
    rw [cntN, h a (by omega) (by omega), if_neg (by decide), cntN_none k (a + 1) (fun q h1 h2 => h q (by omega) (by omega))]
    omega
theorem cntN_full {f : Int → Bool} : ∀ (k : Nat) (a : Int), cntN f k a = k → ∀ q, a ≤ q → q < a + k → f q = true
  | 0, a, _, q, h1, h2 => by omega
  | k + 1, a, h, q, h1, h2 => by
    have hb := cntN_bound f k (a + 1)
    rw [cntN] at h
    by_cases hfa : f a = true
    · rw [if_pos hfa] at h
      by_cases hqa : q = a
      · rw [hqa]; exact hfa
      · exact cntN_full k (a + 1) (by omega) q (by omega) (by omega)
    · rw [if_neg hfa] at h; omega
theorem cnt_sum : ∀ (us : List Sp) (e a : Int), formOk e us = true → (∀ x ∈ us, vld x = true) → (∀ x ∈ us, a ≤ x.1) → a ≤ 1024 → cntN (fun q => mem q us) (1024 - a).toNat a = sumS us
  | [], _, a, _, _, _, _ => by rw [cntN_none (f := fun q => mem q []) _ _ (fun q _ _ => rfl)]; simp [sumS]
  | x :: r, e, a, hf, hv, ha, hle => by
    have hf' := formOk_cons.1 hf
    have hx := vld_iff.1 (hv x (by simp))
    have hax := ha x (by simp)
    have hrv : ∀ y ∈ r, vld y = true := fun y hy => hv y (by simp [hy])
    have low : ∀ q, mem q r = true → x.1 + x.2 < q := fun q hq => mem_lt hf'.2 (fun y hy => by have := vld_iff.1 (hrv y hy); omega) hq
    have hr : ∀ y ∈ r, x.1 + x.2 ≤ y.1 := fun y hy => by
      have := vld_iff.1 (hrv y hy)
      have := low y.1 (List.any_eq_true.2 ⟨y, hy, by simp; omega⟩)
      omega
    have ih := cnt_sum r (x.1 + x.2) (x.1 + x.2) hf'.2 hrv hr (by omega)
    have e1 : (1024 - a).toNat = (x.1 - a).toNat + (x.2.toNat + (1024 - (x.1 + x.2)).toNat) := by omega
    rw [e1, cntN_split, cntN_split, show a + ((x.1 - a).toNat : Int) = x.1 by omega, show x.1 + (x.2.toNat : Int) = x.1 + x.2 by omega]
    rw [cntN_none (x.1 - a).toNat a (fun q h1 h2 => by
      rw [Bool.eq_false_iff]; intro hh
      rcases mem_cons'.1 hh with h | h
      · omega
      · have := low q h; omega)]
    rw [cntN_all x.2.toNat x.1 (fun q h1 h2 => mem_cons'.2 (.inl (by omega)))]
    rw [cntN_congr (g := fun q => mem q r) _ _ (fun q h1 h2 => by
      show mem q (x :: r) = mem q r
      rw [mem_cons, Bool.eq_iff_iff]
      simp
      omega), ih]
    have : sumS (x :: r) = x.2 + sumS r := by simp [sumS]
    omega
theorem count_law {us : List Sp} (h : Can us) : cntF us (0, 1024) = sumS us := by
  have := cnt_sum us (-1) 0 h.2 h.1 (fun x hx => (vld_iff.1 (h.1 x hx)).1) (by omega)
  exact this
end Go.Pol
namespace Go.Pol

/-- how many pages of group g lie in a set -/
def grpF (us : List Sp) (g : Int) : Int := cntF us (16 * g, 16)
def hugOk (C : List Sp) : Int → List Int → Bool
  | _, [] => true
  | e, g :: r => decide (16 ≤ grpF C g) && decide (e < g) && hugOk C g r
def inG (g : Int) : Bool := decide (0 ≤ g) && decide (g < 64)
/-- does a set lie in another one? -/
def subF (L C : List Sp) : Bool := (List.range 1024).all fun p => !mem (p : Int) L || mem (p : Int) C
def chkH (C L : List Sp) (H : List Int) : Int :=
  if chkS C ≠ 0 then chkS C else if chkS L ≠ 0 then chkS L else if H.all inG = false then 7
  else if subF L C = false then 6 else if hugOk C (-1) H = false then 6 else 0

theorem inG_iff {g : Int} : inG g = true ↔ 0 ≤ g ∧ g < 64 := by simp [inG]
theorem grpF_bound (us : List Sp) (g : Int) : 0 ≤ grpF us g ∧ grpF us g ≤ 16 := by
  have := cntN_bound (fun q => mem q us) 16 (16 * g)
  exact this
theorem hugOk_cons {C : List Sp} {e g : Int} {r : List Int} : hugOk C e (g :: r) = true ↔ 16 ≤ grpF C g ∧ e < g ∧ hugOk C g r = true := by simp [hugOk, and_assoc]
theorem hugOk_mem {C : List Sp} : ∀ {H : List Int} {e : Int}, hugOk C e H = true → ∀ g ∈ H, e < g ∧ grpF C g = 16
  | [], _, _ => by simp
  | x :: r, e, h => by
    obtain ⟨h1, h2, h3⟩ := hugOk_cons.1 h
    intro g hg
    rcases List.mem_cons.1 hg with rfl | hg
    · exact ⟨h2, by have := (grpF_bound C g).2; omega⟩
    · obtain ⟨a, b⟩ := hugOk_mem h3 g hg
      exact ⟨by omega, b⟩
theorem chkH_zero {C L : List Sp} {H : List Int} : chkH C L H = 0 ↔ Can C ∧ Can L ∧ (∀ g ∈ H, inG g = true) ∧ subF L C = true ∧ hugOk C (-1) H = true := by
  rw [← chkS_zero, ← chkS_zero]
  unfold chkH
  by_cases h1 : chkS C = 0
  · rw [if_neg (by simp [h1])]
    by_cases h2 : chkS L = 0
    · rw [if_neg (by simp [h2])]
      by_cases h3 : H.all inG = true
      · rw [if_neg (by simp [h3])]
        rw [List.all_eq_true] at h3
        by_cases h4 : subF L C = true
        · rw [if_neg (by simp [h4])]
          by_cases h5 : hugOk C (-1) H = true
          · rw [if_neg (by simp [h5])]
            exact ⟨fun _ => ⟨h1, h2, h3, h4, h5⟩, fun _ => rfl⟩
          · rw [if_pos (by simpa using h5)]
            exact ⟨fun h => absurd h (by decide), fun h => absurd h.2.2.2.2 h5⟩
        · rw [if_pos (by simpa using h4)]
          exact ⟨fun h => absurd h (by decide), fun h => absurd h.2.2.2.1 h4⟩
      · rw [if_pos (by simpa using h3)]
        exact ⟨fun h => absurd h (by decide), fun h => absurd (List.all_eq_true.2 h.2.2.1) h3⟩
    · rw [if_pos h2]
      exact ⟨fun h => absurd h h2, fun h => absurd h.2.1 h2⟩
  · rw [if_pos h1]
    exact ⟨fun h => absurd h h1, fun h => absurd h.1 h1⟩
end Go.Pol
namespace Go.Proofs.YtpabnbhbcphfiaaGreat
open Go Go.Proofs Go.Shelf
def sortSp_ren : Go.Shelf.Ren := ⟨fun | 6 => 217 | 15 => 124 | 14 => 239 | 28 => 181 | 29 => 182 | 20 => 250 | 21 => 251 | 22 => 252 | 23 => 253 | 24 => 254 | 25 => 255 | 26 => 256 | 27 => 257 | 46 => 269 | 47 => 270 | 48 => 271 | 49 => 272 | 50 => 273 | 57 => 278 | n => n, fun | 22 => 22 | 24 => 115 | 25 => 297 | 3 => 3 | 39 => 222 | 0 => 0 | 53 => 265 | 55 => 267 | 4 => 4 | 46 => 324 | 45 => 323 | 50 => 328 | 5 => 5 | 9 => 9 | 66 => 338 | 70 => 235 | 76 => 346 | 77 => 218 | n => n, fun | n => n⟩
theorem sortSp : Go.Proofs.SlLaysF0.n6 Tryz.prog sortSp_ren := {
  mixed := by kernel_rfl
  f6 := ⟨Tryz.f217.name, by decide, Tryz.func217.trans (congrArg some (by kernel_rfl))⟩
  f14 := ⟨Tryz.f239.name, by decide, Tryz.func239.trans (congrArg some (by kernel_rfl))⟩
  f15 := Tryz.func124.trans (congrArg some (by kernel_rfl))
  f20 := ⟨Tryz.f250.name, by decide, Tryz.func250.trans (congrArg some (by kernel_rfl))⟩
  f21 := ⟨Tryz.f251.name, by decide, Tryz.func251.trans (congrArg some (by kernel_rfl))⟩
  f22 := ⟨Tryz.f252.name, by decide, Tryz.func252.trans (congrArg some (by kernel_rfl))⟩
  f23 := ⟨Tryz.f253.name, by decide, Tryz.func253.trans (congrArg some (by kernel_rfl))⟩
  f24 := ⟨Tryz.f254.name, by decide, Tryz.func254.trans (congrArg some (by kernel_rfl))⟩
  f25 := ⟨Tryz.f255.name, by decide, Tryz.func255.trans (congrArg some (by kernel_rfl))⟩
  f26 := ⟨Tryz.f256.name, by decide, Tryz.func256.trans (congrArg some (by kernel_rfl))⟩
  f27 := ⟨Tryz.f257.name, by decide, Tryz.func257.trans (congrArg some (by kernel_rfl))⟩
  f28 := Tryz.func181.trans (congrArg some (by kernel_rfl))
  f29 := Tryz.func182.trans (congrArg some (by kernel_rfl))
  f46 := ⟨Tryz.f269.name, by decide, Tryz.func269.trans (congrArg some (by kernel_rfl))⟩
  f47 := Tryz.func270.trans (congrArg some (by kernel_rfl))
  f48 := Tryz.func271.trans (congrArg some (by kernel_rfl))
  f49 := ⟨Tryz.f272.name, by decide, Tryz.func272.trans (congrArg some (by kernel_rfl))⟩
  f50 := ⟨Tryz.f273.name, by decide, Tryz.func273.trans (congrArg some (by kernel_rfl))⟩
  f57 := ⟨Tryz.f278.name, by decide, Tryz.func278.trans (congrArg some (by kernel_rfl))⟩
  t0 := Tryz.underlying0
  a0 := Tryz.isAgg0
  z0 := Tryz.sizeOf0
  v0 := Tryz.zeroValue0
  t3 := Tryz.underlying3
  a3 := Tryz.isAgg3
  z3 := Tryz.sizeOf3
  v3 := Tryz.zeroValue3
  t4 := Tryz.underlying4
  a4 := Tryz.isAgg4
  z4 := Tryz.sizeOf4
  v4 := Tryz.zeroValue4
  t5 := Tryz.underlying5
  a5 := Tryz.isAgg5
  z5 := Tryz.sizeOf5
  v5 := Tryz.zeroValue5
  t9 := Tryz.underlying9
  a9 := Tryz.isAgg9
  z9 := Tryz.sizeOf9
  v9 := Tryz.zeroValue9
  t22 := Tryz.underlying22
  a22 := Tryz.isAgg22
  z22 := Tryz.sizeOf22
  v22 := Tryz.zeroValue22
  t25 := Tryz.underlying297
  a25 := Tryz.isAgg297
  z25 := Tryz.sizeOf297
  v25 := Tryz.zeroValue297
  t39 := Tryz.underlying222
  a39 := Tryz.isAgg222
  z39 := Tryz.sizeOf222
  v39 := Tryz.zeroValue222
  t45 := Tryz.underlying323
  a45 := Tryz.isAgg323
  z45 := Tryz.sizeOf323
  v45 := Tryz.zeroValue323
  t46 := Tryz.underlying324
  a46 := Tryz.isAgg324
  z46 := Tryz.sizeOf324
  v46 := Tryz.zeroValue324
  t50 := Tryz.underlying328
  a50 := Tryz.isAgg328
  z50 := Tryz.sizeOf328
  v50 := Tryz.zeroValue328
  t53 := Tryz.underlying265
  a53 := Tryz.isAgg265
  z53 := Tryz.sizeOf265
  v53 := Tryz.zeroValue265
  t55 := Tryz.underlying267
  a55 := Tryz.isAgg267
  z55 := Tryz.sizeOf267
  v55 := Tryz.zeroValue267
  t66 := Tryz.underlying338
  a66 := Tryz.isAgg338
  z66 := Tryz.sizeOf338
  v66 := Tryz.zeroValue338
  t70 := Tryz.underlying235
  a70 := Tryz.isAgg235
  z70 := Tryz.sizeOf235
  v70 := Tryz.zeroValue235
  t76 := Tryz.underlying346
  a76 := Tryz.isAgg346
  z76 := Tryz.sizeOf346
  v76 := Tryz.zeroValue346
  t77 := Tryz.underlying218
  a77 := Tryz.isAgg218
  z77 := Tryz.sizeOf218
  v77 := Tryz.zeroValue218 }
end Go.Proofs.YtpabnbhbcphfiaaGreat
namespace Go.Proofs.YtpabnbhbcphfiaaGreat
open Go Go.Proofs Go.RowKit Go.Pol Go.Shelf Go.Sort

def encSp (x : Sp) : List Value := [.int .i64 x.1, .int .i64 x.2]
theorem flat_cells (us : List Sp) : (flatK encSp 2 us.toArray).toList = spCells us := by
  apply List.ext_getElem?
  intro t
  have hl := spCells_len us
  by_cases ht : t < us.length * 2
  · have h1 : (flatK encSp 2 us.toArray).toList[t]? = some ((encSp us.toArray[t / 2]!)[t % 2]!) := by
      rw [← get_flatK encSp 2 us.toArray t (by simpa using ht)]
      rw [Array.getElem?_toList, getElem!_pos _ t (by simpa using ht), Array.getElem?_eq_getElem (by simpa using ht)]
    rw [h1]
    have hk : t / 2 < us.length := by omega
    have hat := spCells_at us (t / 2) hk
    have hg : us.toArray[t / 2]! = us.getD (t / 2) (0,0) := by
      rw [List.getD_eq_getElem?_getD, List.getElem?_eq_getElem hk, getElem!_pos _ _ (by simpa using hk)]; simp
    rw [hg]
    rcases Nat.mod_two_eq_zero_or_one t with h | h
    · rw [h, show t = t / 2 * 2 by omega, hat.1]; simp [encSp]
    · rw [h]
      have e : t = t / 2 * 2 + 1 := by omega
      generalize t / 2 = k at *
      subst e
      rw [hat.2]; simp [encSp]
  · rw [List.getElem?_eq_none (by simp; omega), List.getElem?_eq_none (by omega)]
theorem heap_putF {w : World} {g m : Nat} {os : Array Obj} {cur : Array Value} {e : TypeId} {fr : Nat × Nat} (F : Array Value) (hb : w.heap[g]? = some (.cells cur e fr)) :
    (grow (putRow id (Sort.ahead w m) g 0 F) os).heap[g]? = some (.cells (putCells id 0 F cur) e fr) := by
  have hg : g < w.heap.size := (Array.getElem?_eq_some_iff.1 hb).1
  rw [heap_grow_old _ _ (by simpa using hg)]
  simp [putRow, mapBlock, Sort.ahead, Array.getElem?_modify, hb, onCells]
theorem grownBy_putF {w : World} {g m : Nat} {os : Array Obj} (F : Array Value) : w.grownBy (grow (putRow id (Sort.ahead w m) g 0 F) os) (some g) := by
  refine ⟨rfl, rfl, rfl, by simp, fun k hk hne => ?_⟩
  rw [heap_grow_old _ _ (by simpa using hk)]
  have : g ≠ k := fun e => hne (by rw [e])
  simp [putRow, mapBlock, Sort.ahead, Array.getElem?_modify, this]
theorem take_putF (cur F : Array Value) (h : F.size ≤ cur.size) : (putCells id 0 F cur).toList.take F.size = F.toList := by
  apply List.ext_getElem?
  intro j
  by_cases hj : j < F.size
  · rw [List.getElem?_take_of_lt hj, Array.getElem?_toList]
    simp [putCells, hj, show j < cur.size by omega]
  · rw [List.getElem?_take_eq_none (by omega), List.getElem?_eq_none (by simp; omega)]
theorem owns_putF {w : World} {base g n cap m : Nat} {e : TypeId} {os : Array Obj} {xs : List Value} (F : Array Value) (hF : F.size = n * 2) (h : w.ownsRow base e 2 (.slice (some ⟨g, 0, none⟩) n cap) n xs) :
    (grow (putRow id (Sort.ahead w m) g 0 F) os).ownsRow base e 2 (.slice (some ⟨g, 0, none⟩) n cap) n F.toList := by
  rcases h.2 with ⟨h0, _⟩ | ⟨g', cap', cur, hv, hbase, hb, h1, h2, h3, _⟩
  · cases h0
  cases hv
  exact ⟨by simpa using hF, .inr ⟨g, cap, _, rfl, hbase, heap_putF _ hb, h1, h2, by simp [putCells, h3], by rw [← hF]; exact take_putF cur F (by rw [hF, h3]; exact Nat.mul_le_mul_right 2 h1)⟩⟩
theorem holds_own {w : World} {base g n cap : Nat} {e : TypeId} {us : List Sp} (hn : us.length = n) (h : w.ownsRow base e 2 (.slice (some ⟨g, 0, none⟩) n cap) n (spCells us)) : HoldsK encSp 2 w g 0 us.toArray := by
  intro j hj
  have hj' : j < us.length * 2 := by simpa using hj
  rw [Nat.zero_add]
  refine ⟨?_, h.frozenAt j⟩
  rw [h.cellAt j (by omega), ← flat_cells, Array.getElem?_toList, getElem!_pos _ j hj, Array.getElem?_eq_getElem hj]
  rfl


theorem cmpLays (blk off size : Nat) (w : World) : CmpLays Tryz.prog 218 #[] encSp 2 (fun x y => cmpI x.1 y.1) blk off size w :=
  fun m os dk _ x y => (of1_any x y _).mono (by rintro e w' ⟨he, rfl⟩; exact ⟨he, 0, _, by rw [alloc_eq_grow, alloc_eq_grow, grow_grow]; rfl⟩)
theorem ltSp (x y : Sp) : ltOf (fun x y : Sp => cmpI x.1 y.1) x y = decide (x.1 < y.1) := by
  unfold ltOf cmpI
  by_cases h1 : x.1 < y.1
  · simp [h1]
  · by_cases h2 : y.1 < x.1 <;> simp [h1, h2]
theorem swoSp : SWO (ltOf fun x y : Sp => cmpI x.1 y.1) where
  irrefl x := by rw [ltSp]; simp
  trans x y z h1 h2 := by rw [ltSp] at *; simp at *; omega
  ntrans x y z h1 h2 := by rw [ltSp] at *; simp at *; omega
theorem of1_enters : ∀ args w, (callFunc 218 args).run Tryz.prog w = .ok (.enter 218 args) w := enters_of Tryz.func218 (by kernel_rfl) rfl

set_option maxHeartbeats 1000000 in
/-- the sort of a slice of spans of the call's own that holds some -/
theorem sortSome_any (base : Nat) (v : Value) (us : List Sp) (w : World) (hlen : us.length ≤ 100000) (hbase : base ≤ w.heap.size) (hne : us ≠ []) (hrow : w.ownsRow base 115 2 v us.length (spCells us)) :
    Calls Tryz.prog 217 #[v, .func (.func 218) #[] #[]] w fun e w' => e = .returned (.tuple #[]) ∧ ∃ us' : List Sp, us'.Perm us ∧ us'.Pairwise (fun a b => a.1 ≤ b.1) ∧ w'.ownsRow base 115 2 v us.length (spCells us') ∧ Go.RowKit.Below base w w' := by
  have hpos : 0 < us.length := List.length_pos_iff.2 hne
  obtain ⟨g, cap, rfl, hg1, hg2⟩ := hrow.form hpos
  have hcon := AnyQ.slices_SortFunc sortSp 2 Tryz.isAgg115 Tryz.sizeOf115 encSp (fun _ => rfl) (fun x v hv => by simp [encSp] at hv; rcases hv with rfl | rfl <;> rfl) (fun x y => cmpI x.1 y.1) swoSp 218 #[] g 0 cap us.toArray w of1_enters (cmpLays g 0 us.toArray.size w) (holds_own rfl hrow) hg2 (by simp; omega)
  change Calls Tryz.prog 217 _ _ _ at hcon
  rw [List.size_toArray] at hcon
  refine hcon.mono ?_
  rintro e w' ⟨rfl, d', n, os, hp, hs, rfl⟩
  obtain ⟨us'⟩ := d'
  obtain ⟨hp1, _, hp2⟩ := hp
  simp only [List.size_toArray] at hp1 hp2
  refine ⟨rfl, us', by
    have h1 : (Array.extract us'.toArray 0 us.length).toList = us' := by simp [← hp1]
    have h2 : (Array.extract us.toArray 0 us.length).toList = us := by simp
    rw [h1, h2] at hp2; exact hp2, ?_, ?_, ?_⟩
  · rw [List.pairwise_iff_getElem]
    intro i j hi hj hij
    have := hs i j (Nat.zero_le _) hij (by omega)
    rw [ltSp, getElem!_pos _ j (by simpa using hj), getElem!_pos _ i (by simpa using hi)] at this
    simpa using this
  · have := owns_putF (m := n) (os := os) (flatK encSp 2 us'.toArray) (by simp [hp1]) hrow
    rw [flat_cells] at this
    exact this
  · exact (Go.RowKit.Below.refl base w).grown (grownBy_putF _) hbase (fun j hj => by cases hj; exact hg1)
end Go.Proofs.YtpabnbhbcphfiaaGreat
namespace Go.Proofs.YtpabnbhbcphfiaaGreat
open Go Go.Proofs Go.RowKit Go.Pol Go.Shelf

theorem insNone_any (A : Option Addr) (cap : Nat) (w : World) : Calls Tryz.prog 250 #[.slice A 0 cap, .int .i64 0, .int .i64 0, .func (.func 218) #[] #[]] w fun e w' => e = .returned (.tuple #[]) ∧ w' = w := by
  go_enter Tryz.func250, Tryz.ntmps250
  go_wp2_with fail
  go_loopw [8] (fun a wr => a = .int .i64 1 ∧ wr = w) (fun _ _ => 0)
  case atStart => exact ⟨rfl, rfl⟩
  case round =>
    obtain ⟨rfl, hw⟩ := hrel
    have hw' := hw.symm
    clear hw
    subst hw'
    go_wp2_with fail
    go_end0
    exact ⟨rfl, rfl⟩
theorem pdqNone_any (A : Option Addr) (cap : Nat) (w : World) : Calls Tryz.prog 239 #[.slice A 0 cap, .int .i64 0, .int .i64 0, .int .i64 0, .func (.func 218) #[] #[]] w fun e w' => e = .returned (.tuple #[]) ∧ w' = w := by
  have HI := Lib.hid (insNone_any A cap w)
  go_enter Tryz.func239, Tryz.ntmps239
  go_wp2_with fail
  go_loopw [1, 2] (fun a b wr => a = .int .i64 0 ∧ b = .int .i64 0 ∧ wr = w) (fun _ _ _ => 0)
  case atStart => exact ⟨rfl, rfl, rfl⟩
  case round =>
    obtain ⟨rfl, rfl, hw⟩ := hrel
    have hw' := hw.symm
    clear hw
    subst hw'
    go_wp2_with fail
    refine HI.out.mono ?_
    rintro e w1 ⟨rfl, hw⟩
    have hw' := hw.symm
    clear hw
    subst hw'
    go_wp2_with fail
    exact bodyPost_ret (results_none (by rfl) _ _ _) rfl ⟨rfl, rfl⟩
theorem sortNone_any (A : Option Addr) (cap : Nat) (w : World) : Calls Tryz.prog 217 #[.slice A 0 cap, .func (.func 218) #[] #[]] w fun e w' => e = .returned (.tuple #[]) ∧ w' = w := by
  have HI := Lib.hid (pdqNone_any A cap w)
  have HL := Lib.hid (fun W => len_any 0 W (by omega) (by omega))
  have e0 : ((Lib.bitLen (0 : Int).toNat : Nat) : Int) = 0 := by decide
  rw [e0] at HL
  go_enter Tryz.func217, Tryz.ntmps217
  go_wp2_with (go_at_call 124; refine (HL.out _).mono ?_; rintro e w' ⟨rfl, rfl⟩)
  refine HI.out.mono ?_
  rintro e w1 ⟨rfl, hw⟩
  have hw' := hw.symm
  clear hw
  subst hw'
  go_wp2_with fail
  go_end0
  exact ⟨rfl, rfl⟩
theorem sort_any (base : Nat) (v : Value) (us : List Sp) (w : World) (hlen : us.length ≤ 100000) (hbase : base ≤ w.heap.size) (hrow : w.ownsRow base 115 2 v us.length (spCells us)) :
    Calls Tryz.prog 217 #[v, .func (.func 218) #[] #[]] w fun e w' => e = .returned (.tuple #[]) ∧ ∃ us' : List Sp, us'.Perm us ∧ us'.Pairwise (fun a b => a.1 ≤ b.1) ∧ w'.ownsRow base 115 2 v us.length (spCells us') ∧ Below base w w' := by
  by_cases hne : us = []
  · subst hne
    obtain ⟨A, cap, rfl⟩ := own_nil_iff hrow rfl
    refine (sortNone_any A cap w).mono ?_
    rintro e w' ⟨rfl, rfl⟩
    exact ⟨rfl, [], List.Perm.refl _, List.Pairwise.nil, hrow, Below.refl _ _⟩
  · exact sortSome_any base v us w hlen hbase hne hrow
/-- of: of valid spans in a slice of the call's own -/
theorem of'_any (base : Nat) (v : Value) (us : List Sp) (w : World) (hv : ∀ y ∈ us, vld y = true) (hlen : us.length ≤ 100000) (hbase : base ≤ w.heap.size) (hrow : w.ownsRow base 115 2 v us.length (spCells us)) :
    Calls Tryz.prog 174 #[v] w fun e w' => ∃ (us' : List Sp) (v' : Value), us'.Perm us ∧ us'.Pairwise (fun a b => a.1 ≤ b.1) ∧ e = .returned v' ∧ w'.ownsRow w.heap.size 115 2 v' (ofF us').length (spCells (ofF us')) ∧ Below base w w' :=
  of_any base v us w hv hlen hbase (sort_any base v us w hlen hbase hrow) hrow
end Go.Proofs.YtpabnbhbcphfiaaGreat
namespace Go.Proofs.YtpabnbhbcphfiaaGreat
open Go Go.Proofs Go.RowKit Go.Pol Go.Shelf


theorem ru_src {w : World} {A : Option Addr} {us : List Sp} (h : RU w w.heap.size A us) : (A = none ∧ us = []) ∨ ∃ ad, A = some ad ∧ ∀ (j : Nat) (u : Value), (spCells us)[j]? = some u → w.cell? (ad.add j) = some u := by
  by_cases h0 : us = []
  · subst h0
    cases A with
    | none => exact .inl ⟨rfl, rfl⟩
    | some ad => exact .inr ⟨ad, rfl, fun j u hu => by simp [spCells] at hu⟩
  · obtain ⟨b, o, rfl, _⟩ := RU.at_' h (k := 0) (List.length_pos_iff.2 h0)
    refine .inr ⟨⟨b, o, none⟩, rfl, fun j u hu => ?_⟩
    have hl := spCells_len us
    have hj : j < us.length * 2 := by
      rw [← hl]; exact (List.getElem?_eq_some_iff.1 hu).1
    obtain ⟨k, hk⟩ : ∃ k, j = k * 2 ∨ j = k * 2 + 1 := ⟨j / 2, by omega⟩
    obtain ⟨b', o', e, _, h1, h2⟩ := RU.at_' h (k := k) (by omega)
    cases e
    have hat := spCells_at us k (by omega)
    rw [Addr.add_lit]
    rcases hk with rfl | rfl
    · rw [hat.1] at hu
      rw [← hu]; exact h1
    · rw [hat.2] at hu
      rw [← hu]; exact h2
theorem spCells_one (us : List Sp) : ∀ u ∈ spCells us, u.oneCell' = true := by
  intro u hu
  simp only [spCells, List.mem_flatMap, List.mem_cons, List.not_mem_nil, or_false] at hu
  obtain ⟨x, _, rfl | rfl⟩ := hu <;> rfl
end Go.Proofs.YtpabnbhbcphfiaaGreat
namespace Go.Pol
open Go Go.RowKit
theorem MarksAre.congr {cs : Array Value} {f g : Nat → Bool} (h : MarksAre cs f) (hg : ∀ k, k < 1024 → f k = g k) : MarksAre cs g :=
  ⟨h.size, fun k hk => by rw [← hg k hk]; exact h.at_ k hk⟩
theorem MarksAre.one {cs : Array Value} {f : Nat → Bool} (h : MarksAre cs f) : cs.all (·.oneCell') = true := by
  rw [Array.all_eq_true]
  intro i hi
  have := h.at_ i (by rw [← h.size]; exact hi)
  rw [Array.getElem?_eq_getElem hi] at this
  cases this' : cs[i] <;> simp_all [Value.oneCell']
theorem below_setCells {s : Nat} {w : World} (b : Nat) (hb : s ≤ b) : ∀ (vs : List Value) (o : Nat) (W : World), Below s w W → Below s w (W.setCells b o vs)
  | [], _, _, h => h
  | v :: vs, o, _, h => below_setCells b hb vs (o + 1) _ (h.setCell (p := ⟨b, o, none⟩) hb v)
theorem results_cell {P : Program} {fn : Func} {a : Tmp} {t : TypeId} {tmps : Array Value} {w : World} {v : Value} {p : Addr} (h : fn.results = #[.cell a t]) (ha : tmps.getD a undef = .pointer (some p)) (hl : (loadVar t p).run P w = .ok v w) :
    (results fn tmps).run P w = .ok v w := by
  have ha' : tmps[a]?.getD undef = .pointer (some p) := by rw [← ha, Array.getD_eq_getD_getElem?]
  simp [results, h, ha', asAddr, hl]
theorem blk_there {w : World} {g : Nat} {t : TypeId} {cs : Array Value} (h : Blk w g t cs) : w.there g 0 cs.size := fun j hj => by
  rw [Nat.zero_add]
  exact ⟨by rw [h.cell]; simp [hj], h.frozen j⟩
end Go.Pol
namespace Go.Proofs.YtpabnbhbcphfiaaGreat
open Go Go.Proofs Go.RowKit Go.Pol Go.Shelf

set_option maxHeartbeats 800000 in
theorem clone_any (A : Option Addr) (n cap : Nat) (us : List Sp) (w : World) (hn : us.length = n) (hm : n ≤ 1000000) (hr : RU w w.heap.size A us) :
    Calls Tryz.prog 145 #[.slice A n cap] w fun e w' => ∃ v, e = .returned v ∧ w'.ownsRow w.heap.size 115 2 v n (spCells us) ∧ Below w.heap.size w w' := by
  obtain ⟨i0, hi, hy0, hy1, hy2⟩ := infoSp_parts
  have h1 := Lib.hid hn
  clear hn
  have q36 : ∀ (w : World) (a : Option Addr) (n c n' c' : Nat), (binOp .eql 22 (.slice a n c) (.slice none n' c')).run Tryz.prog w = .ok (.bool a.isNone) w := fun w a n c n' c' => Lib.run_eql_slice_nil w _ _ a n c n' c' Tryz.underlying22
  have hb0 := (Below.refl w.heap.size w).alloc (Nat.le_refl _) (.cells #[] 115)
  have hsrc := ru_src (hr.on ((Below.refl w.heap.size w).alloc (Nat.le_refl _) (.cells #[] 115)))
  have hown : (w.alloc (.cells #[] 115)).ownsRow w.heap.size 115 2 (.slice (some ⟨w.heap.size, 0, none⟩) 0 0) 0 [] := World.ownsRow_made w #[] 0 (Nat.le_refl _) (Nat.zero_le _) (by simp)
  rcases hsrc with ⟨rfl, rfl⟩ | ⟨ad, rfl, hnews⟩
  · have hn0 : n = 0 := h1.out.symm
    subst hn0
    go_enter Tryz.func145, Tryz.ntmps145
    go_wp2_with fail
    go_ret
    exact ⟨_, rfl, World.ownsRow_nil _ _ _ _, Below.refl _ _⟩
  · go_enter Tryz.func145, Tryz.ntmps145
    go_wp2_with (refine wpList_append_own _ rfl (.tmp 5) (.tmp 6) 22 rfl w.heap.size 115 i0 (.agg #[.int .i64 0, .int .i64 0]) 2 16 Tryz.underlying22 hi hy0 hy1 hy2 rfl (by decide) _ 0 [] rfl hown ad n cap (spCells us) rfl (by rw [spCells_len, h1.out]) hnews (spCells_one us) (by unfold maxLen; omega) (by omega) (by simp) ?_; intro v' w3 hown' hgrow _)
    go_ret
    rw [Nat.zero_add, List.nil_append] at hown'
    exact ⟨_, rfl, hown', hb0.grown hgrow (by simp) (fun j hj => (hown.lt j hj).1)⟩

set_option maxHeartbeats 800000 in
theorem ofTop_any (A : Option Addr) (n cap : Nat) (us : List Sp) (w : World) (hn : us.length = n) (hm : n ≤ maxLen) (hr : RU w w.heap.size A us) :
    Calls Tryz.prog 112 #[.slice A n cap] w (SpansOwn w (if ofE us = 0 then setOf us else []) (ofE us)) := by
  have HC := Lib.hid (containsFunc_any A n cap us w hn hm hr)
  by_cases hlen : 2000 < n
  · have hlen' : decide (2000 < (n : Int)) = true := by simp; omega
    have hE : ofE us = 3 := by unfold ofE; rw [if_pos (by omega)]
    rw [hE, if_neg (by decide)]
    clear hE
    go_enter Tryz.func112, Tryz.ntmps112
    go_wp2_with fail
    go_ret2
    exact ⟨none, 0, rfl, RU.nil, by simp, by unfold maxLen; omega, fun b o e => (by cases e), Below.refl _ _, fun _ => rfl⟩
  have hlen' : decide (2000 < (n : Int)) = false := by simp; omega
  by_cases hall : us.all vld = true
  · have hE : ofE us = 0 := by unfold ofE; rw [if_neg (by omega), if_pos hall]
    have hv := (ofE_zero hE).2
    rw [hE, if_pos rfl]
    rw [hall] at HC
    have HK := Lib.hid (fun W h => clone_any A n cap us W hn (by omega) h)
    have HO := Lib.hid (fun base v W (h1 : base ≤ W.heap.size) (h2 : W.ownsRow base 115 2 v us.length (spCells us)) => of'_any base v us W hv (by omega) h1 h2)
    have hS := Lib.hid (fun (us' : List Sp) (h1 : us'.Perm us) h2 => ofF_setOf hv h1 h2)
    rw [hn] at HO
    clear hE hall hv hn
    go_enter Tryz.func112, Tryz.ntmps112
    go_wp2_with fail
    refine HC.out.mono ?_
    rintro e w1 ⟨rfl, hb1⟩
    go_wp2_with fail
    refine (HK.out _ (hr.on hb1)).mono ?_
    rintro e w2 ⟨v, rfl, hrow, hb2⟩
    have B2 := hb1.trans (hb2.mono hb1.size)
    go_wp2_with fail
    refine (HO.out _ _ _ hb2.size hrow).mono ?_
    rintro e w3 ⟨us', v', hp, hs, rfl, hrow3, hb3⟩
    rw [hS.out us' hp hs] at hrow3
    obtain ⟨A3, cap3, rfl, hru, h1, h2, h3, _⟩ := own_RU hrow3 rfl
    go_wp2_with fail
    go_ret2
    exact ⟨A3, cap3, rfl, hru, h1, h2, fun b o e => by have := h3 b o e; have := B2.size; omega, B2.trans (hb3.mono hb1.size), own_cap hrow3⟩
  · have hE : ofE us = 7 := by unfold ofE; rw [if_neg (by omega), if_neg hall]
    have hall' : us.all vld = false := by simpa using hall
    rw [hE, if_neg (by decide)]
    rw [hall'] at HC
    clear hE hall hall'
    go_enter Tryz.func112, Tryz.ntmps112
    go_wp2_with fail
    refine HC.out.mono ?_
    rintro e w1 ⟨rfl, hb1⟩
    go_wp2_with fail
    go_ret2
    exact ⟨none, 0, rfl, RU.nil, by simp, by unfold maxLen; omega, fun b o e => (by cases e), hb1, fun _ => rfl⟩

theorem marks_step (us : List Sp) (k : Nat) (hk : k < us.length) (p : Int) : mem p (us.take (k + 1)) = (mem p (us.take k) || decide ((us.getD k (0,0)).1 ≤ p ∧ p < (us.getD k (0,0)).1 + (us.getD k (0,0)).2)) := by
  rw [take_snoc us k hk, mem_append, mem_cons, mem_nil, Bool.or_false]
  congr 1
  rw [Bool.eq_iff_iff]; simp

set_option maxRecDepth 100000 in
set_option maxHeartbeats 1600000 in
theorem marks_any (A : Option Addr) (n cap : Nat) (us : List Sp) (w : World) (hn : us.length = n) (hm : n ≤ 1000000) (hr : RU w w.heap.size A us) (hv : ∀ x ∈ us, vld x = true) :
    Calls Tryz.prog 105 #[.slice A n cap] w fun e w' => ∃ cs, e = .returned (.agg cs) ∧ MarksAre cs (fun k => mem (k : Int) us) ∧ Below w.heap.size w w' := by
  obtain ⟨s, hs⟩ : ∃ s, w.heap.size = s := ⟨_, rfl⟩
  obtain ⟨W0, hW0⟩ : ∃ W0, (w.alloc (.cells Tryz.zeroCells186 186)).alloc (.cells Tryz.zeroCells186 186) = W0 := ⟨_, rfl⟩
  have hb0 : Below s w W0 := by rw [← hW0, ← hs]; exact ((Below.refl w.heap.size w).alloc (Nat.le_refl _) _).alloc (by simp) _
  have kR : Blk W0 s 186 Tryz.zeroCells186 := by rw [← hW0, ← hs]; exact (Blk.new _ _ _).alloc _
  have kM : Blk W0 (s + 1) 186 Tryz.zeroCells186 := by
    have := Blk.new (w.alloc (.cells Tryz.zeroCells186 186)) 186 Tryz.zeroCells186
    rw [World.size_alloc, hs, hW0] at this; exact this
  have hZ := zeros_are
  have hW1 := Lib.hid hW0
  have hn' := Lib.hid hn
  have hv' := Lib.hid hv
  rw [hs] at hr
  clear hW0 hn hv
  go_enter Tryz.func105, Tryz.ntmps105
  go_upto_region 2 with fail
  try simp only [Nat.add_assoc, Nat.reduceAdd]
  try rw [hs]
  rw [hW1.out]
  generalize Tryz.zeroCells186 = Z at *
  clear hW1
  go_wp2_with fail
  go_loopw [4] (fun i wr => ∃ (k : Nat) (cs : Array Value), k ≤ n ∧ i = .int .i64 k ∧ Blk wr s 186 Z ∧ Blk wr (s + 1) 186 cs ∧ MarksAre cs (fun p => mem (p : Int) (us.take k)) ∧ Below s w wr) (fun i _ => n - (intOf i).toNat)
  case atStart => exact ⟨0, Z, by omega, rfl, kR, kM, hZ.congr (fun k _ => by simp [mem_nil]), hb0⟩
  case round =>
    obtain ⟨k, cs, hk, rfl, kR, kM, hM, hB⟩ := hrel
    by_cases hlt : k < n
    · have hlt' : decide ((k : Int) < (n : Int)) = true := by simpa using hlt
      obtain ⟨b, o, rfl, hbl, hcw, hdw⟩ := RU.at_' hr (k := k) (by have := hn'.out; omega)
      have hvx := vld_iff.1 (hv'.out (us.getD k (0,0)) (by rw [List.getD_eq_getElem?_getD, List.getElem?_eq_getElem (by have := hn'.out; omega)]; simp))
      have hst := Lib.hid (marks_step us k (by have := hn'.out; omega))
      generalize us.getD k (0,0) = x at *
      obtain ⟨xa, xb⟩ := x
      dsimp only at hcw hdw hvx hst
      have hc := (hB.cell (p := ⟨b, o + k * 2, none⟩) hbl).trans hcw
      go_wp2_with fail
      go_loopw [5] (fun p wr => ∃ (j : Nat) (cs : Array Value), (j : Int) ≤ xb ∧ p = .int .i64 (xa + j) ∧ Blk wr s 186 Z ∧ Blk wr (s + 1) 186 cs ∧ MarksAre cs (fun q => mem (q : Int) (us.take k) || decide (xa ≤ (q : Int) ∧ (q : Int) < xa + j)) ∧ Below s w wr) (fun p _ => (xa + xb - intOf p).toNat)
      case atStart => exact ⟨0, cs, by omega, by simp, kR, kM, hM.congr (fun p _ => by rw [decide_eq_false (by omega), Bool.or_false]), hB⟩
      case round =>
        clear hM kM kR hc hB
        obtain ⟨j, cs, hj, rfl, kR, kM, hM, hB⟩ := hrel
        have hBs := hB.size
        have hc := (hB.cell (p := ⟨b, o + k * 2, none⟩) hbl).trans hcw
        have hd := (hB.cell (p := ⟨b, o + k * 2 + 1, none⟩) hbl).trans hdw
        have e1 := fun z : Ext wr => z.cell hc
        have e2 := fun z : Ext wr => z.cell hd
        by_cases hjx : (j : Int) < xb
        · have hj' : decide (xa + (j : Int) < xa + xb) = true := by simp; omega
          have hmm := Lib.hid (hM.set (g := fun q => mem (q : Int) (us.take k) || decide (xa ≤ (q : Int) ∧ (q : Int) < xa + (j + 1 : Nat))) (xa + j).toNat (by omega) true (by
            have e : (((xa + (j : Int)).toNat : Nat) : Int) = xa + j := by omega
            simp only [e]
            rw [decide_eq_true (by omega), Bool.or_true]) (fun q hq => by
            congr 1
            exact decide_eq_decide.2 (by omega)))
          have hold := hM.at_ (xa + j).toNat (by omega)
          generalize (mem (((xa + (j : Int)).toNat : Nat) : Int) (us.take k) || decide (xa ≤ (((xa + (j : Int)).toNat : Nat) : Int) ∧ (((xa + (j : Int)).toNat : Nat) : Int) < xa + j)) = B0 at hold
          go_upto_region 6 with fail
          refine region_ext (by kernel_rfl) (by kernel_rfl) ?_
          repeat (go_big_quiet_step (fail))
          refine wpQuiet_nil ?_
          rintro w2 ⟨⟨_, hw2⟩, rfl⟩
          have kM2 := kM.call hw2
          have kR2 := kR.call hw2
          have hB2 := hB.trans (hw2.mono (by omega))
          have fM2 := kM2.frozen
          have cM2 : w2.cell? ⟨s + 1, (xa + (j : Int)).toNat, none⟩ = some (.bool B0) := (kM2.cell _).trans hold
          have hf4 : Far (fun k => k = s + 1) w2 (w2.setCell ⟨s + 1, (xa + (j : Int)).toNat, none⟩ (.bool true)) := Far.setCell (T := fun k => k = s + 1) (p := ⟨s + 1, (xa + (j : Int)).toNat, none⟩) (Far.refl _ _) (fun _ => rfl) _
          go_wp2_with fail
          go_roundw
          case rel => exact ⟨j + 1, _, by omega, by go_num, hf4.blk kR2 (by omega), kM2.set_ _ _, hmm.out, hB2.trans (hf4.below (by have := hB2.size; omega) (fun k hk => by omega))⟩
          case measure => simp [intOf]; omega
        · have hj' : decide (xa + (j : Int) < xa + xb) = false := by simp; omega
          have hjx2 : (j : Int) = xb := by omega
          have hM2 := hM.congr (g := fun p => mem (p : Int) (us.take (k + 1))) (fun p _ => by rw [hst.out, hjx2])
          go_upto_region 6 with fail
          refine region_ext (by kernel_rfl) (by kernel_rfl) ?_
          repeat (go_big_quiet_step (fail))
          refine wpQuiet_nil ?_
          rintro w2 ⟨⟨_, hw2⟩, rfl⟩
          have kM2 := kM.call hw2
          have kR2 := kR.call hw2
          have hB2 := hB.trans (hw2.mono (by omega))
          go_wp2_with fail
          go_roundw
          case rel => exact ⟨k + 1, cs, by omega, by go_num, kR2, kM2, hM2, hB2⟩
          case measure => simp [intOf]; omega
    · have hlt' : decide ((k : Int) < (n : Int)) = false := by simp; omega
      have hkn : k = us.length := by have := hn'.out; omega
      have hMe := hM.congr (g := fun p => mem (p : Int) us) (fun p _ => by rw [hkn, List.take_length])
      have hsz := hM.size
      have hth := blk_there kR
      have hzs := hZ.size
      have hone := hM.one
      go_wp2_with (first
        | (refine wpList_load_mid rfl 186 (.tmp 3) rfl (s + 1) 0 rfl cs.toList _ (rangeAt_blk kM) Tryz.underlying186 rfl (by rw [Array.length_toList, hsz]; kernel_rfl) ?_; rw [Array.toArray_toList])
        | (refine wpList_store_mid rfl 186 (.tmp 2) (.tmp 34) rfl s 0 cs rfl rfl (by rw [hsz, ← hzs]; exact hth) (by rw [hsz]; kernel_rfl) hone ?_))
      have hrg := World.rangeAt_setCells_same wr s 0 cs.toList (by rw [Array.length_toList, hsz, ← hzs]; exact hth)
      have hB9 := below_setCells s (Nat.le_refl _) cs.toList 0 wr hB
      generalize wr.setCells s 0 cs.toList = w9 at *
      have hld := run_loadVar_mid (P := Tryz.prog) w9 s 0 186 cs.toList _ hrg Tryz.underlying186 rfl (by rw [Array.length_toList, hsz]; kernel_rfl)
      rw [Array.toArray_toList] at hld
      exact bodyPost_ret (v := .agg cs) (results_cell rfl rfl hld) rfl ⟨cs, rfl, hMe, by rw [hs]; exact hB9⟩

set_option maxHeartbeats 1600000 in
theorem refOf_any (A : Option Addr) (n cap : Nat) (us : List Sp) (w : World) (hn : us.length = n) (hm : n ≤ maxLen) (hr : RU w w.heap.size A us) :
    Calls Tryz.prog 102 #[.slice A n cap] w (SpansR w (if ofE us = 0 then setOf us else []) (ofE us)) := by
  unfold maxLen at hm
  by_cases hlen : 2000 < n
  · have hlen' : decide (2000 < (n : Int)) = true := by simp; omega
    have hE : ofE us = 3 := by unfold ofE; rw [if_pos (by omega)]
    rw [hE, if_neg (by decide)]
    clear hE
    go_enter Tryz.func102, Tryz.ntmps102
    go_wp2_with fail
    go_ret2
    exact ⟨none, 0, rfl, RU.nil, by simp, by unfold maxLen; omega, fun b o e => (by cases e), Below.refl _ _⟩
  have hlen' : decide (2000 < (n : Int)) = false := by simp; omega
  have hE : Hid (ofE us = if us.all vld = true then 0 else 7) := Lib.hid (by unfold ofE; rw [if_neg (by omega)])
  have hn' := Lib.hid hn
  have HM := Lib.hid (fun W h hv => marks_any A n cap us W hn (by omega) h hv)
  clear hn
  obtain ⟨er, her⟩ : ∃ er, ofE us = er := ⟨_, rfl⟩
  obtain ⟨S, hS⟩ : ∃ S, (if er = 0 then setOf us else []) = S := ⟨_, rfl⟩
  rw [her] at hE ⊢
  rw [hS]
  have hS' := Lib.hid hS
  clear hS her
  go_enter Tryz.func102, Tryz.ntmps102
  go_wp2_with fail
  go_loopw [4] (fun i wr => ∃ (k : Int), 0 ≤ k ∧ k ≤ n ∧ i = .int .i64 k ∧ Below w.heap.size w wr ∧ Hid (∀ j : Nat, (j : Int) < k → j < us.length → vld (us.getD j (0,0)) = true)) (fun i _ => n - (intOf i).toNat)
  case atStart => exact ⟨0, by omega, by omega, rfl, Below.refl _ _, Lib.hid (fun j hj => absurd hj (by omega))⟩
  case round =>
    obtain ⟨k, hk0, hk, rfl, hB, hL⟩ := hrel
    by_cases hlt : k < n
    · have hlt' : decide (k < (n : Int)) = true := by simpa using hlt
      obtain ⟨b, o, rfl, _, hc, hd⟩ := RU.at_' (hr.below hB) (k := k.toNat) (by have := hn'.out; omega)
      generalize hu : us.getD k.toNat (0,0) = u at *
      have hu' := Lib.hid hu; clear hu
      obtain ⟨x, y⟩ := u
      dsimp only at hc hd
      by_cases hv : vld (x, y) = true
      · have hv' : (!vld (x, y)) = false := by simp [hv]
        go_wp2_with (go_at_call 113; refine (valid_any _ _ _).mono ?_; rintro e w1 ⟨rfl, hq⟩)
        have hB1 := hB.trans (hq.mono hB.size)
        go_roundw
        case rel =>
          refine ⟨k+1, by omega, by omega, rfl, hB1, Lib.hid (fun j hj hl => ?_)⟩
          by_cases hjk : (j : Int) < k
          · exact hL.out j hjk hl
          · obtain rfl : j = k.toNat := by omega
            rw [hu'.out]; exact hv
        case measure => simp [intOf]; omega
      · have hv' : (!vld (x, y)) = true := by simpa using hv
        have hER : Hid (er = 7) := Lib.hid (by
          have hb := badAt_at us k.toNat (fun j h1 h2 => hL.out j (by omega) h2) (by have := hn'.out; omega) (by rw [hu'.out]; simpa using hv)
          rw [hE.out, if_neg]
          intro hh
          have := (badAt_all us).2 hh
          have := hn'.out
          omega)
        have hSE : Hid (S = []) := Lib.hid (by rw [← hS'.out, hER.out, if_neg (by decide)])
        clear hv
        go_wp2_with (go_at_call 113; refine (valid_any _ _ _).mono ?_; rintro e w1 ⟨rfl, hq⟩)
        go_ret2
        rw [hER.out, hSE.out]
        exact ⟨none, 0, rfl, RU.nil, by simp, by unfold maxLen; omega, fun b o e => (by cases e), hB.trans (hq.mono hB.size)⟩
    · have hlt' : decide (k < (n : Int)) = false := by simp; omega
      have hA : us.all vld = true := by rw [← badAt_all]; exact badAt_end us (fun j h2 => hL.out j (by have := hn'.out; omega) h2)
      have hER : Hid (er = 0) := Lib.hid (by rw [hE.out, if_pos hA])
      have hSE : Hid (S = setOf us) := Lib.hid (by rw [← hS'.out, hER.out, if_pos rfl])
      have hvv := List.all_eq_true.1 hA
      have HM2 := Lib.hid (fun W h => HM.out W h hvv)
      clear hA hvv HM hL
      go_wp2_with fail
      refine (HM2.out _ (hr.on hB)).mono ?_
      rintro e w1 ⟨cs, rfl, hMA, hb1⟩
      have B1 := hB.trans (hb1.mono hB.size)
      have HS := Lib.hid (refSet_any cs _ w1 hMA)
      go_wp2_with fail
      refine HS.out.mono ?_
      rintro e w2 ⟨A2, cap2, rfl, hru, h1, h2, h3, hq2⟩
      go_wp2_with fail
      go_ret2
      rw [hER.out, hSE.out]
      exact ⟨A2, cap2, rfl, hru, h1, h2, fun b o e => by have := h3 b o e; have := B1.size; omega, B1.trans (hq2.mono B1.size)⟩
end Go.Proofs.YtpabnbhbcphfiaaGreat
namespace Go.Pol
open Go
/-- the first page behind 'a' that is a multiple of the size -/
def nextM (size a : Int) : Int := (a / size + 1) * size
def cutN (size en : Int) : Nat → Int → List Sp
  | 0, _ => []
  | k + 1, a => if a < en then (a, min (nextM size a) en - a) :: cutN size en k (min (nextM size a) en) else []
def cutF (size : Int) (x : Sp) : List Sp := cutN size (x.1 + x.2) 1024 x.1
def piecesF (us : List Sp) (size : Int) : List Sp := if chkS us = 0 ∧ 1 ≤ size ∧ size ≤ 1024 then us.flatMap (cutF size) else []
theorem nextM_gt {size a : Int} (hs : 1 ≤ size) : a < nextM size a ∧ nextM size a ≤ a + size := by
  unfold nextM
  have h := Int.emod_add_mul_ediv a size
  have h1 := Int.emod_nonneg a (show size ≠ 0 by omega)
  have h2 := Int.emod_lt_of_pos a (show 0 < size by omega)
  rw [Int.add_mul, Int.one_mul, Int.mul_comm (a / size) size]
  omega
theorem cutN_step {size en a : Int} {k : Nat} (h : a < en) : cutN size en (k + 1) a = (a, min (nextM size a) en - a) :: cutN size en k (min (nextM size a) en) := by rw [cutN, if_pos h]
theorem cutN_end {size en a : Int} {k : Nat} (h : ¬ a < en) : cutN size en k a = [] := by
  cases k with
  | zero => rfl
  | succ k => rw [cutN, if_neg h]
theorem flat_take (us : List Sp) (size : Int) (k : Nat) (hk : k < us.length) : (us.take (k + 1)).flatMap (cutF size) = (us.take k).flatMap (cutF size) ++ cutF size (us.getD k (0,0)) := by
  have e : us.take (k + 1) = us.take k ++ [us.getD k (0,0)] := by
    rw [List.take_add_one, List.getElem?_eq_getElem hk, List.getD_eq_getElem?_getD, List.getElem?_eq_getElem hk]; rfl
  rw [e, List.flatMap_append]; simp
theorem flat_pre (us : List Sp) (size : Int) (k : Nat) : (us.take k).flatMap (cutF size) <+: us.flatMap (cutF size) := by
  refine ⟨(us.drop k).flatMap (cutF size), ?_⟩
  rw [← List.flatMap_append, List.take_append_drop]
end Go.Pol
namespace Go.Pol
open Go Go.RowKit

/-- the contract of a function value that is ranged over, and that makes blocks of its own (X): it goes through just 'xs' -/
def SeqX {α : Type} (P : Program) (g : Nat) (lb : Array Value) (encs : α → Array Value) (T K : Nat → Prop) (xs : List α) (w : World) : Prop :=
  ∀ (n l : Nat) (J Jx : (Nat → Prop) → List α → World → Prop) (W : World), Far (fun k => ¬ K k) w W →
    (∀ X pre A B, J X pre A → Far (fun k => T k ∨ X k) A B → J X pre B) → (∀ X pre A B, Jx X pre A → Far (fun k => T k ∨ X k) A B → Jx X pre B) →
    (∀ X X' pre A, J X pre A → (∀ k, X' k → X k ∨ A.heap.size ≤ k) → J X' pre A) →
    (∀ m X pre x W1, J X pre W1 → (∀ k, X k → k < W1.heap.size) → pre ++ [x] <+: xs → YieldAt Fence.wide m P l (encs x) W1 fun e W' =>
      (e = .returned (.bool true) ∧ J X (pre ++ [x]) W' ∧ Far (fun k => ¬ (K k ∨ X k)) W1 W') ∨ (e = .returned (.bool false) ∧ Jx X (pre ++ [x]) W')) →
    J (fun _ => False) [] W →
    CallsIn Fence.wide n P g (#[.func (.yield l) #[] #[]] ++ lb) W fun e W' => (∃ v, e = .returned v) ∧ ((∃ X, J X xs W') ∨ ∃ X pre, pre <+: xs ∧ Jx X pre W')

theorem SeqX.later {α : Type} {P : Program} {g : Nat} {lb : Array Value} {encs : α → Array Value} {T K : Nat → Prop} {xs : List α} {w w' : World}
    (h : SeqX P g lb encs T K xs w) (hw : Far (fun k => ¬ K k) w w') : SeqX P g lb encs T K xs w' :=
  fun n l J Jx W hW => h n l J Jx W (hw.trans hW)
/-- how a round's body may be left -/
def xPost {α : Type} (D : Nat) (K X : Nat → Prop) (I : (Nat → Prop) → List α → World → Prop) (Ix : Code → (Nat → Prop) → List α → World → Prop) (xs : List α) (W : World) : Exit → Act → World → Prop
  | .normal, _, W' => Far (fun k => ¬ (K k ∨ X k ∨ k = D ∨ k = D + 1)) W W' ∧ I X xs W'
  | .ret, _, W' => Far (fun k => ¬ (k = D ∨ k = D + 1)) W W' ∧ Ix .ret X xs W'
  | .exit id, _, W' => Far (fun k => ¬ (k = D ∨ k = D + 1)) W W' ∧ Ix (.exit id) X xs W'
  | .goto t, _, W' => Far (fun k => ¬ (k = D ∨ k = D + 1)) W W' ∧ Ix (.goto t) X xs W'
  | .panic _, _, _ => False
  | .outgrown, _, _ => False

theorem rangeX {α : Type} {P : Program} {g : Operand} {ps : Array Tmp} {assign body : Code} {Q : Exit → Act → World → Prop} {a : Act} {w : World}
    {gf : Nat} {lb : Array Value} (hg : a.eval g = .func (.func gf) #[] lb) (eg : ∀ args w, (callFunc gf args).run P w = .ok (.enter gf args) w)
    {encs : α → Array Value} {T K : Nat → Prop} {xs : List α} (hseq : SeqX P gf lb encs T K xs w) (hps : ∀ x, (encs x).size = ps.size)
    (hT : ∀ k, T k → k < w.heap.size) (hK : ∀ k, K k → k < w.heap.size)
    (I : (Nat → Prop) → List α → World → Prop) (Ix : Code → (Nat → Prop) → List α → World → Prop)
    (hI : ∀ X pre A B, I X pre A → Far (fun k => T k ∨ X k ∨ k = w.heap.size ∨ k = w.heap.size + 1) A B → I X pre B)
    (hIx : ∀ c X pre A B, Ix c X pre A → Far (fun k => T k ∨ X k ∨ k = w.heap.size ∨ k = w.heap.size + 1) A B → Ix c X pre B)
    (hnew : ∀ X X' pre A, I X pre A → (∀ k, X' k → X k ∨ A.heap.size ≤ k) → I X' pre A)
    (h0 : I (fun _ => False) [] w) (Ax : Nat → α → Act → World → Prop) (hAx : ∀ N x a' A B, Ax N x a' A → Far (fun k => k = w.heap.size + 1) A B → Ax N x a' B)
    (hassign : ∀ (m l : Nat) (x : α) (W : World) (C : Act → World → Prop), w.heap.size + 2 ≤ W.heap.size → (∀ a' W', Far (fun _ => False) W W' → Ax W.heap.size x a' W' → C a' W') →
      assign.wpIn (Fence.wide.inRound l) m P (Exit.then C (fun _ _ _ => False)) { tmps := (ps.zip (encs x)).foldl (fun t (p, v) => t.setIfInBounds p v) a.tmps, defers := [] } W)
    (hbody : ∀ (m l : Nat) (X : Nat → Prop) (pre : List α) (x : α) (a' : Act) (Wa W : World), w.heap.size + 2 ≤ W.heap.size → (∀ k, X k → k < Wa.heap.size ∧ k ≠ w.heap.size ∧ k ≠ w.heap.size + 1) → I X pre W → Ax Wa.heap.size x a' W → pre ++ [x] <+: xs → I X pre Wa → Far (fun k => k = w.heap.size + 1) Wa W →
      body.wpIn (Fence.wide.inRound l) m P (xPost w.heap.size K X I Ix (pre ++ [x]) W) a' W)
    (hdone : ∀ (X : Nat → Prop) (W : World), w.heap.size + 2 ≤ W.heap.size → I X xs W → W.heap[w.heap.size]? = some (.deferred (some [])) → Q .normal { a with defers := markOf w.heap.size :: a.defers } W)
    (hstop : ∀ (c : Code) (X : Nat → Prop) (pre : List α) (W : World), w.heap.size + 2 ≤ W.heap.size → pre <+: xs → Ix c X pre W → W.heap[w.heap.size]? = some (.deferred (some [])) → c.wp P Q { a with defers := markOf w.heap.size :: a.defers } W) :
    (Code.rangeFunc g ps assign body).wp P Q a w := by
  refine (wpIn_wide (n := 0)).1 (wpIn_rangeFunc fun fn _ => ?_)
  obtain ⟨D, hD⟩ : ∃ D, w.heap.size = D := ⟨_, rfl⟩
  -- the loop's record, in its three states
  obtain ⟨rec, hrec⟩ : ∃ rec : LoopState → Option Code → Loop, rec = fun s p => { state := s, pending := p, fn, tmps := a.tmps, params := ps, assign, body, defers := D } := ⟨_, rfl⟩
  obtain ⟨W1, hW1⟩ : ∃ W1, (w.alloc (.deferred (some []))).alloc (.loop (rec .ready none)) = W1 := ⟨_, rfl⟩
  have hent : (Instr.enterLoop fn a.tmps ps assign body none).run P w = .ok (D + 1, [markOf D]) W1 := by
    rw [← hW1, hrec, ← hD]; exact run_enterLoop_outer _ _ _ _ _
  have hfar : Far (fun _ => False) w W1 := by rw [← hW1]; exact ((Far.refl _ w).alloc _).alloc _
  have hl1 : W1.heap[D + 1]? = some (.loop (rec .ready none)) := by
    rw [← hW1, ← hD]
    have := World.alloc_heap_new (w.alloc (.deferred (some []))) (.loop (rec .ready none))
    rwa [World.size_alloc] at this
  have hd1 : W1.heap[D]? = some (.deferred (some [])) := by
    rw [← hW1, ← hD]; exact (Below.heap_alloc _ _ _ (by simp)).trans (World.alloc_heap_new w _)
  rw [hD] at hT hK hI hIx hAx hassign hbody hdone hstop
  refine ⟨D + 1, [markOf D], W1, { target := .fn (.func gf) lb, args := #[.func (.yield (D + 1)) #[] #[]] }, W1, gf, #[.func (.yield (D + 1)) #[] #[]] ++ lb, W1, hent, ?_, fun _ _ => trivial, ?_, fun h => (by cases h), ?_⟩
  · simp only [resolve, hg]
    simp [go_sem]
  · simp [invoke, go_sem, eg]
  -- what the iterator carries: the loop's invariant, the record, the block for deferred calls
  let J : (Nat → Prop) → List α → World → Prop := fun X pre W => I X pre W ∧ W.heap[D + 1]? = some (.loop (rec .ready none)) ∧ W.heap[D]? = some (.deferred (some [])) ∧ ¬ X D ∧ ¬ X (D + 1)
  let Jx : (Nat → Prop) → List α → World → Prop := fun X pre W => ∃ c, Ix c X pre W ∧ W.heap[D + 1]? = some (.loop (rec .done (some c))) ∧ W.heap[D]? = some (.deferred (some [])) ∧ ¬ X D ∧ ¬ X (D + 1)
  have hnT : ∀ k, T k → k ≠ D ∧ k ≠ D + 1 := fun k hk => by have := hT k hk; omega
  have hnK : ∀ k, K k → k ≠ D ∧ k ≠ D + 1 := fun k hk => by have := hK k hk; omega
  have up : ∀ {X : Nat → Prop} {k : Nat}, T k ∨ X k → T k ∨ X k ∨ k = D ∨ k = D + 1 := fun h => h.elim .inl (fun h => .inr (.inl h))
  refine (hseq _ (D + 1) J Jx W1 (hfar.mono (fun _ _ h => h.elim))
    (fun X pre A B h hf => ⟨hI X pre A B h.1 (hf.mono fun _ _ ht => up ht), hf.same h.2.1 (fun h' => h'.elim (fun h => (hnT _ h).2 rfl) h.2.2.2.2), hf.same h.2.2.1 (fun h' => h'.elim (fun h => (hnT _ h).1 rfl) h.2.2.2.1), h.2.2.2⟩)
    (fun X pre A B h hf => by
      obtain ⟨c, h1, h2, h3, h4, h5⟩ := h
      exact ⟨c, hIx c X pre A B h1 (hf.mono fun _ _ ht => up ht), hf.same h2 (fun h' => h'.elim (fun h => (hnT _ h).2 rfl) h5), hf.same h3 (fun h' => h'.elim (fun h => (hnT _ h).1 rfl) h4), h4, h5⟩)
    (fun X X' pre A h hX => by
      have l1 : D < A.heap.size := (Array.getElem?_eq_some_iff.1 h.2.2.1).1
      have l2 : D + 1 < A.heap.size := (Array.getElem?_eq_some_iff.1 h.2.1).1
      exact ⟨hnew X X' pre A h.1 hX, h.2.1, h.2.2.1, fun hd => (hX _ hd).elim h.2.2.2.1 (fun h => by omega), fun hd => (hX _ hd).elim h.2.2.2.2 (fun h => by omega)⟩)
    ?_ ⟨hI _ [] w W1 h0 (hfar.mono fun _ _ h => h.elim), hl1, hd1, id, id⟩).mono ?_
  · -- a round
    rintro m X pre x Wa ⟨hi, hl, hd, hXD, hXE⟩ hXlt hpre
    have hlt : D + 1 < Wa.heap.size := (Array.getElem?_eq_some_iff.1 hl).1
    have hy := run_yield (P := P) (args := encs x) hl (by rw [hrec]; exact hps x)
    rw [hrec] at hy
    refine ⟨fn, _, assign, body, hy, roundIn_of_wpIn trivial (hassign m (D + 1) x Wa _ (by omega) fun a' Wb hab hax => ?_)⟩
    have hlb := hab.same hl id
    have hdb := hab.same hd id
    have hib := hI X pre Wa Wb hi (hab.mono fun _ _ h => h.elim)
    have hltb : D + 1 < Wb.heap.size := (Array.getElem?_eq_some_iff.1 hlb).1
    refine ⟨_, run_beginRound hlb (by rw [hrec]), ?_⟩
    obtain ⟨Wc, hWc⟩ : ∃ Wc, Wb.putObj (D + 1) (.loop { rec .ready none with state := .busy }) = Wc := ⟨_, rfl⟩
    rw [hWc]
    have hbc : Far (fun k => k = D + 1) Wb Wc := by rw [← hWc]; exact Far.putObj (T := fun k => k = D + 1) (Far.refl _ Wb) (fun _ => rfl) _
    have hlc : Wc.heap[D + 1]? = some (.loop { rec .ready none with state := .busy }) := by rw [← hWc]; exact World.putObj_heap_same hltb
    have hdc : Wc.heap[D]? = some (.deferred (some [])) := hbc.same hdb (by omega)
    have hltc : D + 1 < Wc.heap.size := (Array.getElem?_eq_some_iff.1 hlc).1
    refine wpIn_mono (hbody m (D + 1) X pre x a' Wa Wc (by omega) (fun k hk => ⟨hXlt k hk, fun h => hXD (h ▸ hk), fun h => hXE (h ▸ hk)⟩) (hI X pre Wb Wc hib (hbc.mono fun _ _ h => .inr (.inr (.inr h)))) (hAx _ x a' Wb Wc hax hbc) hpre hi ((hab.mono fun _ _ h => h.elim : Far (fun k => k = D + 1) Wa Wb).trans hbc)) ?_
    -- what 'endRound' makes of it
    have fin : ∀ (j : Option Code) (Wd : World), Far (fun k => ¬ (k = D ∨ k = D + 1)) Wc Wd →
        (Instr.endRound (D + 1) j).run P Wd = .ok (.bool j.isNone) (Wd.putObj (D + 1) (.loop (rec (if j.isNone then .ready else .done) j))) ∧
        (Wd.putObj (D + 1) (.loop (rec (if j.isNone then .ready else .done) j))).heap[D + 1]? = some (.loop (rec (if j.isNone then .ready else .done) j)) ∧
        (Wd.putObj (D + 1) (.loop (rec (if j.isNone then .ready else .done) j))).heap[D]? = some (.deferred (some [])) := fun j Wd hcd => by
      have hld := hcd.same hlc (fun h => h (.inr rfl))
      have he := run_endRound (P := P) j hld
      rw [hrec] at he ⊢
      exact ⟨he, World.putObj_heap_same (Array.getElem?_eq_some_iff.1 hld).1, (World.putObj_heap_other (by omega)).trans (hcd.same hdc (fun h => h (.inl rfl)))⟩
    have back : ∀ (Y : Nat → Prop) (o : Obj) (Wd : World), Far (fun k => T k ∨ Y k ∨ k = D ∨ k = D + 1) Wd (Wd.putObj (D + 1) o) := fun Y o Wd => (Far.refl _ Wd).putObj (fun _ => .inr (.inr (.inr rfl))) o
    intro e a3 Wd hp
    cases e with
    | normal =>
      obtain ⟨hcd, hid⟩ := hp
      obtain ⟨h1, h2, h3⟩ := fin none Wd (hcd.mono fun k _ h h' => h (.inr (.inr h')))
      refine ⟨_, _, h1, .inl ⟨rfl, ⟨hI _ _ _ _ hid (back _ _ Wd), h2, h3, hXD, hXE⟩, ?_⟩⟩
      refine (((hab.mono fun _ _ h => h.elim : Far (fun k => ¬ (K k ∨ X k)) Wa Wb).trans (hbc.mono fun k _ h hk => hk.elim (fun hk => (hnK k hk).2 h) (fun hk => hXE (h ▸ hk)))).trans (hcd.mono fun k _ h hk => h (hk.elim .inl (fun h => .inr (.inl h))))).putObj (fun _ hk => hk.elim (fun hk => (hnK _ hk).2 rfl) hXE) _
    | ret =>
      obtain ⟨hcd, hid⟩ := hp
      obtain ⟨h1, h2, h3⟩ := fin (some .ret) Wd hcd
      exact ⟨_, _, h1, .inr ⟨rfl, .ret, hIx _ _ _ _ _ hid (back _ _ Wd), h2, h3, hXD, hXE⟩⟩
    | exit id =>
      obtain ⟨hcd, hid⟩ := hp
      obtain ⟨h1, h2, h3⟩ := fin (some (.exit id)) Wd hcd
      exact ⟨_, _, h1, .inr ⟨rfl, .exit id, hIx _ _ _ _ _ hid (back _ _ Wd), h2, h3, hXD, hXE⟩⟩
    | goto t =>
      obtain ⟨hcd, hid⟩ := hp
      obtain ⟨h1, h2, h3⟩ := fin (some (.goto t)) Wd hcd
      exact ⟨_, _, h1, .inr ⟨rfl, .goto t, hIx _ _ _ _ _ hid (back _ _ Wd), h2, h3, hXD, hXE⟩⟩
    | panic ch => exact hp.elim
    | outgrown => exact hp.elim
  · -- behind the iterator
    have back : ∀ (Y : Nat → Prop) (o : Obj) (Wd : World), Far (fun k => T k ∨ Y k ∨ k = D ∨ k = D + 1) Wd (Wd.putObj (D + 1) o) := fun Y o Wd => (Far.refl _ Wd).putObj (fun _ => .inr (.inr (.inr rfl))) o
    rintro e W2 ⟨⟨v, rfl⟩, h2⟩
    rcases h2 with ⟨X, hi, hl, hd, _⟩ | ⟨X, pre, hpre, c, hi, hl, hd, _⟩
    · have he := run_endLoop (P := P) hl (by rw [hrec]; simp)
      rw [hrec] at he
      have hlt : D + 1 < W2.heap.size := (Array.getElem?_eq_some_iff.1 hl).1
      exact ⟨none, _, he, hdone _ _ (by rw [World.putObj_size]; omega) (hI _ _ _ _ hi (back _ _ W2)) ((World.putObj_heap_other (by omega)).trans hd)⟩
    · have he := run_endLoop (P := P) hl (by rw [hrec]; simp)
      rw [hrec] at he
      have hlt : D + 1 < W2.heap.size := (Array.getElem?_eq_some_iff.1 hl).1
      exact ⟨some c, _, he, (wpIn_wide (n := 0)).2 (hstop c _ pre _ (by rw [World.putObj_size]; omega) hpre (hIx _ _ _ _ _ hi (back _ _ W2)) ((World.putObj_heap_other (by omega)).trans hd))⟩


/-! a region of the function itself whose last operations come one behind the other, behind all others -/
end Go.Pol
namespace Go.Proofs.YtpabnbhbcphfiaaGreat
open Go Go.Proofs Go.RowKit Go.Pol Go.Shelf
attribute [local go_sem] Oper.semAt_some Go.Pol.wide_fn Go.Pol.wide_depth Go.Pol.wide_fn' Go.Pol.wide_depth'

set_option maxRecDepth 100000 in
set_option maxHeartbeats 1600000 in
theorem pieces1_seq (A : Option Addr) (n cap : Nat) (us : List Sp) (size : Int) (B1 B2 : Nat) (K : Nat → Prop) (w : World) (hK1 : K B1) (hK2 : K B2)
    (k1 : Blk w B1 22 #[.slice A n cap]) (k2 : Blk w B2 3 #[.int .i64 size]) (hn : us.length = n) (hm : n ≤ maxLen) (hr : RU w w.heap.size A us) (hown : us ≠ [] → ∀ b o, A = some ⟨b, o, none⟩ → K b) :
    SeqX Tryz.prog 236 #[.pointer (some ⟨B1, 0, none⟩), .pointer (some ⟨B2, 0, none⟩)] spV (fun _ => False) K (piecesF us size) w := by
  intro m l J Jx W hW hJ hJx hnew hY h0
  have kB1 := hW.blk k1 (by simpa using hK1)
  have kB2 := hW.blk k2 (by simpa using hK2)
  have far_ru : ∀ {W1 W2 : World} {N : Nat} {T : Nat → Prop}, RU W1 N A us → Far T W1 W2 → (∀ k, K k → ¬ T k) → RU W2 N A us := fun h hf hT => by
    by_cases h0 : us = []
    · subst h0; exact RU.nil
    · exact hf.ru h (fun b o e => hT b (hown h0 b o e))
  have hrW : RU W W.heap.size A us := (far_ru hr hW (fun k hk h => h hk)).more hW.size
  have HC := Lib.hid (spCheck_any A n cap us W hn hm hrW)
  refine callsIn_of_wp Tryz.func236 rfl trivial ?_ rfl
  simp only [Tryz.ntmps236, List.size_toArray, List.length_cons, List.length_nil, Nat.reduceAdd, Nat.reduceSub, Array.replicate_succ, Array.replicate_zero, List.push_toArray, List.append_toArray, List.nil_append, List.cons_append]
  have c1 := kB1.cell
  by_cases hc : chkS us = 0
  case neg =>
    have hE : Hid (piecesF us size = []) := Lib.hid (by unfold piecesF; rw [if_neg (fun h => hc h.1)])
    generalize chkS us = er at *
    have hc' : (er != 0) = true := by simpa using hc
    gi_wp2_with (gi_at_call 161; refine (callsIn_wide.2 HC.out).mono ?_; rintro e w1 ⟨rfl, hq⟩; have hJ1 := hJ _ [] W w1 h0 (.of_below hq))
    refine bodyPost_ret (results_none rfl _ _ _) rfl ?_
    exact ⟨⟨_, rfl⟩, .inl ⟨_, by rw [hE.out]; exact hJ1⟩⟩
  rw [hc] at HC
  by_cases hs1 : size < 1
  case pos =>
    have hE : Hid (piecesF us size = []) := Lib.hid (by unfold piecesF; rw [if_neg (fun h => by omega)])
    have hs1' : decide (size < 1) = true := by simpa using hs1
    gi_wp2_with (gi_at_call 161; refine (callsIn_wide.2 HC.out).mono ?_; rintro e w1 ⟨rfl, hq⟩; have hJ1 := hJ _ [] W w1 h0 (.of_below hq); have c2 := (kB2.call hq).cell)
    refine bodyPost_ret (results_none rfl _ _ _) rfl ?_
    exact ⟨⟨_, rfl⟩, .inl ⟨_, by rw [hE.out]; exact hJ1⟩⟩
  have hs1' : decide (size < 1) = false := by simpa using hs1
  by_cases hs2 : 1024 < size
  case pos =>
    have hE : Hid (piecesF us size = []) := Lib.hid (by unfold piecesF; rw [if_neg (fun h => by omega)])
    have hs2' : decide (1024 < size) = true := by simpa using hs2
    gi_wp2_with (gi_at_call 161; refine (callsIn_wide.2 HC.out).mono ?_; rintro e w1 ⟨rfl, hq⟩; have hJ1 := hJ _ [] W w1 h0 (.of_below hq); have c2 := (kB2.call hq).cell)
    refine bodyPost_ret (results_none rfl _ _ _) rfl ?_
    exact ⟨⟨_, rfl⟩, .inl ⟨_, by rw [hE.out]; exact hJ1⟩⟩
  have hs2' : decide (1024 < size) = false := by simpa using hs2
  have hP : Hid (piecesF us size = us.flatMap (cutF size)) := Lib.hid (by unfold piecesF; rw [if_pos ⟨hc, by omega, by omega⟩])
  have hcan := chkS_zero.1 hc
  have hlen := hcan.len
  have hvl := Lib.hid hcan.1
  have hn' := Lib.hid hn
  have hn512 : n ≤ 512 := by omega
  clear hcan hc hn
  gi_wp2_with (gi_at_call 161; refine (callsIn_wide.2 HC.out).mono ?_; rintro e w1 ⟨rfl, hq⟩; have kB1a := kB1.call hq; have kB2a := kB2.call hq; have c1a := kB1a.cell; have c2a := kB2a.cell)
  have hJ1 := hJ _ [] W w1 h0 (.of_below hq)
  have hr1 : RU w1 W.heap.size A us := hrW.below hq
  clear hr hrW HC h0 kB1 kB2 c1
  have hwz : W.heap.size ≤ w1.heap.size := hq.size
  gi_loopw [21] (fun i wr => ∃ k : Nat, k ≤ n ∧ i = .int .i64 k ∧ W.heap.size ≤ wr.heap.size ∧ J (fun _ => False) ((us.take k).flatMap (cutF size)) wr ∧ Blk wr B1 22 #[.slice A n cap] ∧ Blk wr B2 3 #[.int .i64 size] ∧ RU wr W.heap.size A us) (fun i _ => n - (intOf i).toNat)
  case atStart => exact ⟨0, by omega, rfl, hwz, hJ1, kB1a, kB2a, hr1⟩
  case round =>
    clear hJ1 kB1a kB2a hr1 c1a c2a hwz hq
    obtain ⟨k, hk, rfl, hwz, hJs, kB1, kB2, hru⟩ := hrel
    by_cases hlt : k < n
    · have hlt' : decide ((k : Int) < (n : Int)) = true := by simpa using hlt
      obtain ⟨b, o, rfl, hbl, hc, hd⟩ := RU.at_' hru (k := k) (by have := hn'.out; omega)
      have hvx := vld_iff.1 (hvl.out (us.getD k (0,0)) (by rw [List.getD_eq_getElem?_getD, List.getElem?_eq_getElem (by have := hn'.out; omega)]; simp))
      have hft := Lib.hid (flat_take us size k (by have := hn'.out; omega))
      have hfp := Lib.hid (flat_pre us size (k + 1))
      generalize us.getD k (0,0) = x at *
      obtain ⟨xa, xb⟩ := x
      dsimp only at hc hd hvx
      have kX := Blk.new wr 115 #[.int .i64 xa, .int .i64 xb]
      have hfa : Far (fun _ => False) wr (wr.alloc (.cells #[.int .i64 xa, .int .i64 xb] 115)) := (Far.refl _ wr).alloc _
      have hJ2 := hJ _ _ _ _ (hnew _ (fun k => k = wr.heap.size) _ wr hJs (fun j hj => .inr (by omega))) (hfa.mono fun _ _ h => h.elim)
      have kB1b := kB1.alloc (.cells #[.int .i64 xa, .int .i64 xb] 115)
      have kB2b := kB2.alloc (.cells #[.int .i64 xa, .int .i64 xb] 115)
      have hrub := far_ru hru hfa (fun _ _ h => h)
      have hszb : W.heap.size ≤ (wr.alloc (.cells #[.int .i64 xa, .int .i64 xb] 115)).heap.size := by simp; omega
      have hbx0 : wr.heap.size < (wr.alloc (.cells #[.int .i64 xa, .int .i64 xb] 115)).heap.size := by simp
      obtain ⟨L0, hL0⟩ : ∃ L0, (us.take k).flatMap (cutF size) = L0 := ⟨_, rfl⟩
      have hft' : Hid ((us.take (k + 1)).flatMap (cutF size) = L0 ++ cutF size (xa, xb)) := Lib.hid (by rw [hft.out, hL0])
      rw [hL0] at hJ2
      clear hft hL0
      gi_wp2_with fail
      generalize wr.alloc (.cells #[.int .i64 xa, .int .i64 xb] 115) = wa at *
      generalize wr.heap.size = bx at *
      clear hJs kB1 kB2 hru hfa hc hd hbl hwz
      gi_loopw [6] (fun at_ wr => ∃ (a : Int) (f : Nat) (don : List Sp), at_ = .int .i64 a ∧ xa ≤ a ∧ a ≤ 1024 ∧ xa + xb - a ≤ f ∧ W.heap.size ≤ wr.heap.size ∧ bx < wr.heap.size ∧ J (fun k => k = bx) (L0 ++ don) wr ∧ Blk wr B1 22 #[.slice (some ⟨b, o, none⟩) n cap] ∧ Blk wr B2 3 #[.int .i64 size] ∧ RU wr W.heap.size (some ⟨b, o, none⟩) us ∧ Blk wr bx 115 #[.int .i64 xa, .int .i64 xb] ∧ Hid (cutF size (xa, xb) = don ++ cutN size (xa + xb) f a)) (fun at_ _ => (xa + xb - intOf at_).toNat)
      case atStart => exact ⟨xa, 1024, [], rfl, by omega, by omega, by omega, hszb, hbx0, by rw [List.append_nil]; exact hJ2, kB1b, kB2b, hrub, kX, Lib.hid rfl⟩
      case round =>
        clear hJ2 kB1b kB2b hrub kX hszb hbx0
        obtain ⟨a, f, don, rfl, ha0, ha1, haf, hwz, hbx, hJs, kB1, kB2, hru, kX, hcut⟩ := hrel
        have cX := kX.cell
        by_cases hlt2 : a < xa + xb
        · have hlt2' : decide (a < xa + xb) = true := by simpa using hlt2
          obtain ⟨f', rfl⟩ : ∃ f', f = f' + 1 := ⟨f - 1, by omega⟩
          obtain ⟨q, hq⟩ : ∃ q, a / size = q := ⟨_, rfl⟩
          have hdiv : Int.tdiv a size = q := by rw [← hq]; exact Int.tdiv_eq_ediv_of_nonneg (by omega)
          have hq0 : 0 ≤ q := by rw [← hq]; exact Int.ediv_nonneg (by omega) (by omega)
          have hq1 : q ≤ a := by rw [← hq]; exact Int.ediv_le_self _ (by omega)
          obtain ⟨M, hM⟩ : ∃ M, nextM size a = M := ⟨_, rfl⟩
          have hMg := nextM_gt (size := size) (a := a) (by omega)
          rw [hM] at hMg
          have hmul : wrap64 ((q + 1) * size) = M := by rw [mul_wrap64 _ _ (by omega) (by omega), ← hM, nextM, hq]
          have hcs : Hid (cutF size (xa, xb) = (don ++ [(a, min M (xa + xb) - a)]) ++ cutN size (xa + xb) f' (min M (xa + xb))) := Lib.hid (by rw [hcut.out, cutN_step hlt2, hM]; simp)
          have hs0 : (size == 0) = false := by simp; omega
          clear hcut hq hM
          gi_upto_region 6 with (gi_at_call 207; refine (callsIn_wide.2 (end_any xa xb _ (by omega) (by omega))).mono ?_; rintro e w2 ⟨rfl, hq2⟩)
          have kX2 := kX.call hq2
          have kB12 := kB1.call hq2
          have kB22 := kB2.call hq2
          have hru2 := hru.below (hq2.mono hwz)
          have hJ2 := hJ _ _ wr w2 hJs (.of_below hq2)
          have hwz2 := Nat.le_trans hwz hq2.size
          have hbx2 := Nat.lt_of_lt_of_le hbx hq2.size
          clear kX kB1 kB2 hru hJs hwz hbx hq2 cX
          have e1 := fun z : Ext w2 => (z.blk kX2).cell
          have e2 := fun z : Ext w2 => (z.blk kB22).cell
          have HE : Hid (∀ z : Ext w2, Calls Tryz.prog 207 #[.agg #[.int .i64 xa, .int .i64 xb]] z.w fun e w'' => e = .returned (.int .i64 (xa + xb)) ∧ ∃ t : Ext w2, w'' = t.w) := Lib.hid (fun z => Ext.call (end_any xa xb _ (by omega) (by omega)))
          refine wpIn_wide.2 ?_
          refine region_ext (by kernel_rfl) (by kernel_rfl) ?_
          repeat (go_big_quiet_step ((go_at_call 207; exact HE.out _)))
          refine wpQuiet_nil ?_
          rintro w3 ⟨⟨_, hw3⟩, rfl⟩
          have hM2 : a < min M (xa + xb) ∧ min M (xa + xb) ≤ xa + xb := by omega
          generalize min M (xa + xb) = c at *
          have kX3 := kX2.call hw3
          have kB13 := kB12.call hw3
          have kB23 := kB22.call hw3
          have hru3 := hru2.below (hw3.mono hwz2)
          have hJ3 := hJ _ _ w2 w3 hJ2 (.of_below hw3)
          have hwz3 := Nat.le_trans hwz2 hw3.size
          have hbx3 := Nat.lt_of_lt_of_le hbx2 hw3.size
          clear kX2 kB12 kB22 hru2 hJ2 hwz2 hbx2 hw3 e1 e2 HE hmul hdiv hMg
          have hpre : Hid ((L0 ++ don) ++ [(a, c - a)] <+: piecesF us size) := Lib.hid (by
            rw [hP.out]
            refine List.IsPrefix.trans ?_ hfp.out
            rw [hft'.out, hcs.out]
            exact ⟨cutN size (xa + xb) f' c, by simp⟩)
          obtain ⟨fn, tmps, assign, body, hy, hRd⟩ := hY (m - 1) (fun k => k = bx) (L0 ++ don) (a, c - a) w3 hJ3 (fun k hk => by rw [hk]; exact hbx3) hpre.out
          clear hY
          gi_wp2_with fail
          refine hRd.mono ?_
          rintro e W4 (⟨rfl, hJ4, hF4⟩ | ⟨rfl, hJx4⟩)
          · gi_wp2_with fail
            go_roundw
            case rel => exact ⟨c, f', don ++ [(a, c - a)], by go_num, by omega, by omega, by omega, Nat.le_trans hwz3 hF4.size, Nat.lt_of_lt_of_le hbx3 hF4.size, by rw [← List.append_assoc]; exact hJ4, hF4.blk kB13 (fun h => h (.inl hK1)), hF4.blk kB23 (fun h => h (.inl hK2)), far_ru hru3 hF4 (fun k hk h => h (.inl hk)), hF4.blk kX3 (fun h => h (.inr rfl)), hcs⟩
            case measure => simp [intOf]; omega
          · gi_wp2_with fail
            refine bodyPost_ret (results_none rfl _ _ _) rfl ?_
            exact ⟨⟨_, rfl⟩, .inr ⟨_, (L0 ++ don) ++ [(a, c - a)], hpre.out, hJx4⟩⟩
        · have hlt2' : decide (a < xa + xb) = false := by simpa using hlt2
          have hend : Hid (L0 ++ don = (us.take (k + 1)).flatMap (cutF size)) := Lib.hid (by rw [hft'.out, hcut.out, cutN_end hlt2, List.append_nil])
          gi_wp2_with (gi_at_call 207; refine (callsIn_wide.2 (end_any xa xb _ (by omega) (by omega))).mono ?_; rintro e w2 ⟨rfl, hq2⟩)
          have hJ2 := hnew _ (fun _ => False) _ _ (hJ _ _ wr w2 hJs (.of_below hq2)) (fun _ h => h.elim)
          go_roundw
          case rel => exact ⟨k + 1, by omega, by go_num, Nat.le_trans hwz hq2.size, by rw [← hend.out]; exact hJ2, kB1.call hq2, kB2.call hq2, hru.below (hq2.mono hwz)⟩
          case measure => simp [intOf]; omega
    · have hlt' : decide ((k : Int) < (n : Int)) = false := by simp; omega
      have hE : Hid ((us.take k).flatMap (cutF size) = piecesF us size) := Lib.hid (by rw [hP.out, List.take_of_length_le (by have := hn'.out; omega)])
      gi_wp2_with fail
      go_end0
      exact ⟨⟨_, rfl⟩, .inl ⟨_, by rw [← hE.out]; exact hJs⟩⟩
end Go.Proofs.YtpabnbhbcphfiaaGreat
namespace Go.Pol
open Go Go.RowKit

section
variable {P : Program} (w : World)
theorem append_block (base : Nat) (t ty e : TypeId) (i : TypeInfo) (z : Value) (size bytes : Nat) (ht : P.underlying t = some (.slice e)) (hi : P.info? e = some i) (hz : i.zero = some z)
    (hsize : i.size = size) (hby : i.bytes = bytes) (hzs : z.cells.size = size) (hsz : 0 < size)
    (v : Value) (n : Nat) (xs : List Value) (hown : w.ownsRow base e size v n xs)
    (a : Addr) (m c : Nat) (news : List Value) (hl : news.length = m * size) (hnews : ∀ j u, news[j]? = some u → w.cell? (a.add j) = some u) (h1 : ∀ u ∈ news, u.oneCell' = true)
    (h63 : n + m ≤ maxLen) (hbytes : (n + m) * bytes ≤ 140737488355328) (hbase : base ≤ w.heap.size) :
    ∃ v' w', (Builtin.append_ #[t, t] ty #[v, .slice (some a) m c]).run P w = .ok v' w' ∧ w'.ownsRow base e size v' (n + m) (xs ++ news) ∧ w.grownBy w' v.ownBlock ∧
      ∀ g, v'.ownBlock = some g → v.ownBlock = some g ∨ w.heap.size ≤ g := by
  obtain ⟨v', w', hr, r1, r2, _⟩ := run_append_own (P := P) w base t ty e i z size bytes ht hi hz hsize hby hzs hsz v n xs hown a m c news hl hnews h1 h63 hbytes hbase
  refine ⟨v', w', hr, r1, r2, fun g' hg' => ?_⟩
  have hsmall : n + m ≤ 9223372036854775807 := by simp only [maxLen] at h63; omega
  rcases hown.2 with ⟨hv, h0⟩ | ⟨g, cap, cur, hv, hbg, hg, hnc, hcm, hcs, htake⟩
  · subst h0
    have hx : xs = [] := List.eq_nil_of_length_eq_zero (by simpa using hown.1)
    have hown2 : w.ownsRow w.heap.size e size v 0 xs := by rw [hv, hx]; exact World.ownsRow_nil _ _ _ _
    obtain ⟨v2, w2, hr2, s1, _, _⟩ := run_append_own (P := P) w w.heap.size t ty e i z size bytes ht hi hz hsize hby hzs hsz v 0 xs hown2 a m c news hl hnews h1 h63 hbytes (Nat.le_refl _)
    rw [hr] at hr2
    injection hr2 with e1 e2
    subst e1; subst e2
    exact .inr (s1.lt g' hg').1
  · subst hsize
    subst hby
    subst hv
    by_cases hroom : n + m ≤ cap
    · have hfit : n * i.size + news.length ≤ cur.size := by rw [hl, hcs, ← Nat.add_mul]; exact Nat.mul_le_mul_right _ hroom
      have hr2 := run_append_room (P := P) w t ty e i ht hi g n cap cur hg a m c news hl hnews h1 hroom hfit
      rw [hr] at hr2
      injection hr2 with e1 e2
      subst e1
      exact .inl hg'
    · have holds : ∀ j u, xs[j]? = some u → w.cell? ((⟨g, 0, none⟩ : Addr).add j) = some u := hown.cells (g := g) rfl
      have hr2 := run_append_grow (P := P) w t ty e i z ht hi hz ⟨g, 0, none⟩ n cap xs hown.1 holds a m c news hl hnews (by omega) (by omega) (growslice_fits (by omega) hbytes)
      rw [hr] at hr2
      injection hr2 with e1 e2
      subst e1
      simp only [Value.ownBlock, Option.some.injEq] at hg'
      exact .inr (by omega)
end

theorem wpListIn_append_x {F : Fence} {n : Nat} {P : Program} (w : World) {ops : Array Oper} {rest : List Oper} {o : Oper} {a : Act} {Q : Exit → Act → World → Prop}
    (hg : o.guard = none) (s x : Operand) (t : TypeId) (hop : o.op = Op.call { callee := Callee.builtin Builtin.append, args := #[s, x], argTypes := #[t, t] })
    (base : Nat) (e : TypeId) (i : TypeInfo) (z : Value) (size bytes : Nat) (h1 : P.underlying t = some (.slice e)) (h2 : P.info? e = some i) (h3 : i.zero = some z) (h4 : i.size = size) (h5 : i.bytes = bytes) (h6 : z.cells.size = size) (h7 : 0 < size)
    (v : Value) (k : Nat) (xs : List Value) (hs : a.eval s = v) (hown : w.ownsRow base e size v k xs) (ad : Addr) (m c : Nat) (news : List Value) (hx : a.eval x = .slice (some ad) m c) (hn : news.length = m * size)
    (hc : ∀ j u, news[j]? = some u → w.cell? (ad.add j) = some u) (h1c : ∀ u ∈ news, u.oneCell' = true) (b1 : k + m ≤ maxLen) (b2 : (k + m) * bytes ≤ 140737488355328) (b3 : base ≤ w.heap.size)
    (hK : ∀ v' w', w'.ownsRow base e size v' (k + m) (xs ++ news) → w.grownBy w' v.ownBlock → (∀ g, v'.ownBlock = some g → v.ownBlock = some g ∨ w.heap.size ≤ g) → wpListIn F n P ops Q rest (a.put o.dst v') w') :
    wpListIn F n P ops Q (o :: rest) a w := by
  refine wpListIn_plain hg fun K hK' => ?_
  obtain ⟨v', w', hrun, r1, r2, r3⟩ := append_block (P := P) w base t o.type e i z size bytes h1 h2 h3 h4 h5 h6 h7 v k xs hown ad m c news hn hc h1c b1 b2 b3
  unfold Oper.wpIn
  refine ⟨?_, ?_⟩
  · simp [Oper.about, hop, resolve, Target.leads, Sem.run_pure]
  · rw [Oper.semAt_plain F _ _ (by rw [hop]; intro c hc'; cases hc')]
    simp [execOp, hop, resolve, invoke, builtin, hs, hx, hrun, Result.andThen]
    exact hK' _ _ (hK v' w' r1 r2 r3)

/-- the box of a slice, and the row that the slice owns beyond 'base'; neither is a block of X -/
structure BoxX (X : Nat → Prop) (w : World) (B : Nat) (tb te : TypeId) (base size n : Nat) (cs : List Value) : Prop where
  ex : ∃ v, Blk w B tb #[v] ∧ w.ownsRow base te size v n cs ∧ ¬ X B ∧ ∀ g, v.ownBlock = some g → ¬ X g
section
variable {X X' T : Nat → Prop} {w w' w1 : World} {B : Nat} {tb te : TypeId} {base size n : Nat} {cs cs' : List Value} {v v' : Value}
theorem BoxX.far (h : BoxX X w B tb te base size n cs) (hf : Far T w w') (hB : T B → X B) (hT : ∀ g, base ≤ g → T g → X g) : BoxX X w' B tb te base size n cs := by
  obtain ⟨v, h1, h2, h3, h4⟩ := h.ex
  exact ⟨v, hf.blk h1 (fun h => h3 (hB h)), ownsRow_far h2 hf (fun g hg h => h4 g hg (hT g (h2.lt g hg).1 h)), h3, h4⟩
theorem BoxX.new (h : BoxX X w B tb te base size n cs) (hX : ∀ k, X' k → X k ∨ w.heap.size ≤ k) : BoxX X' w B tb te base size n cs := by
  obtain ⟨v, h1, h2, h3, h4⟩ := h.ex
  refine ⟨v, h1, h2, fun h => (hX _ h).elim h3 (fun h => by have := h1.lt; omega), fun g hg h => (hX _ h).elim (h4 g hg) (fun h => by have := (h2.lt g hg).2; omega)⟩
/-- 'out = append(out, x)': what lies behind it -/
theorem BoxX.appended {tmp : Obj} {m : Nat} (hv : Blk w B tb #[v]) (hte : tb ≠ te) (hrow : w.ownsRow base te size v n cs) (hXB : ¬ X B) (hXg : ∀ g, v.ownBlock = some g → ¬ X g)
    (hown : w1.ownsRow base te size v' m cs') (hg : (w.alloc tmp).grownBy w1 v.ownBlock) (hblk : ∀ g, v'.ownBlock = some g → v.ownBlock = some g ∨ (w.alloc tmp).heap.size ≤ g) (hXlt : ∀ k, X k → k < w.heap.size) :
    Blk w1 B tb #[v] ∧ BoxX X (w1.setCell ⟨B, 0, none⟩ v') B tb te base size m cs' ∧ ∀ (T : Nat → Prop), T B → (∀ g, v.ownBlock = some g → T g) → Far T w (w1.setCell ⟨B, 0, none⟩ v') := by
  have hv1 : Blk w1 B tb #[v] := (hv.alloc tmp).grown hg (fun e => hv.not_row hrow hte e.symm)
  refine ⟨hv1, ⟨v', by simpa using hv1.set_ 0 v', ?_, hXB, fun g hg' hx => ?_⟩, fun T hTB hT => ?_⟩
  · have hfar : Far (fun k => k = B) w1 (w1.setCell ⟨B, 0, none⟩ v') := Far.setCell (T := fun k => k = B) (p := ⟨B, 0, none⟩) (Far.refl _ _) (fun _ => rfl) v'
    exact ownsRow_far hown hfar (fun g hg' e => by subst e; exact hv1.not_row hown hte hg')
  · rcases hblk g hg' with h | h
    · exact hXg g h hx
    · have := hXlt g hx
      simp at h; omega
  · have h1 : Far T w (w.alloc tmp) := (Far.refl T w).alloc tmp
    refine (h1.grown hg (fun r e hr => ?_)).setCell (p := ⟨B, 0, none⟩) (fun _ => hTB) v'
    exact hT r e
end

/-- a loop over values of one parameter whose variable lies in a box -/
theorem rangeXB {P : Program} {g : Operand} {ps : Array Tmp} {assign body : Code} {Q : Exit → Act → World → Prop} {a : Act} {w : World} (ib pb : Nat) (tE : TypeId)
    {gf : Nat} {lb : Array Value} (hg : a.eval g = .func (.func gf) #[] lb) (eg : ∀ args w, (callFunc gf args).run P w = .ok (.enter gf args) w)
    {T K : Nat → Prop} {xs : List Sp} (hseq : SeqX P gf lb spA T K xs w) (hps : ps = #[pb])
    (hT : ∀ k, T k → k < w.heap.size) (hK : ∀ k, K k → k < w.heap.size)
    (I : (Nat → Prop) → List Sp → World → Prop) (Ix : Code → (Nat → Prop) → List Sp → World → Prop)
    (hI : ∀ X pre A B, I X pre A → Far (fun k => T k ∨ X k ∨ k = w.heap.size ∨ k = w.heap.size + 1) A B → I X pre B)
    (hIx : ∀ c X pre A B, Ix c X pre A → Far (fun k => T k ∨ X k ∨ k = w.heap.size ∨ k = w.heap.size + 1) A B → Ix c X pre B)
    (hnew : ∀ X X' pre A, I X pre A → (∀ k, X' k → X k ∨ A.heap.size ≤ k) → I X' pre A)
    (h0 : I (fun _ => False) [] w)
    (hassign : ∀ (m l : Nat) (x : Sp) (W : World) (C : Act → World → Prop),
      C { tmps := (a.tmps.setIfInBounds pb (.agg #[.int .i64 x.1, .int .i64 x.2])).setIfInBounds ib (.pointer (some ⟨W.heap.size, 0, none⟩)), defers := [] } (W.alloc (.cells #[.int .i64 x.1, .int .i64 x.2] tE)) →
      assign.wpIn (Fence.wide.inRound l) m P (Exit.then C (fun _ _ _ => False)) { tmps := a.tmps.setIfInBounds pb (.agg #[.int .i64 x.1, .int .i64 x.2]), defers := [] } W)
    (hbody : ∀ (m l : Nat) (X : Nat → Prop) (pre : List Sp) (x : Sp) (Bx : Nat) (Wa W : World), w.heap.size + 2 ≤ W.heap.size → (∀ k, X k → k < Wa.heap.size ∧ k ≠ w.heap.size ∧ k ≠ w.heap.size + 1) → I X pre W → pre ++ [x] <+: xs → w.heap.size + 2 ≤ Bx → Blk W Bx tE #[.int .i64 x.1, .int .i64 x.2] → Wa.heap.size ≤ Bx →
      body.wpIn (Fence.wide.inRound l) m P (xPost w.heap.size K X I Ix (pre ++ [x]) W) { tmps := (a.tmps.setIfInBounds pb (.agg #[.int .i64 x.1, .int .i64 x.2])).setIfInBounds ib (.pointer (some ⟨Bx, 0, none⟩)), defers := [] } W)
    (hdone : ∀ (X : Nat → Prop) (W : World), w.heap.size + 2 ≤ W.heap.size → I X xs W → W.heap[w.heap.size]? = some (.deferred (some [])) → Q .normal { a with defers := markOf w.heap.size :: a.defers } W)
    (hstop : ∀ (c : Code) (X : Nat → Prop) (pre : List Sp) (W : World), w.heap.size + 2 ≤ W.heap.size → pre <+: xs → Ix c X pre W → W.heap[w.heap.size]? = some (.deferred (some [])) → c.wp P Q { a with defers := markOf w.heap.size :: a.defers } W) :
    (Code.rangeFunc g ps assign body).wp P Q a w := by
  subst hps
  refine rangeX hg eg hseq (fun _ => rfl) hT hK I Ix hI hIx hnew h0
    (fun N x a' W => ∃ Bx, N ≤ Bx ∧ w.heap.size + 2 ≤ Bx ∧ Blk W Bx tE #[.int .i64 x.1, .int .i64 x.2] ∧ a' = { tmps := (a.tmps.setIfInBounds pb (.agg #[.int .i64 x.1, .int .i64 x.2])).setIfInBounds ib (.pointer (some ⟨Bx, 0, none⟩)), defers := [] })
    (fun N x a' A B ⟨Bx, h0, h1, h2, h3⟩ hf => ⟨Bx, h0, h1, hf.blk h2 (by omega), h3⟩) ?_ ?_ hdone hstop
  · intro m l x W C hs hC
    have e : (#[pb].zip (spA x)).foldl (fun t (p, v) => t.setIfInBounds p v) a.tmps = a.tmps.setIfInBounds pb (.agg #[.int .i64 x.1, .int .i64 x.2]) := by simp [spA]
    rw [e]
    exact hassign m l x W C (hC _ _ ((Far.refl _ W).alloc _) ⟨W.heap.size, Nat.le_refl _, hs, Blk.new _ _ _, rfl⟩)
  · rintro m l X pre x a' Wa W hs hX hi ⟨Bx, h0, h1, h2, rfl⟩ hpre _ _
    exact hbody m l X pre x Bx Wa W hs hX hi hpre h1 h2 h0
end Go.Pol
namespace Go.Proofs.YtpabnbhbcphfiaaGreat
open Go Go.Proofs Go.RowKit Go.Pol Go.Shelf
attribute [local go_sem] Oper.semAt_some Go.Pol.wide_fn Go.Pol.wide_depth Go.Pol.wide_fn' Go.Pol.wide_depth'

theorem pieces_enters : ∀ args w, (callFunc 236 args).run Tryz.prog w = .ok (.enter 236 args) w := enters_of Tryz.func236 (by kernel_rfl) rfl

set_option maxHeartbeats 800000 in
theorem piecesTop_own (A : Option Addr) (n cap : Nat) (us : List Sp) (size : Int) (w : World) (hn : us.length = n) (hm : n ≤ 1000000) (hr : RU w w.heap.size A us) :
    Calls Tryz.prog 209 #[.slice A n cap, .int .i64 size] w fun e w' => ∃ (lb : Array Value) (K : Nat → Prop), e = .returned (.func (.func 236) #[] lb) ∧
      SeqX Tryz.prog 236 lb spA (fun _ => False) K (piecesF us size) w' ∧ (∀ k, K k → w.heap.size ≤ k ∧ k < w'.heap.size) ∧ Below w.heap.size w w' := by
  have hb0 := ((Below.refl w.heap.size w).alloc (Nat.le_refl _) (.cells #[.slice A n cap] 22)).alloc (by simp) (.cells #[.int .i64 size] 3)
  have k1 := (Blk.new w 22 #[.slice A n cap]).alloc (.cells #[.int .i64 size] 3)
  have k2 := Blk.new (w.alloc (.cells #[.slice A n cap] 22)) 3 #[.int .i64 size]
  rw [World.size_alloc] at k2
  have r0 : RU ((w.alloc (.cells #[.slice A n cap] 22)).alloc (.cells #[.int .i64 size] 3)) _ A us := hr.on hb0
  have HK := Lib.hid (clone_any A n cap us _ hn hm r0)
  have z1 := k1.cell
  have hsz : ((w.alloc (.cells #[.slice A n cap] 22)).alloc (.cells #[.int .i64 size] 3)).heap.size = w.heap.size + 2 := by simp
  go_enter Tryz.func209, Tryz.ntmps209
  go_wp2_with fail
  refine HK.out.mono ?_
  rintro e w1 ⟨v, rfl, hrow, hb1⟩
  have B1 := hb0.trans (hb1.mono hb0.size)
  have k1b := k1.call hb1
  have k2b := k2.call hb1
  have f1 := k1b.frozen
  have z1b := k1b.cell
  have hs1 := B1.size
  clear HK
  obtain ⟨A2, cap2, rfl⟩ := own_nil_iff hrow hn
  go_wp2_with fail
  go_ret
  have k1c := k1b.set_ 0 (.slice A2 n cap2)
  have k2c := k2b.far (p := ⟨w.heap.size, 0, none⟩) (by show w.heap.size + 1 ≠ w.heap.size; omega) (.slice A2 n cap2)
  have hfar : Far (fun k => k = w.heap.size) w1 (w1.setCell ⟨w.heap.size, 0, none⟩ (.slice A2 n cap2)) := Far.setCell (T := fun k => k = w.heap.size) (p := ⟨w.heap.size, 0, none⟩) (Far.refl _ _) (fun _ => rfl) _
  have hrow2 := ownsRow_far hrow hfar (fun g hg e => by have := (hrow.lt g hg).1; omega)
  have B2 := B1.trans (hfar.below hs1 (fun k hk h => by omega))
  generalize w1.setCell ⟨w.heap.size, 0, none⟩ (.slice A2 n cap2) = w2 at *
  obtain ⟨A3, cap3, he, hru, h1, h2, h3, _⟩ := own_RU hrow2 hn
  cases he
  refine ⟨_, fun k => k = w.heap.size ∨ k = w.heap.size + 1 ∨ (us ≠ [] ∧ ∃ o, A2 = some ⟨k, o, none⟩), rfl, pieces1_seq A2 n cap2 us size w.heap.size (w.heap.size + 1) _ w2 (.inl rfl) (.inr (.inl rfl)) (by simpa using k1c) k2c hn (by unfold maxLen; omega) hru (fun h b o e => .inr (.inr ⟨h, o, e⟩)), ?_, B2⟩
  rintro k (rfl | rfl | ⟨h, o, e⟩)
  · exact ⟨Nat.le_refl _, k1c.lt⟩
  · exact ⟨by omega, k2c.lt⟩
  · exact ⟨by have := h3 k o e; omega, ru_lt hru h e⟩

end Go.Proofs.YtpabnbhbcphfiaaGreat
namespace Go.Pol
open Go
theorem nextM_one (a : Int) : nextM 1 a = a + 1 := by unfold nextM; rw [Int.ediv_one]; omega
theorem cutN_one (en : Int) : ∀ (k : Nat) (a : Int), en - a ≤ k → (cutN 1 en k a).map (·.1) = pagesX (a, 0) (en - a).toNat
  | 0, a, h => by rw [show (en - a).toNat = 0 by omega]; simp [cutN, pagesX]
  | k + 1, a, h => by
    by_cases hlt : a < en
    · rw [cutN_step hlt, nextM_one, List.map_cons, show min (a + 1) en = a + 1 by omega, cutN_one en k (a + 1) (by omega), show (en - a).toNat = (en - (a + 1)).toNat + 1 by omega, pagesX_cons]
    · rw [cutN_end hlt, show (en - a).toNat = 0 by omega]; simp [pagesX]
theorem pieces_one {us : List Sp} (h : Can us) : (piecesF us 1).map (·.1) = pagesOf us := by
  unfold piecesF
  rw [if_pos ⟨chkS_zero.2 h, by omega, by omega⟩]
  have hv := h.1
  clear h
  induction us with
  | nil => rfl
  | cons x r ih =>
    have hx := vld_iff.1 (hv x (by simp))
    rw [List.flatMap_cons, List.map_append, ih (fun y hy => hv y (by simp [hy])), pagesOf_cons, cutF, cutN_one _ _ _ (by omega)]
    congr 1
    rw [show (x.1 + x.2 - x.1).toNat = x.2.toNat by omega]
    rfl
theorem pieces_bad {us : List Sp} {size : Int} (h : ¬ (chkS us = 0 ∧ 1 ≤ size ∧ size ≤ 1024)) : piecesF us size = [] := by unfold piecesF; rw [if_neg h]
/-- each piece has a page of its own -/
theorem cutN_len {size en : Int} (hs : 1 ≤ size) : ∀ (k : Nat) (a : Int), ((cutN size en k a).length : Int) ≤ (if a < en then en - a else 0)
  | 0, a => by simp [cutN]; split <;> omega
  | k + 1, a => by
    by_cases hlt : a < en
    · have ih := cutN_len (en := en) hs k (min (nextM size a) en)
      have hn := nextM_gt (size := size) (a := a) hs
      rw [cutN_step hlt, if_pos hlt, List.length_cons]
      split at ih <;> omega
    · rw [cutN_end hlt, if_neg hlt]; simp
theorem pieces_len {us : List Sp} {size : Int} (h : Can us) (hs : 1 ≤ size) : ((us.flatMap (cutF size)).length : Int) ≤ sumS us := by
  have hv := h.1
  clear h
  induction us with
  | nil => simp [sumS]
  | cons x r ih =>
    have hx := vld_iff.1 (hv x (by simp))
    have h1 := cutN_len (en := x.1 + x.2) hs 1024 x.1
    rw [if_pos (by omega)] at h1
    have h2 := ih (fun y hy => hv y (by simp [hy]))
    rw [List.flatMap_cons, List.length_append]
    have e1 : sumS (x :: r) = x.2 + sumS r := by simp [sumS]
    rw [e1]
    unfold cutF at h2 ⊢
    omega
theorem pieces_most {us : List Sp} {size : Int} : (piecesF us size).length ≤ 1024 := by
  by_cases h : chkS us = 0 ∧ 1 ≤ size ∧ size ≤ 1024
  · have hc := chkS_zero.1 h.1
    have h1 := pieces_len hc h.2.1
    have h2 := sum_form us (-1) (by omega) hc.1 hc.2
    unfold piecesF
    rw [if_pos h]
    omega
  · rw [pieces_bad h]; simp
end Go.Pol
namespace Go.Pol
open Go Go.RowKit

/-- the contract of a function value that is ranged over, and that makes blocks of its own (X): it goes through just 'xs' -/
def SeqY {α : Type} (P : Program) (g : Nat) (lb : Array Value) (encs : α → Array Value) (T K : Nat → Prop) (xs : List α) (w : World) : Prop :=
  ∀ (n l : Nat) (J Jx : (Nat → Prop) → List α → World → Prop) (W : World), Far (fun k => ¬ K k) w W →
    (∀ X pre A B, J X pre A → Far (fun k => T k ∨ X k) A B → J X pre B) → (∀ X pre A B, Jx X pre A → Far (fun k => T k ∨ X k) A B → Jx X pre B) →
    (∀ X X' pre A, J X pre A → (∀ k, X' k → X k ∨ A.heap.size ≤ k) → J X' pre A) →
    (∀ m X pre x W1, J X pre W1 → (∀ k, X k → k < W1.heap.size) → pre ++ [x] <+: xs → YieldAt Fence.wide m P l (encs x) W1 fun e W' =>
      (e = .returned (.bool true) ∧ J X (pre ++ [x]) W' ∧ Far (fun k => ¬ (K k ∨ X k)) W1 W') ∨ (e = .returned (.bool false) ∧ Jx X (pre ++ [x]) W' ∧ Far (fun k => ¬ (K k ∨ X k)) W1 W')) →
    J (fun _ => False) [] W →
    CallsIn Fence.wide n P g (#[.func (.yield l) #[] #[]] ++ lb) W fun e W' => (∃ v, e = .returned v) ∧ ((∃ X, J X xs W') ∨ ∃ X pre, pre <+: xs ∧ Jx X pre W')

theorem SeqY.later {α : Type} {P : Program} {g : Nat} {lb : Array Value} {encs : α → Array Value} {T K : Nat → Prop} {xs : List α} {w w' : World}
    (h : SeqY P g lb encs T K xs w) (hw : Far (fun k => ¬ K k) w w') : SeqY P g lb encs T K xs w' :=
  fun n l J Jx W hW => h n l J Jx W (hw.trans hW)
/-- how a round's body may be left -/
def yPost {α : Type} (D : Nat) (K X : Nat → Prop) (I : (Nat → Prop) → List α → World → Prop) (Ix : Code → (Nat → Prop) → List α → World → Prop) (xs : List α) (W : World) : Exit → Act → World → Prop
  | .normal, _, W' => Far (fun k => ¬ (K k ∨ X k ∨ k = D ∨ k = D + 1)) W W' ∧ I X xs W'
  | .ret, _, W' => Far (fun k => ¬ (K k ∨ X k ∨ k = D ∨ k = D + 1)) W W' ∧ Ix .ret X xs W'
  | .exit id, _, W' => Far (fun k => ¬ (K k ∨ X k ∨ k = D ∨ k = D + 1)) W W' ∧ Ix (.exit id) X xs W'
  | .goto t, _, W' => Far (fun k => ¬ (K k ∨ X k ∨ k = D ∨ k = D + 1)) W W' ∧ Ix (.goto t) X xs W'
  | .panic _, _, _ => False
  | .outgrown, _, _ => False

theorem rangeY {α : Type} {P : Program} {g : Operand} {ps : Array Tmp} {assign body : Code} {Q : Exit → Act → World → Prop} {a : Act} {w : World}
    {gf : Nat} {lb : Array Value} (hg : a.eval g = .func (.func gf) #[] lb) (eg : ∀ args w, (callFunc gf args).run P w = .ok (.enter gf args) w)
    {encs : α → Array Value} {T K : Nat → Prop} {xs : List α} (hseq : SeqY P gf lb encs T K xs w) (hps : ∀ x, (encs x).size = ps.size)
    (hT : ∀ k, T k → k < w.heap.size) (hK : ∀ k, K k → k < w.heap.size)
    (I : (Nat → Prop) → List α → World → Prop) (Ix : Code → (Nat → Prop) → List α → World → Prop)
    (hI : ∀ X pre A B, I X pre A → Far (fun k => T k ∨ X k ∨ k = w.heap.size ∨ k = w.heap.size + 1) A B → I X pre B)
    (hIx : ∀ c X pre A B, Ix c X pre A → Far (fun k => T k ∨ X k ∨ k = w.heap.size ∨ k = w.heap.size + 1) A B → Ix c X pre B)
    (hnew : ∀ X X' pre A, I X pre A → (∀ k, X' k → X k ∨ A.heap.size ≤ k) → I X' pre A)
    (h0 : I (fun _ => False) [] w) (Ax : Nat → α → Act → World → Prop) (hAx : ∀ N x a' A B, Ax N x a' A → Far (fun k => k = w.heap.size + 1) A B → Ax N x a' B)
    (hassign : ∀ (m l : Nat) (x : α) (W : World) (C : Act → World → Prop), w.heap.size + 2 ≤ W.heap.size → (∀ a' W', Far (fun _ => False) W W' → Ax W.heap.size x a' W' → C a' W') →
      assign.wpIn (Fence.wide.inRound l) m P (Exit.then C (fun _ _ _ => False)) { tmps := (ps.zip (encs x)).foldl (fun t (p, v) => t.setIfInBounds p v) a.tmps, defers := [] } W)
    (hbody : ∀ (m l : Nat) (X : Nat → Prop) (pre : List α) (x : α) (a' : Act) (Wa W : World), w.heap.size + 2 ≤ W.heap.size → (∀ k, X k → k < Wa.heap.size ∧ k ≠ w.heap.size ∧ k ≠ w.heap.size + 1) → I X pre W → Ax Wa.heap.size x a' W → pre ++ [x] <+: xs → I X pre Wa → Far (fun k => k = w.heap.size + 1) Wa W →
      body.wpIn (Fence.wide.inRound l) m P (yPost w.heap.size K X I Ix (pre ++ [x]) W) a' W)
    (hdone : ∀ (X : Nat → Prop) (W : World), w.heap.size + 2 ≤ W.heap.size → I X xs W → W.heap[w.heap.size]? = some (.deferred (some [])) → Q .normal { a with defers := markOf w.heap.size :: a.defers } W)
    (hstop : ∀ (c : Code) (X : Nat → Prop) (pre : List α) (W : World), w.heap.size + 2 ≤ W.heap.size → pre <+: xs → Ix c X pre W → W.heap[w.heap.size]? = some (.deferred (some [])) → c.wp P Q { a with defers := markOf w.heap.size :: a.defers } W) :
    (Code.rangeFunc g ps assign body).wp P Q a w := by
  refine (wpIn_wide (n := 0)).1 (wpIn_rangeFunc fun fn _ => ?_)
  obtain ⟨D, hD⟩ : ∃ D, w.heap.size = D := ⟨_, rfl⟩
  -- the loop's record, in its three states
  obtain ⟨rec, hrec⟩ : ∃ rec : LoopState → Option Code → Loop, rec = fun s p => { state := s, pending := p, fn, tmps := a.tmps, params := ps, assign, body, defers := D } := ⟨_, rfl⟩
  obtain ⟨W1, hW1⟩ : ∃ W1, (w.alloc (.deferred (some []))).alloc (.loop (rec .ready none)) = W1 := ⟨_, rfl⟩
  have hent : (Instr.enterLoop fn a.tmps ps assign body none).run P w = .ok (D + 1, [markOf D]) W1 := by
    rw [← hW1, hrec, ← hD]; exact run_enterLoop_outer _ _ _ _ _
  have hfar : Far (fun _ => False) w W1 := by rw [← hW1]; exact ((Far.refl _ w).alloc _).alloc _
  have hl1 : W1.heap[D + 1]? = some (.loop (rec .ready none)) := by
    rw [← hW1, ← hD]
    have := World.alloc_heap_new (w.alloc (.deferred (some []))) (.loop (rec .ready none))
    rwa [World.size_alloc] at this
  have hd1 : W1.heap[D]? = some (.deferred (some [])) := by
    rw [← hW1, ← hD]; exact (Below.heap_alloc _ _ _ (by simp)).trans (World.alloc_heap_new w _)
  rw [hD] at hT hK hI hIx hAx hassign hbody hdone hstop
  refine ⟨D + 1, [markOf D], W1, { target := .fn (.func gf) lb, args := #[.func (.yield (D + 1)) #[] #[]] }, W1, gf, #[.func (.yield (D + 1)) #[] #[]] ++ lb, W1, hent, ?_, fun _ _ => trivial, ?_, fun h => (by cases h), ?_⟩
  · simp only [resolve, hg]
    simp [go_sem]
  · simp [invoke, go_sem, eg]
  -- what the iterator carries: the loop's invariant, the record, the block for deferred calls
  let J : (Nat → Prop) → List α → World → Prop := fun X pre W => I X pre W ∧ W.heap[D + 1]? = some (.loop (rec .ready none)) ∧ W.heap[D]? = some (.deferred (some [])) ∧ ¬ X D ∧ ¬ X (D + 1)
  let Jx : (Nat → Prop) → List α → World → Prop := fun X pre W => ∃ c, Ix c X pre W ∧ W.heap[D + 1]? = some (.loop (rec .done (some c))) ∧ W.heap[D]? = some (.deferred (some [])) ∧ ¬ X D ∧ ¬ X (D + 1)
  have hnT : ∀ k, T k → k ≠ D ∧ k ≠ D + 1 := fun k hk => by have := hT k hk; omega
  have hnK : ∀ k, K k → k ≠ D ∧ k ≠ D + 1 := fun k hk => by have := hK k hk; omega
  have up : ∀ {X : Nat → Prop} {k : Nat}, T k ∨ X k → T k ∨ X k ∨ k = D ∨ k = D + 1 := fun h => h.elim .inl (fun h => .inr (.inl h))
  refine (hseq _ (D + 1) J Jx W1 (hfar.mono (fun _ _ h => h.elim))
    (fun X pre A B h hf => ⟨hI X pre A B h.1 (hf.mono fun _ _ ht => up ht), hf.same h.2.1 (fun h' => h'.elim (fun h => (hnT _ h).2 rfl) h.2.2.2.2), hf.same h.2.2.1 (fun h' => h'.elim (fun h => (hnT _ h).1 rfl) h.2.2.2.1), h.2.2.2⟩)
    (fun X pre A B h hf => by
      obtain ⟨c, h1, h2, h3, h4, h5⟩ := h
      exact ⟨c, hIx c X pre A B h1 (hf.mono fun _ _ ht => up ht), hf.same h2 (fun h' => h'.elim (fun h => (hnT _ h).2 rfl) h5), hf.same h3 (fun h' => h'.elim (fun h => (hnT _ h).1 rfl) h4), h4, h5⟩)
    (fun X X' pre A h hX => by
      have l1 : D < A.heap.size := (Array.getElem?_eq_some_iff.1 h.2.2.1).1
      have l2 : D + 1 < A.heap.size := (Array.getElem?_eq_some_iff.1 h.2.1).1
      exact ⟨hnew X X' pre A h.1 hX, h.2.1, h.2.2.1, fun hd => (hX _ hd).elim h.2.2.2.1 (fun h => by omega), fun hd => (hX _ hd).elim h.2.2.2.2 (fun h => by omega)⟩)
    ?_ ⟨hI _ [] w W1 h0 (hfar.mono fun _ _ h => h.elim), hl1, hd1, id, id⟩).mono ?_
  · -- a round
    rintro m X pre x Wa ⟨hi, hl, hd, hXD, hXE⟩ hXlt hpre
    have hlt : D + 1 < Wa.heap.size := (Array.getElem?_eq_some_iff.1 hl).1
    have hy := run_yield (P := P) (args := encs x) hl (by rw [hrec]; exact hps x)
    rw [hrec] at hy
    refine ⟨fn, _, assign, body, hy, roundIn_of_wpIn trivial (hassign m (D + 1) x Wa _ (by omega) fun a' Wb hab hax => ?_)⟩
    have hlb := hab.same hl id
    have hdb := hab.same hd id
    have hib := hI X pre Wa Wb hi (hab.mono fun _ _ h => h.elim)
    have hltb : D + 1 < Wb.heap.size := (Array.getElem?_eq_some_iff.1 hlb).1
    refine ⟨_, run_beginRound hlb (by rw [hrec]), ?_⟩
    obtain ⟨Wc, hWc⟩ : ∃ Wc, Wb.putObj (D + 1) (.loop { rec .ready none with state := .busy }) = Wc := ⟨_, rfl⟩
    rw [hWc]
    have hbc : Far (fun k => k = D + 1) Wb Wc := by rw [← hWc]; exact Far.putObj (T := fun k => k = D + 1) (Far.refl _ Wb) (fun _ => rfl) _
    have hlc : Wc.heap[D + 1]? = some (.loop { rec .ready none with state := .busy }) := by rw [← hWc]; exact World.putObj_heap_same hltb
    have hdc : Wc.heap[D]? = some (.deferred (some [])) := hbc.same hdb (by omega)
    have hltc : D + 1 < Wc.heap.size := (Array.getElem?_eq_some_iff.1 hlc).1
    refine wpIn_mono (hbody m (D + 1) X pre x a' Wa Wc (by omega) (fun k hk => ⟨hXlt k hk, fun h => hXD (h ▸ hk), fun h => hXE (h ▸ hk)⟩) (hI X pre Wb Wc hib (hbc.mono fun _ _ h => .inr (.inr (.inr h)))) (hAx _ x a' Wb Wc hax hbc) hpre hi ((hab.mono fun _ _ h => h.elim : Far (fun k => k = D + 1) Wa Wb).trans hbc)) ?_
    -- what 'endRound' makes of it
    have fin : ∀ (j : Option Code) (Wd : World), Far (fun k => ¬ (k = D ∨ k = D + 1)) Wc Wd →
        (Instr.endRound (D + 1) j).run P Wd = .ok (.bool j.isNone) (Wd.putObj (D + 1) (.loop (rec (if j.isNone then .ready else .done) j))) ∧
        (Wd.putObj (D + 1) (.loop (rec (if j.isNone then .ready else .done) j))).heap[D + 1]? = some (.loop (rec (if j.isNone then .ready else .done) j)) ∧
        (Wd.putObj (D + 1) (.loop (rec (if j.isNone then .ready else .done) j))).heap[D]? = some (.deferred (some [])) := fun j Wd hcd => by
      have hld := hcd.same hlc (fun h => h (.inr rfl))
      have he := run_endRound (P := P) j hld
      rw [hrec] at he ⊢
      exact ⟨he, World.putObj_heap_same (Array.getElem?_eq_some_iff.1 hld).1, (World.putObj_heap_other (by omega)).trans (hcd.same hdc (fun h => h (.inl rfl)))⟩
    have back : ∀ (Y : Nat → Prop) (o : Obj) (Wd : World), Far (fun k => T k ∨ Y k ∨ k = D ∨ k = D + 1) Wd (Wd.putObj (D + 1) o) := fun Y o Wd => (Far.refl _ Wd).putObj (fun _ => .inr (.inr (.inr rfl))) o
    intro e a3 Wd hp
    cases e with
    | normal =>
      obtain ⟨hcd, hid⟩ := hp
      obtain ⟨h1, h2, h3⟩ := fin none Wd (hcd.mono fun k _ h h' => h (.inr (.inr h')))
      refine ⟨_, _, h1, .inl ⟨rfl, ⟨hI _ _ _ _ hid (back _ _ Wd), h2, h3, hXD, hXE⟩, ?_⟩⟩
      refine (((hab.mono fun _ _ h => h.elim : Far (fun k => ¬ (K k ∨ X k)) Wa Wb).trans (hbc.mono fun k _ h hk => hk.elim (fun hk => (hnK k hk).2 h) (fun hk => hXE (h ▸ hk)))).trans (hcd.mono fun k _ h hk => h (hk.elim .inl (fun h => .inr (.inl h))))).putObj (fun _ hk => hk.elim (fun hk => (hnK _ hk).2 rfl) hXE) _
    | ret =>
      obtain ⟨hcd, hid⟩ := hp
      obtain ⟨h1, h2, h3⟩ := fin (some .ret) Wd (hcd.mono fun k _ h h' => h (.inr (.inr h')))
      exact ⟨_, _, h1, .inr ⟨rfl, ⟨.ret, hIx _ _ _ _ _ hid (back _ _ Wd), h2, h3, hXD, hXE⟩, (((hab.mono fun _ _ h => h.elim : Far (fun k => ¬ (K k ∨ X k)) Wa Wb).trans (hbc.mono fun k _ h hk => hk.elim (fun hk => (hnK k hk).2 h) (fun hk => hXE (h ▸ hk)))).trans (hcd.mono fun k _ h hk => h (hk.elim .inl (fun h => .inr (.inl h))))).putObj (fun _ hk => hk.elim (fun hk => (hnK _ hk).2 rfl) hXE) _⟩⟩
    | exit id =>
      obtain ⟨hcd, hid⟩ := hp
      obtain ⟨h1, h2, h3⟩ := fin (some (.exit id)) Wd (hcd.mono fun k _ h h' => h (.inr (.inr h')))
      exact ⟨_, _, h1, .inr ⟨rfl, ⟨.exit id, hIx _ _ _ _ _ hid (back _ _ Wd), h2, h3, hXD, hXE⟩, (((hab.mono fun _ _ h => h.elim : Far (fun k => ¬ (K k ∨ X k)) Wa Wb).trans (hbc.mono fun k _ h hk => hk.elim (fun hk => (hnK k hk).2 h) (fun hk => hXE (h ▸ hk)))).trans (hcd.mono fun k _ h hk => h (hk.elim .inl (fun h => .inr (.inl h))))).putObj (fun _ hk => hk.elim (fun hk => (hnK _ hk).2 rfl) hXE) _⟩⟩
    | goto t =>
      obtain ⟨hcd, hid⟩ := hp
      obtain ⟨h1, h2, h3⟩ := fin (some (.goto t)) Wd (hcd.mono fun k _ h h' => h (.inr (.inr h')))
      exact ⟨_, _, h1, .inr ⟨rfl, ⟨.goto t, hIx _ _ _ _ _ hid (back _ _ Wd), h2, h3, hXD, hXE⟩, (((hab.mono fun _ _ h => h.elim : Far (fun k => ¬ (K k ∨ X k)) Wa Wb).trans (hbc.mono fun k _ h hk => hk.elim (fun hk => (hnK k hk).2 h) (fun hk => hXE (h ▸ hk)))).trans (hcd.mono fun k _ h hk => h (hk.elim .inl (fun h => .inr (.inl h))))).putObj (fun _ hk => hk.elim (fun hk => (hnK _ hk).2 rfl) hXE) _⟩⟩
    | panic ch => exact hp.elim
    | outgrown => exact hp.elim
  · -- behind the iterator
    have back : ∀ (Y : Nat → Prop) (o : Obj) (Wd : World), Far (fun k => T k ∨ Y k ∨ k = D ∨ k = D + 1) Wd (Wd.putObj (D + 1) o) := fun Y o Wd => (Far.refl _ Wd).putObj (fun _ => .inr (.inr (.inr rfl))) o
    rintro e W2 ⟨⟨v, rfl⟩, h2⟩
    rcases h2 with ⟨X, hi, hl, hd, _⟩ | ⟨X, pre, hpre, c, hi, hl, hd, _⟩
    · have he := run_endLoop (P := P) hl (by rw [hrec]; simp)
      rw [hrec] at he
      have hlt : D + 1 < W2.heap.size := (Array.getElem?_eq_some_iff.1 hl).1
      exact ⟨none, _, he, hdone _ _ (by rw [World.putObj_size]; omega) (hI _ _ _ _ hi (back _ _ W2)) ((World.putObj_heap_other (by omega)).trans hd)⟩
    · have he := run_endLoop (P := P) hl (by rw [hrec]; simp)
      rw [hrec] at he
      have hlt : D + 1 < W2.heap.size := (Array.getElem?_eq_some_iff.1 hl).1
      exact ⟨some c, _, he, (wpIn_wide (n := 0)).2 (hstop c _ pre _ (by rw [World.putObj_size]; omega) hpre (hIx _ _ _ _ _ hi (back _ _ W2)) ((World.putObj_heap_other (by omega)).trans hd))⟩


end Go.Pol
namespace Go.Pol
open Go Go.RowKit
theorem roundIn_in {F : Fence} {n : Nat} {P : Program} {l l' : Nat} {f : FuncId} {tmps : Array Value} {assign body : Code} {w : World} {R : Ending → World → Prop} (h : RoundIn F n P l f tmps assign body w R) : RoundIn (F.inRound l') n P l f tmps assign body w R := h
def fsts (l : List Sp) : List Int := l.map (·.1)
theorem fsts_snoc (l : List Sp) (x : Sp) : fsts (l ++ [x]) = fsts l ++ [x.1] := by simp [fsts]
theorem fsts_pre {a b : List Sp} (h : a <+: b) : fsts a <+: fsts b := by
  obtain ⟨r, rfl⟩ := h
  exact ⟨fsts r, by simp [fsts]⟩
abbrev inA (p : Int) : Array Value := #[.int .i64 p]
end Go.Pol
namespace Go.Proofs.YtpabnbhbcphfiaaGreat
open Go Go.Proofs Go.RowKit Go.Pol Go.Shelf
attribute [local go_sem] Oper.semAt_some Go.Pol.wide_fn Go.Pol.wide_depth Go.Pol.wide_fn' Go.Pol.wide_depth'

set_option maxRecDepth 100000 in
set_option maxHeartbeats 1600000 in
theorem pages1_seq (A : Option Addr) (n cap : Nat) (us : List Sp) (B1 : Nat) (K : Nat → Prop) (w : World) (hK1 : K B1)
    (k1 : Blk w B1 22 #[.slice A n cap]) (hn : us.length = n) (hm : n ≤ 1000000) (hr : RU w w.heap.size A us) (hown : us ≠ [] → ∀ b o, A = some ⟨b, o, none⟩ → K b) :
    SeqY Tryz.prog 208 #[.pointer (some ⟨B1, 0, none⟩)] inA (fun _ => False) K (fsts (piecesF us 1)) w := by
  intro n0 l0 J Jx W hW hJ hJx hnew hY h0
  have kB1 := hW.blk k1 (by simpa using hK1)
  have hrW : RU W W.heap.size A us := by
    by_cases h : us = []
    · subst h; exact RU.nil
    · exact (hW.ru hr (fun b o e h' => h' (hown h b o e))).more hW.size
  obtain ⟨s, hs⟩ : ∃ s, W.heap.size = s := ⟨_, rfl⟩
  obtain ⟨Wb, hWb⟩ : ∃ Wb, W.alloc (.cells #[.func (.yield l0) #[] #[]] 137) = Wb := ⟨_, rfl⟩
  refine callsIn_wide.2 ?_
  refine calls_of_marks Tryz.func208 rfl ?_
  simp only [Tryz.ntmps208, List.size_toArray, List.length_cons, List.length_nil, Nat.reduceAdd, Nat.reduceSub, Array.replicate_succ, Array.replicate_zero, List.push_toArray, List.append_toArray, List.nil_append, List.cons_append]
  go_upto_region 1 with fail
  have hFb : Far (fun _ => False) W Wb := by rw [← hWb]; exact (Far.refl _ W).alloc _
  have hszb : Wb.heap.size = s + 1 := by rw [← hWb, ← hs]; simp
  have kY : Blk Wb s 137 #[.func (.yield l0) #[] #[]] := by rw [← hWb, ← hs]; exact Blk.new _ _ _
  have kB1b := hFb.blk kB1 id
  have hrb : RU Wb Wb.heap.size A us := hrW.on (by rw [← hWb]; exact (Below.refl W.heap.size W).alloc (Nat.le_refl _) _)
  have zB := kB1b.cell
  clear hWb kB1 hrW
  have HT := Lib.hid (piecesTop_own A n cap us 1 Wb hn hm hrb)
  go_wp2_with fail
  refine HT.out.mono ?_
  rintro e w2 ⟨lb, Kin, rfl, hseq, hK, hq2⟩
  have kY2 := kY.call hq2
  have hF2 : Far (fun _ => False) W w2 := hFb.trans (.of_below hq2)
  have hs2 : s + 1 ≤ w2.heap.size := by rw [← hszb]; exact hq2.size
  clear HT hrb hq2 hn hr
  have HJ0 : J (fun k => Kin k ∨ False ∨ k = s ∨ k = w2.heap.size ∨ k = w2.heap.size + 1) [] w2 :=
    hJ _ _ W w2 (hnew _ _ _ W h0 (fun k hk => by
      right
      rcases hk with h | h | h | h | h
      · have := (hK k h).1; omega
      · exact h.elim
      · omega
      · omega
      · omega)) (hF2.mono fun _ _ h => h.elim)
  go_wp2_with fail
  refine rangeXB 3 6 115 (gf := 236) (lb := lb) rfl pieces_enters hseq rfl (fun _ h => h.elim) (fun k h => (hK k h).2)
    (fun X pre W => J (fun k => Kin k ∨ X k ∨ k = s ∨ k = w2.heap.size ∨ k = w2.heap.size + 1) (fsts pre) W ∧ Blk W s 137 #[.func (.yield l0) #[] #[]] ∧ ¬ X s ∧ w2.heap.size ≤ W.heap.size)
    (fun c X pre W => c = .ret ∧ pre <+: piecesF us 1 ∧ Jx (fun k => Kin k ∨ X k ∨ k = s ∨ k = w2.heap.size ∨ k = w2.heap.size + 1) (fsts pre) W)
    (fun X pre A B h hf => ⟨hJ _ _ A B h.1 (hf.mono fun k _ h => by
        rcases h with h | h | h | h
        · exact h.elim
        · exact .inr (.inr (.inl h))
        · exact .inr (.inr (.inr (.inr (.inl h))))
        · exact .inr (.inr (.inr (.inr (.inr h))))), hf.blk h.2.1 (by rintro (h' | h' | h' | h'); exact h'; exact h.2.2.1 h'; omega; omega), h.2.2.1, Nat.le_trans h.2.2.2 hf.size⟩)
    (fun c X pre A B h hf => ⟨h.1, h.2.1, hJx _ _ A B h.2.2 (hf.mono fun k _ h => by
        rcases h with h | h | h | h
        · exact h.elim
        · exact .inr (.inr (.inl h))
        · exact .inr (.inr (.inr (.inr (.inl h))))
        · exact .inr (.inr (.inr (.inr (.inr h)))))⟩)
    (fun X X' pre A h hX => ⟨hnew _ _ _ A h.1 (fun k hk => by
        rcases hk with h' | h' | h'
        · exact .inl (.inl h')
        · exact (hX k h').elim (fun h' => .inl (.inr (.inl h'))) .inr
        · exact .inl (.inr (.inr h'))), h.2.1, fun h' => (hX _ h').elim h.2.2.1 (fun h' => by have := h.2.1.lt; omega), h.2.2.2⟩)
    ⟨HJ0, kY2, id, Nat.le_refl _⟩ ?assign ?body ?done ?stop
  case assign =>
    intro m l x W C hC
    simp only [List.setIfInBounds_toArray, List.set_cons_succ, List.set_cons_zero] at hC ⊢
    gi_wp2
    exact hC
  case body =>
    rintro m l X pre x Bx Wa W hsz hXlt ⟨hJs, kY, nY, hwz⟩ hpre hBx kx hBa
    simp only [List.setIfInBounds_toArray, List.set_cons_succ, List.set_cons_zero]
    obtain ⟨xa, xb⟩ := x
    dsimp only at kx
    have cx := kx.cell
    have cY := kY.cell
    have hmap : Hid (fsts (pre ++ [(xa, xb)]) = fsts pre ++ [xa]) := Lib.hid (fsts_snoc _ _)
    have hpre2 : fsts pre ++ [xa] <+: fsts (piecesF us 1) := by
      rw [← hmap.out]
      exact fsts_pre hpre
    have hall : ∀ k, (Kin k ∨ X k ∨ k = s ∨ k = w2.heap.size ∨ k = w2.heap.size + 1) → k < W.heap.size := fun k hk => by
      rcases hk with h | h | h | h | h
      · have := (hK k h).2; omega
      · have := (hXlt k h).1; have := kx.lt; omega
      · omega
      · omega
      · omega
    obtain ⟨fn, tmps, assign, body, hy, hRd⟩ := hY (m - 1) _ (fsts pre) xa W hJs hall hpre2
    clear hY
    gi_wp2_with fail
    refine (roundIn_in hRd).mono ?_
    rintro e W4 (⟨rfl, hJ4, hF4⟩ | ⟨rfl, hJx4, hF4⟩)
    · gi_wp2_with fail
      exact ⟨hF4.mono fun k _ h h' => h (.inr (by
        rcases h' with h' | h' | h' | h'
        · exact .inl h'
        · exact .inr (.inl h')
        · exact .inr (.inr (.inr (.inl h')))
        · exact .inr (.inr (.inr (.inr h'))))), by rw [hmap.out]; exact hJ4, hF4.blk kY (fun h => h (.inr (.inr (.inr (.inl rfl))))), nY, Nat.le_trans hwz hF4.size⟩
    · gi_wp2_with fail
      exact ⟨hF4.mono fun k _ h h' => h (.inr (h'.elim (fun h' => .inr (.inr (.inr (.inl h')))) (fun h' => .inr (.inr (.inr (.inr h')))))), rfl, hpre, by rw [hmap.out]; exact hJx4⟩
  case done =>
    rintro X W5 hsz ⟨hJs, _, _, _⟩ hd
    have hfin := hJ _ _ W5 (W5.putObj w2.heap.size (.deferred none)) hJs (Far.putObj (Far.refl _ _) (fun _ => .inr (.inr (.inr (.inr (.inl rfl))))) _)
    go_wp2_with fail
    exact leave_mark (v := .tuple #[]) hd (results_none rfl _ _ _) ⟨⟨_, rfl⟩, .inl ⟨_, hfin⟩⟩
  case stop =>
    rintro c X pre W5 hsz hpre ⟨rfl, _, hJs⟩ hd
    have hfin := hJx _ _ W5 (W5.putObj w2.heap.size (.deferred none)) hJs (Far.putObj (Far.refl _ _) (fun _ => .inr (.inr (.inr (.inr (.inl rfl))))) _)
    go_wp2_with fail
    exact leave_mark (v := .tuple #[]) hd (results_none rfl _ _ _) ⟨⟨_, rfl⟩, .inr ⟨_, _, fsts_pre hpre, hfin⟩⟩
end Go.Proofs.YtpabnbhbcphfiaaGreat
namespace Go.Pol
open Go Go.RowKit
/-- a loop over numbers whose variable is a temporary -/
theorem rangeYI {P : Program} {g : Operand} {ps : Array Tmp} {assign body : Code} {Q : Exit → Act → World → Prop} {a : Act} {w : World} (ia pb : Nat)
    {gf : Nat} {lb : Array Value} (hg : a.eval g = .func (.func gf) #[] lb) (eg : ∀ args w, (callFunc gf args).run P w = .ok (.enter gf args) w)
    {T K : Nat → Prop} {xs : List Int} (hseq : SeqY P gf lb inA T K xs w) (hps : ps = #[pb])
    (hT : ∀ k, T k → k < w.heap.size) (hK : ∀ k, K k → k < w.heap.size)
    (I : (Nat → Prop) → List Int → World → Prop) (Ix : Code → (Nat → Prop) → List Int → World → Prop)
    (hI : ∀ X pre A B, I X pre A → Far (fun k => T k ∨ X k ∨ k = w.heap.size ∨ k = w.heap.size + 1) A B → I X pre B)
    (hIx : ∀ c X pre A B, Ix c X pre A → Far (fun k => T k ∨ X k ∨ k = w.heap.size ∨ k = w.heap.size + 1) A B → Ix c X pre B)
    (hnew : ∀ X X' pre A, I X pre A → (∀ k, X' k → X k ∨ A.heap.size ≤ k) → I X' pre A)
    (h0 : I (fun _ => False) [] w)
    (hassign : ∀ (m l : Nat) (x : Int) (W : World) (C : Act → World → Prop),
      C { tmps := (a.tmps.setIfInBounds pb (.int .i64 x)).setIfInBounds ia (.int .i64 x), defers := [] } W →
      assign.wpIn (Fence.wide.inRound l) m P (Exit.then C (fun _ _ _ => False)) { tmps := a.tmps.setIfInBounds pb (.int .i64 x), defers := [] } W)
    (hbody : ∀ (m l : Nat) (X : Nat → Prop) (pre : List Int) (x : Int) (Wa W : World), w.heap.size + 2 ≤ W.heap.size → (∀ k, X k → k < Wa.heap.size ∧ k ≠ w.heap.size ∧ k ≠ w.heap.size + 1) → I X pre W → pre ++ [x] <+: xs → Wa.heap.size ≤ W.heap.size →
      body.wpIn (Fence.wide.inRound l) m P (yPost w.heap.size K X I Ix (pre ++ [x]) W) { tmps := (a.tmps.setIfInBounds pb (.int .i64 x)).setIfInBounds ia (.int .i64 x), defers := [] } W)
    (hdone : ∀ (X : Nat → Prop) (W : World), w.heap.size + 2 ≤ W.heap.size → I X xs W → W.heap[w.heap.size]? = some (.deferred (some [])) → Q .normal { a with defers := markOf w.heap.size :: a.defers } W)
    (hstop : ∀ (c : Code) (X : Nat → Prop) (pre : List Int) (W : World), w.heap.size + 2 ≤ W.heap.size → pre <+: xs → Ix c X pre W → W.heap[w.heap.size]? = some (.deferred (some [])) → c.wp P Q { a with defers := markOf w.heap.size :: a.defers } W) :
    (Code.rangeFunc g ps assign body).wp P Q a w := by
  subst hps
  refine rangeY hg eg hseq (fun _ => rfl) hT hK I Ix hI hIx hnew h0
    (fun _ x a' _ => a' = { tmps := (a.tmps.setIfInBounds pb (.int .i64 x)).setIfInBounds ia (.int .i64 x), defers := [] })
    (fun _ _ _ _ _ h _ => h) ?_ ?_ hdone hstop
  · intro m l x W C hs hC
    have e : (#[pb].zip (inA x)).foldl (fun t (p, v) => t.setIfInBounds p v) a.tmps = a.tmps.setIfInBounds pb (.int .i64 x) := by simp [inA]
    rw [e]
    exact hassign m l x W C (hC _ _ (Far.refl _ W) rfl)
  · rintro m l X pre x a' Wa W hs hX hi rfl hpre _ hfa
    exact hbody m l X pre x Wa W hs hX hi hpre hfa.size
end Go.Pol
namespace Go.Proofs.YtpabnbhbcphfiaaGreat
open Go Go.Proofs Go.RowKit Go.Pol Go.Shelf
attribute [local go_sem] Oper.semAt_some Go.Pol.wide_fn Go.Pol.wide_depth Go.Pol.wide_fn' Go.Pol.wide_depth'

theorem pages_enters : ∀ args w, (callFunc 208 args).run Tryz.prog w = .ok (.enter 208 args) w := enters_of Tryz.func208 (by kernel_rfl) rfl

set_option maxHeartbeats 800000 in
theorem pagesTop_any (A : Option Addr) (n cap : Nat) (us : List Sp) (w : World) (hn : us.length = n) (hm : n ≤ 1000000) (hr : RU w w.heap.size A us) :
    Calls Tryz.prog 162 #[.slice A n cap] w fun e w' => ∃ (lb : Array Value) (K : Nat → Prop), e = .returned (.func (.func 208) #[] lb) ∧
      SeqY Tryz.prog 208 lb inA (fun _ => False) K (fsts (piecesF us 1)) w' ∧ (∀ k, K k → w.heap.size ≤ k ∧ k < w'.heap.size) ∧ Below w.heap.size w w' := by
  have hb0 := (Below.refl w.heap.size w).alloc (Nat.le_refl _) (.cells #[.slice A n cap] 22)
  have k1 := Blk.new w 22 #[.slice A n cap]
  have r0 : RU (w.alloc (.cells #[.slice A n cap] 22)) _ A us := hr.on hb0
  have HK := Lib.hid (clone_any A n cap us _ hn hm r0)
  have z1 := k1.cell
  have hsz : (w.alloc (.cells #[.slice A n cap] 22)).heap.size = w.heap.size + 1 := by simp
  go_enter Tryz.func162, Tryz.ntmps162
  go_wp2_with fail
  refine HK.out.mono ?_
  rintro e w1 ⟨v, rfl, hrow, hb1⟩
  have B1 := hb0.trans (hb1.mono hb0.size)
  have k1b := k1.call hb1
  have f1 := k1b.frozen
  have z1b := k1b.cell
  have hs1 := B1.size
  clear HK
  obtain ⟨A2, cap2, rfl⟩ := own_nil_iff hrow hn
  go_wp2_with fail
  go_ret
  have k1c := k1b.set_ 0 (.slice A2 n cap2)
  have hfar : Far (fun k => k = w.heap.size) w1 (w1.setCell ⟨w.heap.size, 0, none⟩ (.slice A2 n cap2)) := Far.setCell (T := fun k => k = w.heap.size) (p := ⟨w.heap.size, 0, none⟩) (Far.refl _ _) (fun _ => rfl) _
  have hrow2 := ownsRow_far hrow hfar (fun g hg e => by have := (hrow.lt g hg).1; omega)
  have B2 := B1.trans (hfar.below hs1 (fun k hk h => by omega))
  generalize w1.setCell ⟨w.heap.size, 0, none⟩ (.slice A2 n cap2) = w2 at *
  obtain ⟨A3, cap3, he, hru, h1, h2, h3, _⟩ := own_RU hrow2 hn
  cases he
  refine ⟨_, fun k => k = w.heap.size ∨ (us ≠ [] ∧ ∃ o, A2 = some ⟨k, o, none⟩), rfl, pages1_seq A2 n cap2 us w.heap.size _ w2 (.inl rfl) (by simpa using k1c) hn hm hru (fun h b o e => .inr ⟨h, o, e⟩), ?_, B2⟩
  rintro k (rfl | ⟨h, o, e⟩)
  · exact ⟨Nat.le_refl _, k1c.lt⟩
  · exact ⟨by have := h3 k o e; omega, ru_lt hru h e⟩

end Go.Proofs.YtpabnbhbcphfiaaGreat
namespace Go.Proofs.YtpabnbhbcphfiaaGreat
open Go Go.Proofs Go.RowKit Go.Pol Go.Shelf
attribute [local go_sem] Oper.semAt_some Go.Pol.wide_fn Go.Pol.wide_depth Go.Pol.wide_fn' Go.Pol.wide_depth'
theorem getD_memI {bs : List Int} {k : Nat} (h : k < bs.length) : bs.getD k 0 ∈ bs := by
  rw [List.getD_eq_getElem?_getD, List.getElem?_eq_getElem h]; exact List.getElem_mem h

/-- where the first entry is that a test holds of -/
def idxI (p : Int → Bool) : List Int → Nat → Int
  | [], _ => -1
  | x :: r, k => if p x = true then (k : Int) else idxI p r (k + 1)
theorem idxI_any (p : Int → Bool) : ∀ (bs : List Int) (k : Nat), decide (0 ≤ idxI p bs k) = bs.any p
  | [], k => by simp [idxI]
  | x :: r, k => by
    rw [idxI]
    cases h : p x with
    | true => simp [h]
    | false => simp [h, idxI_any p r (k + 1)]
set_option maxRecDepth 100000 in
theorem indexI_any (p : Int → Bool) (g : Nat) (lb : Array Value) (A : Option Addr) (n cap : Nat) (bs : List Int) (w : World) (hn : bs.length = n) (hm : n ≤ maxLen) (hr : RI w w.heap.size A bs)
    (eg : ∀ args w, (callFunc g args).run Tryz.prog w = .ok (.enter g args) w)
    (hp : ∀ x ∈ bs, ∀ W, Below w.heap.size w W → Calls Tryz.prog g (#[.int .i64 x] ++ lb) W fun e W' => e = .returned (.bool (p x)) ∧ Below W.heap.size W W') :
    Calls Tryz.prog 213 #[.slice A n cap, .func (.func g) #[] lb] w fun e w' => e = .returned (.int .i64 (idxI p bs 0)) ∧ Below w.heap.size w w' := by
  unfold maxLen at hm
  obtain ⟨R, hR⟩ : ∃ R, idxI p bs 0 = R := ⟨_, rfl⟩
  rw [hR]
  have hR' := Lib.hid hR
  have hn' := Lib.hid hn
  have hp' := Lib.hid hp
  clear hR hn hp
  go_enter Tryz.func213, Tryz.ntmps213
  go_wp2_with fail
  go_loopw [8] (fun i wr => ∃ k : Nat, k ≤ n ∧ i = .int .i64 k ∧ Below w.heap.size w wr ∧ Hid (idxI p (bs.drop k) k = R)) (fun i _ => n - (intOf i).toNat)
  case atStart => exact ⟨0, by omega, rfl, Below.refl _ _, by simpa using hR'⟩
  case round =>
    obtain ⟨k, hk, rfl, hB, hH⟩ := hrel
    by_cases hlt : k < n
    · have hlt' : decide ((k : Int) < (n : Int)) = true := by simpa using hlt
      obtain ⟨b, o, rfl, _, c1⟩ := ((hr.below hB).more hB.size).at_ (k := k) (by have := hn'.out; omega)
      have HP := Lib.hid (hp'.out (bs.getD k 0) (getD_memI (by have := hn'.out; omega)) wr hB)
      have hst := hH.out
      rw [Go.Pol.drop_cons 0 bs k (by have := hn'.out; omega), idxI] at hst
      generalize bs.getD k 0 = x at *
      cases hpx : p x with
      | true =>
        rw [hpx] at HP
        rw [if_pos hpx] at hst
        have hst' := Lib.hid hst
        clear hst hH hpx
        go_wp2_with fail
        refine HP.out.mono ?_
        rintro e w1 ⟨rfl, hb1⟩
        go_wp2_with fail
        go_ret
        exact ⟨ret_int hst'.out, hB.trans (hb1.mono hB.size)⟩
      | false =>
        rw [hpx] at HP
        rw [if_neg (by simp [hpx])] at hst
        have hst' := Lib.hid hst
        clear hst hH hpx
        go_wp2_with fail
        refine HP.out.mono ?_
        rintro e w1 ⟨rfl, hb1⟩
        go_wp2_with fail
        go_roundw
        case rel => exact ⟨k + 1, by omega, by go_num, hB.trans (hb1.mono hB.size), hst'⟩
        case measure => simp [intOf]; omega
    · obtain rfl : k = n := by omega
      have hlt' : decide ((k : Int) < (k : Int)) = false := by simp
      have hst := hH.out
      rw [List.drop_of_length_le (by have := hn'.out; omega)] at hst
      have hst' := Lib.hid (show -1 = R from hst)
      clear hst hH
      go_wp2_with fail
      go_ret
      exact ⟨ret_int hst'.out, hB⟩
theorem containsI_any (p : Int → Bool) (g : Nat) (lb : Array Value) (A : Option Addr) (n cap : Nat) (bs : List Int) (w : World) (hn : bs.length = n) (hm : n ≤ maxLen) (hr : RI w w.heap.size A bs)
    (eg : ∀ args w, (callFunc g args).run Tryz.prog w = .ok (.enter g args) w)
    (hp : ∀ x ∈ bs, ∀ W, Below w.heap.size w W → Calls Tryz.prog g (#[.int .i64 x] ++ lb) W fun e W' => e = .returned (.bool (p x)) ∧ Below W.heap.size W W') :
    Calls Tryz.prog 166 #[.slice A n cap, .func (.func g) #[] lb] w fun e w' => e = .returned (.bool (bs.any p)) ∧ Below w.heap.size w w' := by
  have HI := Lib.hid (indexI_any p g lb A n cap bs w hn hm hr eg hp)
  have hE := Lib.hid (idxI_any p bs 0)
  generalize idxI p bs 0 = R at *
  generalize bs.any p = S at *
  go_enter Tryz.func166, Tryz.ntmps166
  go_wp2_with fail
  refine HI.out.mono ?_
  rintro e w1 ⟨rfl, hb1⟩
  go_wp2_with fail
  go_ret
  exact ⟨ret_bool hE.out, hb1⟩
theorem open1_any (x : Int) (w : World) : Calls Tryz.prog 167 #[.int .i64 x] w fun e w' => e = .returned (.bool (!inG x)) ∧ w' = w := by
  have hR : (decide (x < 0) || decide (64 ≤ x)) = !inG x := by
    unfold inG
    by_cases h1 : x < 0 <;> by_cases h2 : 64 ≤ x <;> simp [h1, h2] <;> omega
  have hR' := Lib.hid hR
  generalize (!inG x) = R at *
  clear hR
  by_cases h1 : x < 0
  · go_enter Tryz.func167, Tryz.ntmps167
    go_wp2_with fail
    go_ret
    exact ⟨ret_bool (by have := hR'.out; simpa [h1] using this), rfl⟩
  · go_enter Tryz.func167, Tryz.ntmps167
    go_wp2_with fail
    go_ret
    exact ⟨ret_bool (by have := hR'.out; rw [decide_eq_false (show ¬ x < 0 by omega), Bool.false_or] at this; exact this), rfl⟩
end Go.Proofs.YtpabnbhbcphfiaaGreat
namespace Go.Pol
open Go
def upd {β : Type} (f : Nat → β) (p : Nat) (u : β) (q : Nat) : β := if q = p then u else f q
/-- page q: committed, live; group q: number, committed, live, huge -/
structure LookIs (cs : Array Value) (cm lv : Nat → Bool) (nm gc gl : Nat → Int) (gh : Nat → Bool) : Prop where
  size : cs.size = 2304
  cm : ∀ q, q < 1024 → cs[q * 2]? = some (.bool (cm q))
  lv : ∀ q, q < 1024 → cs[q * 2 + 1]? = some (.bool (lv q))
  nm : ∀ q, q < 64 → cs[2048 + q * 4]? = some (.int .i64 (nm q))
  gc : ∀ q, q < 64 → cs[2048 + q * 4 + 1]? = some (.int .i64 (gc q))
  gl : ∀ q, q < 64 → cs[2048 + q * 4 + 2]? = some (.int .i64 (gl q))
  gh : ∀ q, q < 64 → cs[2048 + q * 4 + 3]? = some (.bool (gh q))
section
variable {cs : Array Value} {cm lv : Nat → Bool} {nm gc gl : Nat → Int} {gh : Nat → Bool}
theorem LookIs.cm_ (h : LookIs cs cm lv nm gc gl gh) {p : Nat} (hp : p < 1024) (u : Bool) : LookIs (cs.setIfInBounds (p * 2) (.bool u)) (upd cm p u) lv nm gc gl gh := by
  refine ⟨by rw [Array.size_setIfInBounds]; exact h.size, ?_, ?_, ?_, ?_, ?_, ?_⟩ <;> intro q hq <;> rw [Array.getElem?_setIfInBounds]
  · by_cases e : p = q
    · subst e; rw [if_pos rfl, if_pos (by rw [h.size]; omega), upd, if_pos rfl]
    · rw [if_neg (by omega), upd, if_neg (fun h => e h.symm)]; exact h.cm q hq
  · rw [if_neg (by omega)]; exact h.lv q hq
  · rw [if_neg (by omega)]; exact h.nm q hq
  · rw [if_neg (by omega)]; exact h.gc q hq
  · rw [if_neg (by omega)]; exact h.gl q hq
  · rw [if_neg (by omega)]; exact h.gh q hq
theorem LookIs.lv_ (h : LookIs cs cm lv nm gc gl gh) {p : Nat} (hp : p < 1024) (u : Bool) : LookIs (cs.setIfInBounds (p * 2 + 1) (.bool u)) cm (upd lv p u) nm gc gl gh := by
  refine ⟨by rw [Array.size_setIfInBounds]; exact h.size, ?_, ?_, ?_, ?_, ?_, ?_⟩ <;> intro q hq <;> rw [Array.getElem?_setIfInBounds]
  · rw [if_neg (by omega)]; exact h.cm q hq
  · by_cases e : p = q
    · subst e; rw [if_pos rfl, if_pos (by rw [h.size]; omega), upd, if_pos rfl]
    · rw [if_neg (by omega), upd, if_neg (fun h => e h.symm)]; exact h.lv q hq
  · rw [if_neg (by omega)]; exact h.nm q hq
  · rw [if_neg (by omega)]; exact h.gc q hq
  · rw [if_neg (by omega)]; exact h.gl q hq
  · rw [if_neg (by omega)]; exact h.gh q hq
theorem LookIs.nm_ (h : LookIs cs cm lv nm gc gl gh) {p : Nat} (hp : p < 64) (u : Int) : LookIs (cs.setIfInBounds (2048 + p * 4) (.int .i64 u)) cm lv (upd nm p u) gc gl gh := by
  refine ⟨by rw [Array.size_setIfInBounds]; exact h.size, ?_, ?_, ?_, ?_, ?_, ?_⟩ <;> intro q hq <;> rw [Array.getElem?_setIfInBounds]
  · rw [if_neg (by omega)]; exact h.cm q hq
  · rw [if_neg (by omega)]; exact h.lv q hq
  · by_cases e : p = q
    · subst e; rw [if_pos rfl, if_pos (by rw [h.size]; omega), upd, if_pos rfl]
    · rw [if_neg (by omega), upd, if_neg (fun h => e h.symm)]; exact h.nm q hq
  · rw [if_neg (by omega)]; exact h.gc q hq
  · rw [if_neg (by omega)]; exact h.gl q hq
  · rw [if_neg (by omega)]; exact h.gh q hq
theorem LookIs.gc_ (h : LookIs cs cm lv nm gc gl gh) {p : Nat} (hp : p < 64) (u : Int) : LookIs (cs.setIfInBounds (2048 + p * 4 + 1) (.int .i64 u)) cm lv nm (upd gc p u) gl gh := by
  refine ⟨by rw [Array.size_setIfInBounds]; exact h.size, ?_, ?_, ?_, ?_, ?_, ?_⟩ <;> intro q hq <;> rw [Array.getElem?_setIfInBounds]
  · rw [if_neg (by omega)]; exact h.cm q hq
  · rw [if_neg (by omega)]; exact h.lv q hq
  · rw [if_neg (by omega)]; exact h.nm q hq
  · by_cases e : p = q
    · subst e; rw [if_pos rfl, if_pos (by rw [h.size]; omega), upd, if_pos rfl]
    · rw [if_neg (by omega), upd, if_neg (fun h => e h.symm)]; exact h.gc q hq
  · rw [if_neg (by omega)]; exact h.gl q hq
  · rw [if_neg (by omega)]; exact h.gh q hq
theorem LookIs.gl_ (h : LookIs cs cm lv nm gc gl gh) {p : Nat} (hp : p < 64) (u : Int) : LookIs (cs.setIfInBounds (2048 + p * 4 + 2) (.int .i64 u)) cm lv nm gc (upd gl p u) gh := by
  refine ⟨by rw [Array.size_setIfInBounds]; exact h.size, ?_, ?_, ?_, ?_, ?_, ?_⟩ <;> intro q hq <;> rw [Array.getElem?_setIfInBounds]
  · rw [if_neg (by omega)]; exact h.cm q hq
  · rw [if_neg (by omega)]; exact h.lv q hq
  · rw [if_neg (by omega)]; exact h.nm q hq
  · rw [if_neg (by omega)]; exact h.gc q hq
  · by_cases e : p = q
    · subst e; rw [if_pos rfl, if_pos (by rw [h.size]; omega), upd, if_pos rfl]
    · rw [if_neg (by omega), upd, if_neg (fun h => e h.symm)]; exact h.gl q hq
  · rw [if_neg (by omega)]; exact h.gh q hq
theorem LookIs.gh_ (h : LookIs cs cm lv nm gc gl gh) {p : Nat} (hp : p < 64) (u : Bool) : LookIs (cs.setIfInBounds (2048 + p * 4 + 3) (.bool u)) cm lv nm gc gl (upd gh p u) := by
  refine ⟨by rw [Array.size_setIfInBounds]; exact h.size, ?_, ?_, ?_, ?_, ?_, ?_⟩ <;> intro q hq <;> rw [Array.getElem?_setIfInBounds]
  · rw [if_neg (by omega)]; exact h.cm q hq
  · rw [if_neg (by omega)]; exact h.lv q hq
  · rw [if_neg (by omega)]; exact h.nm q hq
  · rw [if_neg (by omega)]; exact h.gc q hq
  · rw [if_neg (by omega)]; exact h.gl q hq
  · by_cases e : p = q
    · subst e; rw [if_pos rfl, if_pos (by rw [h.size]; omega), upd, if_pos rfl]
    · rw [if_neg (by omega), upd, if_neg (fun h => e h.symm)]; exact h.gh q hq
end
end Go.Pol
namespace Go.Pol

/-- how many of some pages are in group g -/
def cntP (pre : List Int) (g : Int) : Int := (pre.countP fun p => p / 16 == g : Nat)
theorem cntP_snoc (pre : List Int) (x g : Int) : cntP (pre ++ [x]) g = cntP pre g + if x / 16 = g then 1 else 0 := by
  unfold cntP
  rw [List.countP_append]
  by_cases h : x / 16 = g
  · simp [h]
  · simp [h]
theorem cntN_eq (x : Int) : ∀ (k : Nat) (a : Int), cntN (fun q => decide (q = x)) k a = if a ≤ x ∧ x < a + k then 1 else 0
  | 0, a => by rw [cntN, if_neg (by omega)]
  | k + 1, a => by
    rw [cntN, cntN_eq x k (a + 1)]
    by_cases h : a = x
    · rw [if_pos (by simpa using h), if_neg (by omega), if_pos (by omega)]; rfl
    · rw [if_neg (by simpa using h)]
      by_cases h2 : a + 1 ≤ x ∧ x < a + 1 + k
      · rw [if_pos h2, if_pos (by omega)]; rfl
      · rw [if_neg h2, if_neg (by omega)]; rfl
theorem cntN_or {f g : Int → Bool} : ∀ (k : Nat) (a : Int), (∀ q, f q = true → g q = true → False) → cntN (fun q => f q || g q) k a = cntN f k a + cntN g k a
  | 0, _, _ => rfl
  | k + 1, a, h => by
    rw [cntN, cntN, cntN, cntN_or k (a + 1) h]
    cases hf : f a with
    | true =>
      cases hg : g a with
      | true => exact (h a hf hg).elim
      | false => simp; omega
    | false =>
      cases hg : g a with
      | true => simp; omega
      | false => simp
theorem cntP_mem (g : Int) : ∀ (l : List Int), l.Nodup → cntP l g = cntN (fun q => decide (q ∈ l)) 16 (16 * g)
  | [], _ => by rw [cntN_none]; · rfl
                · intro q _ _; simp
  | x :: r, h => by
    obtain ⟨h1, h2⟩ := List.nodup_cons.1 h
    have e : (fun q => decide (q ∈ x :: r)) = fun q => decide (q = x) || decide (q ∈ r) := by
      funext q; simp
    rw [e, cntN_or _ _ (fun q a b => h1 (by simp only [decide_eq_true_eq] at a b; exact a ▸ b)), cntN_eq, ← cntP_mem g r h2]
    unfold cntP
    rw [List.countP_cons]
    by_cases hx : x / 16 = g
    · rw [if_pos (by simpa using hx), if_pos (by omega)]; omega
    · rw [if_neg (by simpa using hx), if_neg (by omega)]; omega
theorem mem_pagesOf {p : Int} {us : List Sp} : p ∈ pagesOf us ↔ mem p us = true := by
  unfold pagesOf mem
  simp only [List.mem_flatMap, List.mem_map, List.mem_range, List.any_eq_true, Bool.and_eq_true, decide_eq_true_eq]
  constructor
  · rintro ⟨x, hx, k, hk, rfl⟩
    exact ⟨x, hx, by omega, by omega⟩
  · rintro ⟨x, hx, h1, h2⟩
    exact ⟨x, hx, (p - x.1).toNat, by omega, by omega⟩
theorem pages_lt {us : List Sp} (h : Can us) : (pagesOf us).Pairwise (· < ·) :=
  (pages_sorted us (-1) (fun x hx => (vld_iff.1 (h.1 x hx)).2.2.1) h.2).1
theorem pages_nodup {us : List Sp} (h : Can us) : (pagesOf us).Nodup := (pages_lt h).imp (fun h => by omega)
theorem cntP_pages {us : List Sp} (h : Can us) (g : Int) : cntP (pagesOf us) g = grpF us g := by
  rw [cntP_mem g _ (pages_nodup h)]
  unfold grpF cntF
  refine cntN_congr _ _ fun q _ _ => ?_
  rw [Bool.eq_iff_iff]; simp [mem_pagesOf]
theorem subF_iff {L C : List Sp} (h : Can L) : subF L C = true ↔ ∀ p ∈ pagesOf L, mem p C = true := by
  unfold subF
  simp only [List.all_eq_true, List.mem_range, Bool.or_eq_true, Bool.not_eq_true']
  constructor
  · intro hs p hp
    have hm := mem_pagesOf.1 hp
    obtain ⟨h0, h1⟩ := h.range hm
    have := hs p.toNat (by omega)
    rw [show ((p.toNat : Nat) : Int) = p by omega] at this
    rcases this with h' | h'
    · rw [hm] at h'; cases h'
    · exact h'
  · intro hs p hp
    cases hm : mem (p : Int) L with
    | false => exact .inl rfl
    | true => exact .inr (hs _ (mem_pagesOf.2 hm))
end Go.Pol
namespace Go.Pol
open Go Go.RowKit
/-- a region in a loop's body that draws its order and makes no call: as in a function's own code -/
theorem wpOpIn_round {P : Program} {ops : Array Oper} {Q : Exit → Act → World → Prop} {l m i : Nat} {K : Act → World → Prop} {a : Act} {w : World} (hd : ∀ o : Oper, ops[i]? = some o → ∀ c, o.op ≠ .defer c) (hno : ¬ LetsOut Q)
    (h : wpOp P ops Q i K a w) : wpOpIn (Fence.wide.inRound l) m P ops Q i K a w := by
  unfold wpOp at h
  unfold wpOpIn
  split
  · rename_i ho; simpa only [ho] using h
  · rename_i o ho
    simp only [ho] at h
    split
    · rename_i hw
      simp only [hw, if_true] at h
      rcases h with h | ⟨_, h⟩
      · unfold Oper.wpIn
        refine ⟨fun _ _ => trivial, ?_⟩
        rw [Fence.inRound_round, Oper.semAt_some l _ _ (hd o ho)]
        unfold Oper.wp at h
        generalize (execOp a.eval o).run P w = r at *
        cases r with
        | ok x w' =>
          cases x <;> simp only [Oper.upon, Oper.uponIn] at h ⊢ <;> first
            | exact h
            | exact ⟨fun h0 => (by cases h0), (CallsIn.inRound l (callsIn_wide.2 h)).mono fun e w'' he => by cases e <;> exact he⟩
            | exact ⟨fun h0 => (by cases h0), fun c cs _ => let ⟨v, w'', r, s⟩ := h c cs; ⟨v, w'', r, stepsIn_wide.2 s⟩⟩
        | halt x w' => cases x <;> simp only [Oper.upon, Oper.uponIn] at h ⊢ <;> exact h
      · exact absurd h hno
    · rename_i hw
      simp only [hw] at h
      exact ⟨fun _ _ => trivial, h⟩
theorem wpAnyIn_round {P : Program} {ops : Array Oper} {Q : Exit → Act → World → Prop} {md : Region.Mode} {l m : Nat} (hd : ∀ (i : Nat) (o : Oper), ops[i]? = some o → ∀ c, o.op ≠ .defer c) (hno : ¬ LetsOut Q) :
    ∀ (fuel : Nat) (listed : Array Bool) (a : Act) (w : World), wpAny P md ops Q fuel listed a w → wpAnyIn (Fence.wide.inRound l) m P md ops Q fuel listed a w
  | 0, _, _, _, h => h
  | fuel + 1, _, _, _, h => ⟨h.1, fun i hi => wpOpIn_mono (fun a w h => wpAnyIn_round hd hno fuel _ a w h) (wpOpIn_round (hd i) hno (h.2 i hi))⟩
def noDefer (ops : Array Oper) : Bool := ops.all fun o => match o.op with
  | .defer _ => false
  | _ => true
theorem noDefer_spec {ops : Array Oper} (h : noDefer ops = true) (i : Nat) (o : Oper) (ho : ops[i]? = some o) (c : Call) : o.op ≠ .defer c := fun e => by
  have := (Array.all_eq_true_iff_forall_mem.1 h) o (Array.mem_of_getElem? ho)
  rw [e] at this
  cases this
end Go.Pol
