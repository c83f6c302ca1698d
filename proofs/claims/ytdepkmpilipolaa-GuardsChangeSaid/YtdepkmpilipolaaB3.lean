/- Merged texts. Walks: the checks of layer 3 (spans), of the program and of the reference. Walks: the function values that the spans' and the guards' loops go through (common pages of two sets; runs of usable pages). Walks: the checks of layer 11 (guards), of the program and of the reference; the kind of a page. Openers: what a system is made of (law 11's Made) as it comes in; a plan. Walks of law 24's own functions: system. Walks of law 11's own functions over a system: system, great. The reference's system in memory. Plain words for what a system's Save says: the runs of pages of one kind, the huge groups, the pages with bytes. Walks of layer 6: Save's first statement, whose order of evaluation is open. Walks: slices.Collect over a function value that goes through spans; the usable pages of a plan. Walks: the reference's set of marked pages. Plain laws on plans of guards: the runs of usable pages are a set; which pages they have; numbers of usable pages. Walks: the reference's list of the pages of a set. Walks of layer 6: Save. Walks: the gaps of a set of spans in a span, Not. -/
import Derived.Test.YtdepkmpilipolaaChecked
import Derived.Laws.StructEq
import Derived.Sort.CutIn
import Derived.DeepKeys
import Derived.Maps.AppendAt
import Derived.Shelf.Abstract
import Derived.Great.BuildSlice
import Derived.Test.YtdepkmpilipolaaB2
namespace Go.Proofs.Ytdepkmpilipolaa
open Go Go.Proofs Go.RowKit Go.Pol

theorem wrong_any (p n : Int) (w : World) :
    Calls Try.prog 61 #[.agg #[.int .i64 p, .int .i64 n]] w fun e w' => e = .returned (.bool (!vld (p, n))) ∧ Below w.heap.size w w' := by
  have hb0 := (Below.refl w.heap.size w).alloc (Nat.le_refl _) (.cells #[.int .i64 p, .int .i64 n] 56)
  by_cases h1 : p < 0
  · have h1' : decide (p < 0) = true := by simpa using h1
    go_enter Try.func61, Try.ntmps61
    go_wp2
    go_ret
    exact ⟨ret_bool (by simp [vld]; omega), hb0⟩
  have h1' : decide (p < 0) = false := by simpa using h1
  by_cases h2 : 1024 ≤ p
  · have h2' : decide (1024 ≤ p) = true := by simpa using h2
    go_enter Try.func61, Try.ntmps61
    go_wp2
    go_ret
    exact ⟨ret_bool (by simp [vld]; omega), hb0⟩
  have h2' : decide (1024 ≤ p) = false := by simpa using h2
  by_cases h3 : n < 1
  · have h3' : decide (n < 1) = true := by simpa using h3
    go_enter Try.func61, Try.ntmps61
    go_wp2
    go_ret
    exact ⟨ret_bool (by simp [vld]; omega), hb0⟩
  have h3' : decide (n < 1) = false := by simpa using h3
  go_enter Try.func61, Try.ntmps61
  go_wp2
  go_ret
  exact ⟨ret_bool (by rw [Bool.eq_iff_iff]; simp [vld]; omega), hb0⟩

theorem valid_any (p n : Int) (w : World) :
    Calls Try.prog 30 #[.agg #[.int .i64 p, .int .i64 n]] w fun e w' => e = .returned (.bool (vld (p, n))) ∧ Below w.heap.size w w' := by
  have hb0 := (Below.refl w.heap.size w).alloc (Nat.le_refl _) (.cells #[.int .i64 p, .int .i64 n] 56)
  by_cases h1 : 0 ≤ p
  case neg =>
    have h1' : decide (0 ≤ p) = false := by simpa using h1
    go_enter Try.func30, Try.ntmps30
    go_wp2
    go_ret
    exact ⟨ret_bool (by simp [vld]; omega), hb0⟩
  have h1' : decide (0 ≤ p) = true := by simpa using h1
  by_cases h2 : p < 1024
  case neg =>
    have h2' : decide (p < 1024) = false := by simpa using h2
    go_enter Try.func30, Try.ntmps30
    go_wp2
    go_ret
    exact ⟨ret_bool (by simp [vld]; omega), hb0⟩
  have h2' : decide (p < 1024) = true := by simpa using h2
  by_cases h3 : 1 ≤ n
  case neg =>
    have h3' : decide (1 ≤ n) = false := by simpa using h3
    go_enter Try.func30, Try.ntmps30
    go_wp2
    go_ret
    exact ⟨ret_bool (by simp [vld]; omega), hb0⟩
  have h3' : decide (1 ≤ n) = true := by simpa using h3
  go_enter Try.func30, Try.ntmps30
  go_wp2
  go_ret
  exact ⟨ret_bool (by rw [Bool.eq_iff_iff]; simp [vld]; omega), hb0⟩

theorem end_any (p n : Int) (w : World) (hp : -100000 ≤ p ∧ p ≤ 100000) (hn : -100000 ≤ n ∧ n ≤ 100000) :
    Calls Try.prog 63 #[.agg #[.int .i64 p, .int .i64 n]] w fun e w' => e = .returned (.int .i64 (p + n)) ∧ Below w.heap.size w w' := by
  have hb0 := (Below.refl w.heap.size w).alloc (Nat.le_refl _) (.cells #[.int .i64 p, .int .i64 n] 56)
  go_enter Try.func63, Try.ntmps63
  go_wp2
  go_ret
  exact ⟨rfl, hb0⟩

/-- where the first span that is not valid lies -/
def badAt : List Sp → Nat
  | [] => 0
  | x :: r => if vld x = true then badAt r + 1 else 0
theorem badAt_all : ∀ (s : List Sp), (badAt s = s.length ↔ s.all vld = true)
  | [] => by simp [badAt]
  | x :: r => by
    have := badAt_all r
    simp only [badAt, List.length_cons, List.all_cons]
    by_cases h : vld x = true
    · rw [if_pos h]; simp [h, this]
    · rw [if_neg h]; simp [h]
theorem badAt_at : ∀ (s : List Sp) (k : Nat), (∀ j, j < k → j < s.length → vld (s.getD j (0,0)) = true) → k < s.length → vld (s.getD k (0,0)) = false → badAt s = k
  | [], k, _, h, _ => by simp at h
  | x :: r, 0, _, _, h => by simp at h; simp [badAt, h]
  | x :: r, k + 1, hj, hk, h => by
    have h0 := hj 0 (by omega) (by simp)
    simp at h0
    rw [badAt, if_pos h0, badAt_at r k (fun j h1 h2 => by simpa using hj (j + 1) (by omega) (by simp; omega)) (by simpa using hk) (by simpa using h)]
theorem badAt_end (s : List Sp) (h : ∀ j, j < s.length → vld (s.getD j (0,0)) = true) : badAt s = s.length := by
  rw [badAt_all, List.all_eq_true]
  intro x hx
  obtain ⟨j, hj, rfl⟩ := List.getElem_of_mem hx
  simpa [List.getD_eq_getElem?_getD, hj] using h j hj

set_option maxHeartbeats 400000 in
theorem indexFunc_any (A : Option Addr) (n cap : Nat) (us : List Sp) (w : World) (hn : us.length = n) (hm : n ≤ maxLen) (hr : RU w w.heap.size A us) :
    Calls Try.prog 69 #[.slice A n cap, .func (.func 61) #[] #[]] w fun e w' => e = .returned (.int .i64 (if badAt us = n then -1 else (badAt us : Nat))) ∧ Below w.heap.size w w' := by
  unfold maxLen at hm
  have hn' := Lib.hid hn
  clear hn
  obtain ⟨R, hR0⟩ : ∃ R : Int, (if badAt us = n then -1 else ((badAt us : Nat) : Int)) = R := ⟨_, rfl⟩
  rw [hR0]
  have hR := Lib.hid hR0
  clear hR0
  go_enter Try.func69, Try.ntmps69
  go_wp2
  go_loopw [8] (fun i wr => ∃ (k : Int), 0 ≤ k ∧ k ≤ n ∧ i = .int .i64 k ∧ Below w.heap.size w wr ∧ Hid (∀ j : Nat, (j : Int) < k → j < us.length → vld (us.getD j (0,0)) = true)) (fun i _ => n - (intOf i).toNat)
  case atStart => exact ⟨0, by omega, by omega, rfl, Below.refl _ _, Lib.hid (fun j hj => absurd hj (by omega))⟩
  case round =>
    obtain ⟨k, hk0, hk, rfl, hB, hL⟩ := hrel
    by_cases hlt : k < n
    · obtain ⟨b, o, rfl, _, hc, hd⟩ := RU.at_' (hr.below hB) (k := k.toNat) (by have := hn'.out; omega)
      have hX : Hid (us.getD k.toNat (0,0) = us.getD k.toNat (0,0)) := Lib.hid rfl
      generalize hu : us.getD k.toNat (0,0) = u at *
      have hu' := Lib.hid hu; clear hu hX
      obtain ⟨x, y⟩ := u
      dsimp only at hc hd
      by_cases hv : vld (x, y) = true
      · have hv' : (!vld (x, y)) = false := by simp [hv]
        go_wp2_with (go_at_call 61; refine (wrong_any _ _ _).mono ?_; rintro e w1 ⟨rfl, hq⟩)
        have hB1 := hB.trans (hq.mono hB.size)
        go_roundw
        case rel =>
          refine ⟨k+1, by omega, by omega, rfl, hB1, Lib.hid (fun j hj hl => ?_)⟩
          by_cases hjk : (j : Int) < k
          · exact hL.out j hjk hl
          · obtain rfl : j = k.toNat := by omega
            rw [hu'.out]; exact hv
        case measure => simp [intOf]; omega
      · have hv' : (!vld (x, y)) = true := by simpa using hv
        have hE : Hid (badAt us = k.toNat) := Lib.hid (badAt_at us k.toNat (fun j h1 h2 => hL.out j (by omega) h2) (by have := hn'.out; omega) (by rw [hu'.out]; simpa using hv))
        clear hv
        go_wp2_with (go_at_call 61; refine (wrong_any _ _ _).mono ?_; rintro e w1 ⟨rfl, hq⟩)
        go_ret
        exact ⟨ret_int (by rw [← hR.out, hE.out, if_neg (by omega)]; omega), hB.trans (hq.mono hB.size)⟩
    · have hE : Hid (badAt us = n) := Lib.hid (by rw [← hn'.out]; exact badAt_end us (fun j h2 => hL.out j (by have := hn'.out; omega) h2))
      go_wp2
      go_ret
      exact ⟨ret_int (by rw [← hR.out, if_pos hE.out]), hB⟩

theorem containsFunc_any (A : Option Addr) (n cap : Nat) (us : List Sp) (w : World) (hn : us.length = n) (hm : n ≤ maxLen) (hr : RU w w.heap.size A us) :
    Calls Try.prog 64 #[.slice A n cap, .func (.func 61) #[] #[]] w fun e w' => e = .returned (.bool (!us.all vld)) ∧ Below w.heap.size w w' := by
  have HI := Lib.hid (indexFunc_any A n cap us w hn hm hr)
  have hR : Hid (decide (0 ≤ (if badAt us = n then (-1 : Int) else ((badAt us : Nat) : Int))) = !us.all vld) := Lib.hid (by
    have h := badAt_all us
    rw [hn] at h
    by_cases hb : badAt us = n
    · rw [if_pos hb, h.1 hb]; rfl
    · have : us.all vld = false := by rw [Bool.eq_false_iff]; exact fun hh => hb (h.2 hh)
      rw [if_neg hb, this]; simp)
  generalize (if badAt us = n then (-1 : Int) else ((badAt us : Nat) : Int)) = R at *
  clear hn hr
  go_enter Try.func64, Try.ntmps64
  go_wp2_with (go_at_call 69; refine (HI.out).mono ?_; rintro e w1 ⟨rfl, hq⟩)
  go_ret
  exact ⟨ret_bool hR.out, hq⟩

theorem form_step (us : List Sp) (e : Int) (k : Nat) (hk : k + 1 < us.length) (h : formOk e us = true ↔ formOk ((us.getD k (0,0)).1 + (us.getD k (0,0)).2) (us.drop (k+1)) = true) :
    formOk e us = true ↔ (us.getD k (0,0)).1 + (us.getD k (0,0)).2 < (us.getD (k+1) (0,0)).1 ∧ formOk ((us.getD (k+1) (0,0)).1 + (us.getD (k+1) (0,0)).2) (us.drop (k+2)) = true := by
  rw [h, drop_cons (0,0) us (k+1) hk, formOk_cons]
theorem form_start (us : List Sp) (h0 : 0 < us.length) (hv : us.all vld = true) : formOk (-1) us = true ↔ formOk ((us.getD 0 (0,0)).1 + (us.getD 0 (0,0)).2) (us.drop 1) = true := by
  cases us with
  | nil => simp at h0
  | cons x r =>
    have := vld_iff.1 ((by simpa using hv : vld x = true ∧ _).1)
    rw [formOk_cons]; simp; intro; omega
theorem all_at {us : List Sp} (hv : us.all vld = true) {k : Nat} (hk : k < us.length) : vld (us.getD k (0,0)) = true := by
  have := List.all_eq_true.1 hv us[k] (List.getElem_mem hk)
  simpa [List.getD_eq_getElem?_getD, hk] using this

set_option maxHeartbeats 800000 in
theorem spCheck_any (A : Option Addr) (n cap : Nat) (us : List Sp) (w : World) (hn : us.length = n) (hm : n ≤ maxLen) (hr : RU w w.heap.size A us) :
    Calls Try.prog 47 #[.slice A n cap] w fun e w' => e = .returned (.int .i64 (chkS us)) ∧ Below w.heap.size w w' := by
  have HC := Lib.hid (containsFunc_any A n cap us w hn hm hr)
  unfold maxLen at hm
  have hn' := Lib.hid hn
  clear hn
  obtain ⟨R, hR0⟩ : ∃ R : Int, chkS us = R := ⟨_, rfl⟩
  rw [hR0]
  have hR := Lib.hid hR0
  clear hR0
  by_cases hlen : 512 < n
  · have hlen' : decide (512 < (n : Int)) = true := by simp; omega
    go_enter Try.func47, Try.ntmps47
    go_wp2
    go_ret
    exact ⟨ret_int (by rw [← hR.out, chkS, if_pos (by rw [hn'.out]; exact hlen)]), Below.refl _ _⟩
  have hlen' : decide (512 < (n : Int)) = false := by simp; omega
  by_cases hall : us.all vld = true
  case neg =>
    have hall' : (!us.all vld) = true := by simpa using hall
    have hE : Hid (R = 7) := Lib.hid (by rw [← hR.out, chkS, if_neg (by rw [hn'.out]; exact hlen), if_pos (by simpa using hall)])
    rw [hall'] at HC
    clear hall hall' hr
    go_enter Try.func47, Try.ntmps47
    go_wp2_with (go_at_call 64; refine (HC.out).mono ?_; rintro e w1 ⟨rfl, hq⟩)
    go_ret
    exact ⟨ret_int hE.out.symm, hq⟩
  have hall' : (!us.all vld) = false := by rw [hall]; rfl
  have hR2 : Hid (R = if formOk (-1) us = true then 0 else 6) := Lib.hid (by rw [← hR.out, chkS, if_neg (by rw [hn'.out]; exact hlen), if_neg (by rw [hall]; decide)])
  have hA := Lib.hid hall
  rw [hall'] at HC
  clear hall hall' hR
  go_enter Try.func47, Try.ntmps47
  go_wp2_with (go_at_call 64; refine (HC.out).mono ?_; rintro e w1 ⟨rfl, hq⟩)
  go_loopw [3] (fun i wr => ∃ (k : Nat), (k + 1 ≤ n ∨ n = 0 ∧ k = 0) ∧ i = .int .i64 ((k : Int) + 1) ∧ Below w.heap.size w wr ∧ Hid (0 < n → (formOk (-1) us = true ↔ formOk ((us.getD k (0,0)).1 + (us.getD k (0,0)).2) (us.drop (k+1)) = true))) (fun i _ => n + 1 - (intOf i).toNat)
  case atStart => exact ⟨0, by omega, by simp, hq, Lib.hid (fun h => form_start us (by rw [hn'.out]; exact h) hA.out)⟩
  case round =>
    obtain ⟨k, hk, rfl, hB, hL⟩ := hrel
    by_cases hlt : k + 1 < n
    · have hlt' : decide ((k : Int) + 1 < (n : Int)) = true := by simp; omega
      obtain ⟨b, o, rfl, hbl, hc, hd⟩ := RU.at_' (hr.below hB) (k := k) (by have := hn'.out; omega)
      obtain ⟨b', o', had, _, hc2, hd2⟩ := RU.at_' (hr.below hB) (k := k + 1) (by have := hn'.out; omega)
      obtain ⟨rfl, rfl⟩ : b = b' ∧ o = o' := by simpa using had
      clear had
      have hst := Lib.hid (form_step us (-1) k (by have := hn'.out; omega) (hL.out (by omega)))
      have hv1 := vld_iff.1 (all_at hA.out (k := k) (by have := hn'.out; omega))
      have hv2 := vld_iff.1 (all_at hA.out (k := k + 1) (by have := hn'.out; omega))
      generalize hu : us.getD k (0,0) = u at *
      generalize hv : us.getD (k+1) (0,0) = v at *
      have hv' := Lib.hid hv; clear hu hv hL
      obtain ⟨x, y⟩ := u
      obtain ⟨x2, y2⟩ := v
      dsimp only at hc hd hc2 hd2 hst hv1 hv2
      have q1 := fun y : Ext wr => y.cell hc
      have q2 := fun y : Ext wr => y.cell hd
      have q3 := fun y : Ext wr => y.cell hc2
      have q4 := fun y : Ext wr => y.cell hd2
      have HEC : Hid (∀ z : Ext wr, Calls Try.prog 63 #[.agg #[.int .i64 x, .int .i64 y]] z.w fun e w'' => e = .returned (.int .i64 (x + y)) ∧ ∃ t : Ext wr, w'' = t.w) := Lib.hid (fun z => Ext.call (end_any x y _ (by omega) (by omega)))
      by_cases hle : x2 ≤ x + y
      · have hle' : decide (x2 ≤ x + y) = true := by simpa using hle
        have hE : Hid (R = 6) := Lib.hid (by rw [hR2.out, if_neg (by rw [hst.out]; omega)])
        clear hst hR2 hv1 hv2
        go_upto_region 8 with fail
        refine region_ext (by kernel_rfl) (by kernel_rfl) ?_
        repeat (go_big_quiet_step ((go_at_call 63; exact HEC.out _)))
        refine wpQuiet_nil ?_
        rintro w2 ⟨⟨_, hw2⟩, rfl⟩
        go_wp2_with fail
        go_ret
        exact ⟨ret_int hE.out.symm, hB.trans (hw2.mono hB.size)⟩
      · have hle' : decide (x2 ≤ x + y) = false := by simpa using hle
        have hst' : Hid (formOk (-1) us = true ↔ formOk (x2 + y2) (us.drop (k + 1 + 1)) = true) := Lib.hid (by rw [hst.out]; exact ⟨fun h => h.2, fun h => ⟨by omega, h⟩⟩)
        clear hst hv1 hv2
        go_upto_region 8 with fail
        refine region_ext (by kernel_rfl) (by kernel_rfl) ?_
        repeat (go_big_quiet_step ((go_at_call 63; exact HEC.out _)))
        refine wpQuiet_nil ?_
        rintro w2 ⟨⟨_, hw2⟩, rfl⟩
        go_wp2_with fail
        go_roundw
        case rel => exact ⟨k + 1, by omega, by simp, hB.trans (hw2.mono hB.size), Lib.hid (fun _ => by rw [hv'.out]; exact hst'.out)⟩
        case measure => simp [intOf]; omega
    · have hlt' : decide ((k : Int) + 1 < (n : Int)) = false := by simp; omega
      have hE : Hid (R = 0) := Lib.hid (by
        rw [hR2.out, if_pos]
        by_cases h0 : 0 < n
        · rw [hL.out h0, List.drop_of_length_le (by have := hn'.out; omega)]; rfl
        · rw [List.eq_nil_of_length_eq_zero (by have := hn'.out; omega : us.length = 0)]; rfl)
      clear hR2
      go_wp2_with fail
      go_ret
      exact ⟨ret_int hE.out.symm, hB⟩

set_option maxHeartbeats 800000 in
theorem refSpCheck_any (A : Option Addr) (n cap : Nat) (us : List Sp) (w : World) (hn : us.length = n) (hm : n ≤ maxLen) (hr : RU w w.heap.size A us) :
    Calls Try.prog 10 #[.slice A n cap] w fun e w' => e = .returned (.int .i64 (chkS us)) ∧ Below w.heap.size w w' := by
  unfold maxLen at hm
  have hn' := Lib.hid hn
  clear hn
  obtain ⟨R, hR0⟩ : ∃ R : Int, chkS us = R := ⟨_, rfl⟩
  rw [hR0]
  have hR := Lib.hid hR0
  clear hR0
  by_cases hlen : 512 < n
  · have hlen' : decide (512 < (n : Int)) = true := by simp; omega
    go_enter Try.func10, Try.ntmps10
    go_wp2
    go_ret
    exact ⟨ret_int (by rw [← hR.out, chkS, if_pos (by rw [hn'.out]; exact hlen)]), Below.refl _ _⟩
  have hlen' : decide (512 < (n : Int)) = false := by simp; omega
  go_enter Try.func10, Try.ntmps10
  go_wp2_with fail
  go_loopw [3] (fun i wr => ∃ (k : Int), 0 ≤ k ∧ k ≤ n ∧ i = .int .i64 k ∧ Below w.heap.size w wr ∧ Hid (∀ j : Nat, (j : Int) < k → j < us.length → vld (us.getD j (0,0)) = true)) (fun i _ => n - (intOf i).toNat)
  case atStart => exact ⟨0, by omega, by omega, rfl, Below.refl _ _, Lib.hid (fun j hj => absurd hj (by omega))⟩
  case round =>
    obtain ⟨k, hk0, hk, rfl, hB, hL⟩ := hrel
    by_cases hlt : k < n
    · have hlt' : decide (k < (n : Int)) = true := by simpa using hlt
      obtain ⟨b, o, rfl, _, hc, hd⟩ := RU.at_' (hr.below hB) (k := k.toNat) (by have := hn'.out; omega)
      generalize hu : us.getD k.toNat (0,0) = u at *
      have hu' := Lib.hid hu; clear hu
      obtain ⟨x, y⟩ := u
      dsimp only at hc hd
      by_cases hv : vld (x, y) = true
      · have hv' : (!vld (x, y)) = false := by simp [hv]
        go_wp2_with (go_at_call 30; refine (valid_any _ _ _).mono ?_; rintro e w1 ⟨rfl, hq⟩)
        have hB1 := hB.trans (hq.mono hB.size)
        go_roundw
        case rel =>
          refine ⟨k+1, by omega, by omega, rfl, hB1, Lib.hid (fun j hj hl => ?_)⟩
          by_cases hjk : (j : Int) < k
          · exact hL.out j hjk hl
          · obtain rfl : j = k.toNat := by omega
            rw [hu'.out]; exact hv
        case measure => simp [intOf]; omega
      · have hv' : (!vld (x, y)) = true := by simpa using hv
        have hE : Hid (R = 7) := Lib.hid (by
          have hb := badAt_at us k.toNat (fun j h1 h2 => hL.out j (by omega) h2) (by have := hn'.out; omega) (by rw [hu'.out]; simpa using hv)
          rw [← hR.out, chkS, if_neg (by rw [hn'.out]; exact hlen), if_pos]
          rw [Bool.eq_false_iff]; intro hh
          have := (badAt_all us).2 hh
          have := hn'.out
          omega)
        clear hv
        go_wp2_with (go_at_call 30; refine (valid_any _ _ _).mono ?_; rintro e w1 ⟨rfl, hq⟩)
        go_ret
        exact ⟨ret_int hE.out.symm, hB.trans (hq.mono hB.size)⟩
    · have hlt' : decide (k < (n : Int)) = false := by simp; omega
      have hA : Hid (us.all vld = true) := Lib.hid (by rw [← badAt_all]; exact badAt_end us (fun j h2 => hL.out j (by have := hn'.out; omega) h2))
      have hR2 : Hid (R = if formOk (-1) us = true then 0 else 6) := Lib.hid (by rw [← hR.out, chkS, if_neg (by rw [hn'.out]; exact hlen), if_neg (by rw [hA.out]; decide)])
      clear hL hR
      go_wp2_with fail
      go_loopw [4] (fun i wr => ∃ (k : Nat), (k + 1 ≤ n ∨ n = 0 ∧ k = 0) ∧ i = .int .i64 ((k : Int) + 1) ∧ Below w.heap.size w wr ∧ Hid (0 < n → (formOk (-1) us = true ↔ formOk ((us.getD k (0,0)).1 + (us.getD k (0,0)).2) (us.drop (k+1)) = true))) (fun i _ => n + 1 - (intOf i).toNat)
      case atStart => exact ⟨0, by omega, by simp, hB, Lib.hid (fun h => form_start us (by rw [hn'.out]; exact h) hA.out)⟩
      case round =>
        obtain ⟨k, hk, rfl, hB, hL⟩ := hrel
        by_cases hlt : k + 1 < n
        · have hlt' : decide ((k : Int) + 1 < (n : Int)) = true := by simp; omega
          obtain ⟨b, o, rfl, hbl, hc, hd⟩ := RU.at_' (hr.below hB) (k := k) (by have := hn'.out; omega)
          obtain ⟨b', o', had, _, hc2, hd2⟩ := RU.at_' (hr.below hB) (k := k + 1) (by have := hn'.out; omega)
          obtain ⟨rfl, rfl⟩ : b = b' ∧ o = o' := by simpa using had
          clear had
          have hst := Lib.hid (form_step us (-1) k (by have := hn'.out; omega) (hL.out (by omega)))
          have hv1 := vld_iff.1 (all_at hA.out (k := k) (by have := hn'.out; omega))
          have hv2 := vld_iff.1 (all_at hA.out (k := k + 1) (by have := hn'.out; omega))
          generalize hu : us.getD k (0,0) = u at *
          generalize hv : us.getD (k+1) (0,0) = v at *
          have hv' := Lib.hid hv; clear hu hv hL
          obtain ⟨x, y⟩ := u
          obtain ⟨x2, y2⟩ := v
          dsimp only at hc hd hc2 hd2 hst hv1 hv2
          have q1 := fun y : Ext wr => y.cell hc
          have q2 := fun y : Ext wr => y.cell hd
          have q3 := fun y : Ext wr => y.cell hc2
          have q4 := fun y : Ext wr => y.cell hd2
          by_cases hle : x2 ≤ x + y
          · have hle' : decide (x2 ≤ x + y) = true := by simpa using hle
            have hE : Hid (R = 6) := Lib.hid (by rw [hR2.out, if_neg (by rw [hst.out]; omega)])
            clear hst hR2
            go_upto_region 11 with fail
            refine region_ext (by kernel_rfl) (by kernel_rfl) ?_
            repeat (go_big_quiet_step (fail))
            refine wpQuiet_nil ?_
            rintro w2 ⟨⟨_, hw2⟩, rfl⟩
            go_wp2_with fail
            go_ret
            exact ⟨ret_int hE.out.symm, hB.trans (hw2.mono hB.size)⟩
          · have hle' : decide (x2 ≤ x + y) = false := by simpa using hle
            have hst' : Hid (formOk (-1) us = true ↔ formOk (x2 + y2) (us.drop (k + 1 + 1)) = true) := Lib.hid (by rw [hst.out]; exact ⟨fun h => h.2, fun h => ⟨by omega, h⟩⟩)
            clear hst
            go_upto_region 11 with fail
            refine region_ext (by kernel_rfl) (by kernel_rfl) ?_
            repeat (go_big_quiet_step (fail))
            refine wpQuiet_nil ?_
            rintro w2 ⟨⟨_, hw2⟩, rfl⟩
            go_wp2_with fail
            go_roundw
            case rel => exact ⟨k + 1, by omega, by simp, hB.trans (hw2.mono hB.size), Lib.hid (fun _ => by rw [hv'.out]; exact hst'.out)⟩
            case measure => simp [intOf]; omega
        · have hlt' : decide ((k : Int) + 1 < (n : Int)) = false := by simp; omega
          have hE : Hid (R = 0) := Lib.hid (by
            rw [hR2.out, if_pos]
            by_cases h0 : 0 < n
            · rw [hL.out h0, List.drop_of_length_le (by have := hn'.out; omega)]; rfl
            · rw [List.eq_nil_of_length_eq_zero (by have := hn'.out; omega : us.length = 0)]; rfl)
          clear hR2
          go_wp2_with fail
          go_ret
          exact ⟨ret_int hE.out.symm, hB⟩

/-- what 'ask' and 'asked' answer -/
def askS (s : List Sp) (x : Sp) : Int := if chkS s = 0 then (if vld x = true then 0 else 7) else chkS s
theorem ask_any (A : Option Addr) (n cap : Nat) (us : List Sp) (p q : Int) (w : World) (hn : us.length = n) (hm : n ≤ maxLen) (hr : RU w w.heap.size A us) :
    Calls Try.prog 45 #[.slice A n cap, .agg #[.int .i64 p, .int .i64 q]] w fun e w' => e = .returned (.int .i64 (askS us (p, q))) ∧ Below w.heap.size w w' := by
  have HC := Lib.hid (fun W (h : RU W W.heap.size A us) => spCheck_any A n cap us W hn hm h)
  obtain ⟨R, hR0⟩ : ∃ R : Int, askS us (p, q) = R := ⟨_, rfl⟩
  rw [hR0]
  have hR := Lib.hid hR0
  clear hR0
  have hb0 := (Below.refl w.heap.size w).alloc (Nat.le_refl _) (.cells #[.int .i64 p, .int .i64 q] 56)
  have k0 := Blk.new w 56 #[.int .i64 p, .int .i64 q]
  have hr0 : RU _ _ A us := (hr.below hb0).more hb0.size
  clear hr hn
  by_cases hc : chkS us = 0
  · rw [hc] at HC
    by_cases hv : vld (p, q) = true
    · have hv' : (!vld (p, q)) = false := by simp [hv]
      have hE : Hid (R = 0) := Lib.hid (by rw [← hR.out, askS, if_pos hc, if_pos hv])
      clear hv hc
      go_enter Try.func45, Try.ntmps45
      go_wp2_with (first
        | (go_at_call 47; refine (HC.out _ hr0).mono ?_; rintro e w1 ⟨rfl, hq⟩; have k1 := k0.call hq; have c1 := k1.cell)
        | (go_at_call 61; refine (wrong_any _ _ _).mono ?_; rintro e w2 ⟨rfl, hq2⟩))
      go_ret
      have hB1 := hb0.trans (hq.mono hb0.size)
      exact ⟨ret_int hE.out.symm, hB1.trans (hq2.mono hB1.size)⟩
    · have hv' : (!vld (p, q)) = true := by simpa using hv
      have hE : Hid (R = 7) := Lib.hid (by rw [← hR.out, askS, if_pos hc, if_neg hv])
      clear hv hc
      go_enter Try.func45, Try.ntmps45
      go_wp2_with (first
        | (go_at_call 47; refine (HC.out _ hr0).mono ?_; rintro e w1 ⟨rfl, hq⟩; have k1 := k0.call hq; have c1 := k1.cell)
        | (go_at_call 61; refine (wrong_any _ _ _).mono ?_; rintro e w2 ⟨rfl, hq2⟩))
      go_ret
      have hB1 := hb0.trans (hq.mono hb0.size)
      exact ⟨ret_int hE.out.symm, hB1.trans (hq2.mono hB1.size)⟩
  · have hE : Hid (R = chkS us) := Lib.hid (by rw [← hR.out, askS, if_neg hc])
    generalize chkS us = c at *
    have hc' : (c != 0) = true := by simpa using hc
    clear hc
    go_enter Try.func45, Try.ntmps45
    go_wp2_with (first
      | (go_at_call 47; refine (HC.out _ hr0).mono ?_; rintro e w1 ⟨rfl, hq⟩; have k1 := k0.call hq; have c1 := k1.cell))
    go_ret
    exact ⟨ret_int hE.out.symm, hb0.trans (hq.mono hb0.size)⟩

set_option maxRecDepth 100000 in
theorem eq40 (x1 x2 y1 y2 : Int) (w : World) : (Op.equalIn 10000 56 (.agg #[.int .i64 x1, .int .i64 x2]) (.agg #[.int .i64 y1, .int .i64 y2])).run Try.prog w = .ok (decide (x1 = y1 ∧ x2 = y2)) w := by
  have u3 := Try.underlying3
  have a3 := Try.isAgg3
  have z3 := Try.sizeOf3
  rw [show (10000 : Nat) = 9999 + 1 from rfl]
  by_cases h1 : x1 = y1 <;> by_cases h2 : x2 = y2 <;> go_simp <;> simp [h1, h2]
set_option maxHeartbeats 400000 in
theorem same_any (A B : Option Addr) (n m cap cap' : Nat) (xs ys : List Sp) (w : World) (hn : xs.length = n) (hm : n ≤ maxLen) (hn2 : ys.length = m) (hm2 : m ≤ maxLen) (hr : RU w w.heap.size A xs) (hs : RU w w.heap.size B ys) :
    Calls Try.prog 11 #[.slice A n cap, .slice B m cap'] w fun e w' => e = .returned (.bool (decide (xs = ys))) ∧ Below w.heap.size w w' := by
  unfold maxLen at hm hm2
  have hn' := Lib.hid hn
  have hm' := Lib.hid hn2
  clear hn hn2
  by_cases hnm : n = m
  case neg =>
    have hne : ((n : Int) != m) = true := by rw [bne_iff_ne]; omega
    have H : Hid (decide (xs = ys) = false) := Lib.hid (by rw [decide_eq_false_iff_not]; rintro rfl; exact hnm (hn'.out.symm.trans hm'.out))
    go_enter Try.func11, Try.ntmps11
    go_wp2
    go_ret
    exact ⟨ret_bool H.out.symm, Below.refl _ _⟩
  case pos =>
    subst hnm
    have hne : ((n : Int) != n) = false := by simp
    go_enter Try.func11, Try.ntmps11
    go_wp2
    go_loopw [5] (fun i wr => ∃ (k : Int), 0 ≤ k ∧ k ≤ n ∧ i = .int .i64 k ∧ Below w.heap.size w wr ∧ Hid (xs = ys ↔ xs.drop k.toNat = ys.drop k.toNat)) (fun i _ => n - (intOf i).toNat)
    case atStart => exact ⟨0, by omega, by omega, rfl, Below.refl _ _, Lib.hid (by simp)⟩
    case round =>
      obtain ⟨k, hk1, hk, rfl, hB, hL⟩ := hrel
      have hr1 := hr.below hB
      have hs1 := hs.below hB
      by_cases hlt : k < n
      · have hlt' : decide (k < (n : Int)) = true := by simpa using hlt
        obtain ⟨b, o, rfl, _, hc, hd⟩ := RU.at_' hr1 (k := k.toNat) (by have := hn'.out; omega)
        obtain ⟨b2, o2, rfl, _, hc2, hd2⟩ := RU.at_' hs1 (k := k.toNat) (by have := hm'.out; omega)
        have hd1 := Lib.hid (drop_cons (0,0) xs k.toNat (by have := hn'.out; omega))
        have hd2' := Lib.hid (drop_cons (0,0) ys k.toNat (by have := hm'.out; omega))
        have hsucc : Hid ((k+1).toNat = k.toNat + 1) := Lib.hid (by omega)
        generalize xs.getD k.toNat (0,0) = x at *
        generalize ys.getD k.toNat (0,0) = y at *
        obtain ⟨x1, x2⟩ := x
        obtain ⟨y1, y2⟩ := y
        dsimp only at hc hd hc2 hd2
        have hcx := fun y : Ext wr => y.cell hc
        have hcy := fun y : Ext wr => y.cell hc2
        have hdx := fun y : Ext wr => y.cell hd
        have hdy := fun y : Ext wr => y.cell hd2
        have hq := fun (W : World) => eq40 x1 x2 y1 y2 W
        by_cases hxy : x1 = y1 ∧ x2 = y2
        · have hxy' : decide (x1 = y1 ∧ x2 = y2) = true := by simpa using hxy
          have hst : Hid (xs = ys ↔ xs.drop (k+1).toNat = ys.drop (k+1).toNat) := Lib.hid (by rw [hL.out, hd1.out, hd2'.out, hsucc.out]; simp [hxy])
          rw [hxy'] at hq
          clear hxy hxy'
          go_upto_region 6 with fail
          refine region_ext (by kernel_rfl) (by kernel_rfl) ?_
          repeat (go_big_quiet_step (fail))
          refine wpQuiet_nil ?_
          rintro w1 ⟨⟨_, hw1⟩, rfl⟩
          go_wp2_with fail
          go_roundw
          case rel => exact ⟨k+1, by omega, by omega, rfl, hB.trans (hw1.mono hB.size), hst⟩
          case measure => simp [intOf]; omega
        · have hxy' : decide (x1 = y1 ∧ x2 = y2) = false := by simpa using hxy
          have hE : Hid (decide (xs = ys) = false) := Lib.hid (by
            rw [decide_eq_false_iff_not, hL.out, hd1.out, hd2'.out]
            intro h
            injection h with h1 _
            exact hxy (by simpa using h1))
          rw [hxy'] at hq
          clear hxy hxy'
          go_upto_region 6 with fail
          refine region_ext (by kernel_rfl) (by kernel_rfl) ?_
          repeat (go_big_quiet_step (fail))
          refine wpQuiet_nil ?_
          rintro w1 ⟨⟨_, hw1⟩, rfl⟩
          go_wp2_with fail
          go_ret
          exact ⟨ret_bool hE.out.symm, hB.trans (hw1.mono hB.size)⟩
      · have hlt' : decide (k < (n : Int)) = false := by simp; omega
        go_wp2_with fail
        go_ret
        have : decide (xs = ys) = true := by rw [decide_eq_true_eq, hL.out, List.drop_of_length_le (by have := hn'.out; omega), List.drop_of_length_le (by have := hm'.out; omega)]
        exact ⟨ret_bool this.symm, hB⟩

end Go.Proofs.Ytdepkmpilipolaa
namespace Go.Pol
/-- the runs of usable pages from a page on -/
def runsF (size en : Int) : Nat → Int → List Sp
  | 0, _ => []
  | k + 1, at_ => if at_ < en then (at_, min size (en - at_)) :: runsF size en k (at_ + size + 1) else []
def runsL (pg n f b ev : Int) : List Sp := runsF (if ev = 0 then 1024 else ev) (pg + n - b) 1025 (pg + f)
def lenOf : Option Value → Nat
  | some (.slice _ n _) => n
  | _ => 0
/-- the numbers of a plan are as they must be -/
structure PlanOk (pg n f b ev : Int) : Prop where
  pg0 : 0 ≤ pg
  pg1 : pg < 1024
  n0 : 1 ≤ n
  n1 : n ≤ 1024 - pg
  f0 : 0 ≤ f
  f1 : f ≤ 16
  b0 : 0 ≤ b
  b1 : b ≤ 16
  e0 : 0 ≤ ev
  e1 : ev ≤ 1024
  fb : f + b < n
end Go.Pol
namespace Go.Proofs.Ytdepkmpilipolaa
open Go Go.Proofs Go.RowKit Go.Pol
attribute [local go_sem] Oper.semAt_some Go.Pol.wide_fn Go.Pol.wide_depth Go.Pol.wide_fn' Go.Pol.wide_depth'

abbrev planV (pg n f b ev : Int) : Value := .agg #[.int .i64 pg, .int .i64 n, .int .i64 f, .int .i64 b, .int .i64 ev]
abbrev planC (pg n f b ev : Int) : Array Value := #[.int .i64 pg, .int .i64 n, .int .i64 f, .int .i64 b, .int .i64 ev]
abbrev spV (x : Sp) : Array Value := #[.agg #[.int .i64 x.1, .int .i64 x.2]]

theorem inner_any (pg n f b ev : Int) (w : World) (hp : PlanOk pg n f b ev) :
    Calls Try.prog 34 #[planV pg n f b ev] w fun e w' => e = .returned (.tuple #[.int .i64 (pg + f), .int .i64 (pg + n - b)]) ∧ Below w.heap.size w w' := by
  obtain ⟨h1, h2, h3, h4, h5, h6, h7, h8, h9, h10, h11⟩ := hp
  have hb0 := (Below.refl w.heap.size w).alloc (Nat.le_refl _) (.cells (planC pg n f b ev) 31)
  have k0 := Blk.new w 31 (planC pg n f b ev)
  have q := fun (x : Ext (w.alloc (.cells (planC pg n f b ev) 31))) => (x.blk k0).cell
  go_enter Try.func34, Try.ntmps34
  go_upto_region 1 with fail
  refine region_ext (by kernel_rfl) (by kernel_rfl) ?_
  repeat (go_big_quiet_step (fail))
  refine wpQuiet_nil ?_
  rintro w2 ⟨⟨_, hw2⟩, rfl⟩
  go_wp2_with fail
  go_ret2
  exact ⟨rfl, hb0.trans (hw2.mono hb0.size)⟩

theorem prefix_snoc {α : Type} {pre rest xs : List α} {x : α} (h : xs = pre ++ x :: rest) : pre ++ [x] <+: xs := ⟨rest, by simp [h]⟩

set_option maxRecDepth 100000 in
set_option maxHeartbeats 800000 in
theorem runs1_seq (pg n f b ev : Int) (B : Nat) (w : World) (hp : PlanOk pg n f b ev) (hB : Blk w B 31 (planC pg n f b ev)) :
    SeqF Try.prog 49 #[.pointer (some ⟨B, 0, none⟩)] spV (fun _ => False) (fun k => k = B) (runsL pg n f b ev) w := by
  intro m l J Jx W hW hJ hJx hY h0
  have kB := hW.blk hB (by simp)
  have HI := Lib.hid (inner_any pg n f b ev · hp)
  obtain ⟨h1, h2, h3, h4, h5, h6, h7, h8, h9, h10, h11⟩ := hp
  refine callsIn_of_wp Try.func49 rfl trivial ?_ rfl
  simp only [Try.ntmps49, List.size_toArray, List.length_cons, List.length_nil, Nat.reduceAdd, Nat.reduceSub, Array.replicate_succ, Array.replicate_zero, List.push_toArray, List.append_toArray, List.nil_append, List.cons_append]
  have cB := kB.cell
  by_cases he : ev = 0
  · subst he
    have hR : Hid (runsL pg n f b 0 = runsF 1024 (pg + n - b) 1025 (pg + f)) := Lib.hid rfl
    gi_wp2_with (gi_at_call 34; refine (callsIn_wide.2 (HI.out W)).mono ?_; rintro e w1 ⟨rfl, hq⟩; have k1 := kB.call hq; have c1 := k1.cell; have hJ1 := hJ [] W w1 h0 (.of_below hq))
    gi_loopw [6] (fun i wr => ∃ (k : Nat) (a : Int) (pre : List Sp), i = .int .i64 a ∧ 0 ≤ a ∧ a ≤ 4096 ∧ pg + n - b - a < k ∧ J pre wr ∧ Hid (runsL pg n f b 0 = pre ++ runsF 1024 (pg + n - b) k a)) (fun i _ => (pg + n - b - intOf i).toNat)
    case atStart => exact ⟨1025, pg + f, [], rfl, by omega, by omega, by omega, hJ1, Lib.hid (by rw [hR.out]; rfl)⟩
    case round =>
      obtain ⟨k, a, pre, rfl, ha0, ha1, hk, hJs, hL⟩ := hrel
      by_cases hlt : a < pg + n - b
      · have hlt' : decide (a < pg + n - b) = true := by simpa using hlt
        obtain ⟨k', rfl⟩ : ∃ k', k = k' + 1 := ⟨k - 1, by omega⟩
        by_cases hmi : 1024 ≤ pg + n - b - a
        · have hL2 : Hid (runsL pg n f b 0 = pre ++ (a, 1024) :: runsF 1024 (pg + n - b) k' (a + 1024 + 1)) := Lib.hid (by rw [hL.out, runsF, if_pos hlt, show min 1024 (pg + n - b - a) = 1024 by omega])
          obtain ⟨fn, tmps, assign, body, hy, hRd⟩ := hY (m - 1) pre (a, 1024) wr hJs (prefix_snoc hL2.out)
          clear hL hY
          gi_wp2
          refine hRd.mono ?_
          rintro e W3 (⟨rfl, hJ3, _⟩ | ⟨rfl, hJx3⟩)
          · gi_wp2
            go_roundw
            case rel => exact ⟨k', a + 1024 + 1, pre ++ [(a, 1024)], by go_num, by omega, by omega, by omega, hJ3, Lib.hid (by rw [hL2.out]; simp)⟩
            case measure => simp [intOf]; omega
          · gi_wp2
            refine bodyPost_ret (results_none rfl _ _ _) rfl ?_
            exact ⟨⟨_, rfl⟩, .inr ⟨pre ++ [(a, 1024)], prefix_snoc hL2.out, hJx3⟩⟩
        · have hL2 : Hid (runsL pg n f b 0 = pre ++ (a, pg + n - b - a) :: runsF 1024 (pg + n - b) k' (a + 1024 + 1)) := Lib.hid (by rw [hL.out, runsF, if_pos hlt, show min 1024 (pg + n - b - a) = pg + n - b - a by omega])
          obtain ⟨fn, tmps, assign, body, hy, hRd⟩ := hY (m - 1) pre (a, pg + n - b - a) wr hJs (prefix_snoc hL2.out)
          clear hL hY
          gi_wp2
          refine hRd.mono ?_
          rintro e W3 (⟨rfl, hJ3, _⟩ | ⟨rfl, hJx3⟩)
          · gi_wp2
            go_roundw
            case rel => exact ⟨k', a + 1024 + 1, pre ++ [(a, pg + n - b - a)], by go_num, by omega, by omega, by omega, hJ3, Lib.hid (by rw [hL2.out]; simp)⟩
            case measure => simp [intOf]; omega
          · gi_wp2
            refine bodyPost_ret (results_none rfl _ _ _) rfl ?_
            exact ⟨⟨_, rfl⟩, .inr ⟨pre ++ [(a, pg + n - b - a)], prefix_snoc hL2.out, hJx3⟩⟩
      · have hlt' : decide (a < pg + n - b) = false := by simpa using hlt
        have hL2 : Hid (pre = runsL pg n f b 0) := Lib.hid (by
          rw [hL.out]
          cases k with
          | zero => simp [runsF]
          | succ k => rw [runsF, if_neg hlt]; simp)
        gi_wp2
        go_end0
        exact ⟨⟨_, rfl⟩, .inl (by rw [← hL2.out]; exact hJs)⟩
  · have he' : (ev == 0) = false := by simpa using he
    have hR : Hid (runsL pg n f b ev = runsF ev (pg + n - b) 1025 (pg + f)) := Lib.hid (by unfold runsL; rw [if_neg he])
    gi_wp2_with (gi_at_call 34; refine (callsIn_wide.2 (HI.out W)).mono ?_; rintro e w1 ⟨rfl, hq⟩; have k1 := kB.call hq; have c1 := k1.cell; have hJ1 := hJ [] W w1 h0 (.of_below hq))
    gi_loopw [6] (fun i wr => ∃ (k : Nat) (a : Int) (pre : List Sp), i = .int .i64 a ∧ 0 ≤ a ∧ a ≤ 4096 ∧ pg + n - b - a < k ∧ J pre wr ∧ Hid (runsL pg n f b ev = pre ++ runsF ev (pg + n - b) k a)) (fun i _ => (pg + n - b - intOf i).toNat)
    case atStart => exact ⟨1025, pg + f, [], rfl, by omega, by omega, by omega, hJ1, Lib.hid (by rw [hR.out]; rfl)⟩
    case round =>
      obtain ⟨k, a, pre, rfl, ha0, ha1, hk, hJs, hL⟩ := hrel
      by_cases hlt : a < pg + n - b
      · have hlt' : decide (a < pg + n - b) = true := by simpa using hlt
        obtain ⟨k', rfl⟩ : ∃ k', k = k' + 1 := ⟨k - 1, by omega⟩
        by_cases hmi : ev ≤ pg + n - b - a
        · have hL2 : Hid (runsL pg n f b ev = pre ++ (a, ev) :: runsF ev (pg + n - b) k' (a + ev + 1)) := Lib.hid (by rw [hL.out, runsF, if_pos hlt, show min ev (pg + n - b - a) = ev by omega])
          obtain ⟨fn, tmps, assign, body, hy, hRd⟩ := hY (m - 1) pre (a, ev) wr hJs (prefix_snoc hL2.out)
          clear hL hY
          gi_wp2
          refine hRd.mono ?_
          rintro e W3 (⟨rfl, hJ3, _⟩ | ⟨rfl, hJx3⟩)
          · gi_wp2
            go_roundw
            case rel => exact ⟨k', a + ev + 1, pre ++ [(a, ev)], by go_num, by omega, by omega, by omega, hJ3, Lib.hid (by rw [hL2.out]; simp)⟩
            case measure => simp [intOf]; omega
          · gi_wp2
            refine bodyPost_ret (results_none rfl _ _ _) rfl ?_
            exact ⟨⟨_, rfl⟩, .inr ⟨pre ++ [(a, ev)], prefix_snoc hL2.out, hJx3⟩⟩
        · have hL2 : Hid (runsL pg n f b ev = pre ++ (a, pg + n - b - a) :: runsF ev (pg + n - b) k' (a + ev + 1)) := Lib.hid (by rw [hL.out, runsF, if_pos hlt, show min ev (pg + n - b - a) = pg + n - b - a by omega])
          obtain ⟨fn, tmps, assign, body, hy, hRd⟩ := hY (m - 1) pre (a, pg + n - b - a) wr hJs (prefix_snoc hL2.out)
          clear hL hY
          gi_wp2
          refine hRd.mono ?_
          rintro e W3 (⟨rfl, hJ3, _⟩ | ⟨rfl, hJx3⟩)
          · gi_wp2
            go_roundw
            case rel => exact ⟨k', a + ev + 1, pre ++ [(a, pg + n - b - a)], by go_num, by omega, by omega, by omega, hJ3, Lib.hid (by rw [hL2.out]; simp)⟩
            case measure => simp [intOf]; omega
          · gi_wp2
            refine bodyPost_ret (results_none rfl _ _ _) rfl ?_
            exact ⟨⟨_, rfl⟩, .inr ⟨pre ++ [(a, pg + n - b - a)], prefix_snoc hL2.out, hJx3⟩⟩
      · have hlt' : decide (a < pg + n - b) = false := by simpa using hlt
        have hL2 : Hid (pre = runsL pg n f b ev) := Lib.hid (by
          rw [hL.out]
          cases k with
          | zero => simp [runsF]
          | succ k => rw [runsF, if_neg hlt]; simp)
        gi_wp2
        go_end0
        exact ⟨⟨_, rfl⟩, .inl (by rw [← hL2.out]; exact hJs)⟩
theorem ru_tail {w : World} {B : Nat} {b o : Nat} {x : Sp} {us : List Sp} (h : RU w B (some ⟨b, o, none⟩) (x :: us)) : RU w B (some ⟨b, o + 2, none⟩) us := fun k hk => by
  obtain ⟨b', o', e, hb, hc, hd⟩ := h (k + 1) (by simp; omega)
  obtain ⟨rfl, rfl⟩ : b = b' ∧ o = o' := by simpa using e
  refine ⟨b, o + 2, rfl, hb, ?_, ?_⟩
  · rw [show o + 2 + k * 2 = o + (k + 1) * 2 by omega]; simpa using hc
  · rw [show o + 2 + k * 2 + 1 = o + (k + 1) * 2 + 1 by omega]; simpa using hd
theorem ru_head {w : World} {B : Nat} {A : Option Addr} {x : Sp} {us : List Sp} (h : RU w B A (x :: us)) : ∃ b o, A = some ⟨b, o, none⟩ ∧ b < B ∧ w.cell? ⟨b, o, none⟩ = some (.int .i64 x.1) ∧ w.cell? ⟨b, o + 1, none⟩ = some (.int .i64 x.2) := by
  obtain ⟨b, o, e, hb, hc, hd⟩ := h 0 (by simp)
  exact ⟨b, o, e, hb, by simpa using hc, by simpa using hd⟩
theorem tail_at {w : World} {N : Nat} {p o d : Nat} {x : Sp} {us : List Sp} (h : RU w N (some ⟨p, o, none⟩) (x :: us)) (hd : us.length + 1 ≤ d) :
    ∃ q, (if d = 1 then (some ⟨p, o, none⟩ : Option Addr) else some ⟨p, o + 2, none⟩) = some ⟨p, q, none⟩ ∧ RU w N (some ⟨p, q, none⟩) us := by
  by_cases h1 : d = 1
  · obtain rfl : us = [] := List.eq_nil_of_length_eq_zero (by omega)
    exact ⟨o, by rw [if_pos h1], RU.nil⟩
  · exact ⟨o + 2, by rw [if_neg h1], ru_tail h⟩
/-- a slice that the iterator still has before it -/
structure Left (w : World) (N : Nat) (K : Nat → Prop) (B1 B2 : Nat) (P : Option Addr) (m d : Nat) (us : List Sp) : Prop where
  len : us.length = m
  cap : m ≤ d
  max : d ≤ 9223372036854775807
  ru : RU w N P us
  own : us ≠ [] → ∀ b o, P = some ⟨b, o, none⟩ → K b ∧ b ≠ B1 ∧ b ≠ B2
  vl : ∀ x ∈ us, vld x = true
theorem Left.far {T : Nat → Prop} {w w' : World} {N : Nat} {K : Nat → Prop} {B1 B2 : Nat} {P : Option Addr} {m d : Nat} {us : List Sp} (h : Left w N K B1 B2 P m d us) (hf : Far T w w') (hT : ∀ k, K k → k ≠ B1 → k ≠ B2 → ¬ T k) : Left w' N K B1 B2 P m d us :=
  ⟨h.len, h.cap, h.max, by
    by_cases h0 : us = []
    · subst h0; exact RU.nil
    · exact hf.ru h.ru (fun b o e => by have := h.own h0 b o e; exact hT b this.1 this.2.1 this.2.2), h.own, h.vl⟩

set_option maxRecDepth 100000 in
set_option maxHeartbeats 1600000 in
theorem common1_seq (A1 A2 : Option Addr) (n1 c1 n2 c2 : Nat) (us vs : List Sp) (B1 B2 N : Nat) (K : Nat → Prop) (w : World) (hK1 : K B1) (hK2 : K B2) (hne : B1 ≠ B2)
    (k1 : Blk w B1 22 #[.slice A1 n1 c1]) (k2 : Blk w B2 22 #[.slice A2 n2 c2]) (hA : Left w N K B1 B2 A1 n1 c1 us) (hB : Left w N K B1 B2 A2 n2 c2 vs) :
    SeqF Try.prog 68 #[.pointer (some ⟨B1, 0, none⟩), .pointer (some ⟨B2, 0, none⟩)] spV (fun k => k = B1 ∨ k = B2) K (commonF us vs) w := by
  intro m l J Jx W hW hJ hJx hY h0
  have kB1 := hW.blk k1 (by simpa using hK1)
  have kB2 := hW.blk k2 (by simpa using hK2)
  have lA := hA.far hW (fun k hk _ _ h => h hk)
  have lB := hB.far hW (fun k hk _ _ h => h hk)
  refine callsIn_of_wp Try.func68 rfl trivial ?_ rfl
  simp only [Try.ntmps68, List.size_toArray, List.length_cons, List.length_nil, Nat.reduceAdd, Nat.reduceSub, Array.replicate_succ, Array.replicate_zero, List.push_toArray, List.append_toArray, List.nil_append, List.cons_append]
  gi_wp2_with fail
  gi_loopw [4] (fun _ wr => ∃ (us' vs' pre : List Sp) (P1 P2 : Option Addr) (m1 m2 d1 d2 : Nat), Blk wr B1 22 #[.slice P1 m1 d1] ∧ Blk wr B2 22 #[.slice P2 m2 d2] ∧ Left wr N K B1 B2 P1 m1 d1 us' ∧ Left wr N K B1 B2 P2 m2 d2 vs' ∧ J pre wr ∧ Hid (commonF us vs = pre ++ commonF us' vs'))
    (fun _ wr => lenOf (wr.cell? ⟨B1, 0, none⟩) + lenOf (wr.cell? ⟨B2, 0, none⟩))
  case atStart => exact ⟨us, vs, [], A1, A2, n1, n2, c1, c2, kB1, kB2, lA, lB, h0, Lib.hid rfl⟩
  case round =>
    obtain ⟨us', vs', pre, P1, P2, m1, m2, d1, d2, b1, b2, l1, l2, hJs, hL⟩ := hrel
    have q1 := b1.cell
    have q2 := b2.cell
    have f1 := b1.frozen
    have f2 := b2.frozen
    cases us' with
    | nil =>
      obtain rfl : m1 = 0 := by have := l1.len; simpa using this.symm
      have hE : Hid (pre = commonF us vs) := Lib.hid (by rw [hL.out, commonF_nil, List.append_nil])
      gi_wp2_with fail
      go_end0
      exact ⟨⟨_, rfl⟩, .inl (by rw [← hE.out]; exact hJs)⟩
    | cons x r =>
      have h1' : decide (0 < m1) = true := by have := l1.len; simp at this; simp; omega
      cases vs' with
      | nil =>
        obtain rfl : m2 = 0 := by have := l2.len; simpa using this.symm
        have hE : Hid (pre = commonF us vs) := Lib.hid (by rw [hL.out, commonF_nil', List.append_nil])
        gi_wp2_with fail
        go_end0
        exact ⟨⟨_, rfl⟩, .inl (by rw [← hE.out]; exact hJs)⟩
      | cons y s =>
        have h2' : decide (0 < m2) = true := by have := l2.len; simp at this; simp; omega
        have hlx := l1.len
        have hly := l2.len
        simp only [List.length_cons] at hlx hly
        have hmx := l1.max
        have hmy := l2.max
        have hcx := l1.cap
        have hcy := l2.cap
        obtain ⟨p1, o1, rfl, hp1, x1, x2⟩ := ru_head l1.ru
        obtain ⟨p2, o2, rfl, hp2, y1, y2⟩ := ru_head l2.ru
        have hvx := vld_iff.1 (l1.vl x (by simp))
        have hvy := vld_iff.1 (l2.vl y (by simp))
        obtain ⟨xa, xb⟩ := x
        obtain ⟨ya, yb⟩ := y
        dsimp only at x1 x2 y1 y2 hvx hvy
        have e1 := fun z : Ext wr => z.cell x1
        have e2 := fun z : Ext wr => z.cell x2
        have e3 := fun z : Ext wr => z.cell y1
        have e4 := fun z : Ext wr => z.cell y2
        have e5 := fun z : Ext wr => (z.blk b1).cell
        have e6 := fun z : Ext wr => (z.blk b2).cell
        have HE1 : Hid (∀ z : Ext wr, Calls Try.prog 63 #[.agg #[.int .i64 xa, .int .i64 xb]] z.w fun e w'' => e = .returned (.int .i64 (xa + xb)) ∧ ∃ t : Ext wr, w'' = t.w) := Lib.hid (fun z => Ext.call (end_any xa xb _ (by omega) (by omega)))
        have HE2 : Hid (∀ z : Ext wr, Calls Try.prog 63 #[.agg #[.int .i64 ya, .int .i64 yb]] z.w fun e w'' => e = .returned (.int .i64 (ya + yb)) ∧ ∃ t : Ext wr, w'' = t.w) := Lib.hid (fun z => Ext.call (end_any ya yb _ (by omega) (by omega)))
        gi_upto_region 1 with fail
        refine wpIn_wide.2 ?_
        refine region_ext (by kernel_rfl) (by kernel_rfl) ?_
        repeat (go_big_quiet_step ((go_at_call 63; first | exact HE1.out _ | exact HE2.out _)))
        refine wpQuiet_nil ?_
        rintro w2 ⟨⟨_, hw2⟩, rfl⟩
        have hL1 := hL.out
        rw [commonF_cons] at hL1
        dsimp only at hL1
        generalize hfr : (if xa < ya then ya else xa) = fr
        generalize hto : (if ya + yb < xa + xb then ya + yb else xa + xb) = te
        rw [show max xa ya = fr by omega, show min (xa + xb) (ya + yb) = te by omega] at hL1
        have hb1 : 0 ≤ fr ∧ fr ≤ 1024 ∧ 0 ≤ te ∧ te ≤ 1024 := by omega
        clear hfr hto
        have hJ2 := hJ pre wr w2 hJs (.of_below hw2)
        have hM1 := Lib.hid (b1.cell 0)
        have hM2 := Lib.hid (b2.cell 0)
        have b1b := b1.call hw2
        have b2b := b2.call hw2
        have l1b := l1.far (.of_below hw2 : Far (fun _ => False) _ _) (fun _ _ _ _ h => h)
        have l2b := l2.far (.of_below hw2 : Far (fun _ => False) _ _) (fun _ _ _ _ h => h)
        clear e1 e2 e3 e4 e5 e6 HE1 HE2 q1 q2 f1 f2 x1 x2 y1 y2 b1 b2 l1 l2 hJs hL h1' h2'
        by_cases hft : fr < te
        · have hft' : decide (fr < te) = true := by simpa using hft
          rw [if_pos hft] at hL1
          have hLp := Lib.hid hL1
          clear hL1
          obtain ⟨fn, tmps, assign, body, hy, hRd⟩ := hY (m - 1) pre (fr, te - fr) w2 hJ2 ⟨_, by rw [hLp.out, List.append_assoc]⟩
          clear hY
          gi_wp2_with fail
          refine hRd.mono ?_
          rintro e W3 (⟨rfl, hJ3, hF3⟩ | ⟨rfl, hJx3⟩)
          · have b1c := hF3.blk b1b (by simpa using hK1)
            have b2c := hF3.blk b2b (by simpa using hK2)
            have l1c := l1b.far hF3 (fun k hk _ _ h => h hk)
            have l2c := l2b.far hF3 (fun k hk _ _ h => h hk)
            have hL3 : Hid (commonF us vs = (pre ++ [(fr, te - fr)]) ++ (if xa + xb < ya + yb then commonF r ((ya, yb) :: s) else commonF ((xa, xb) :: r) s)) := Lib.hid (by rw [hLp.out]; simp)
            clear hLp hJ2 hRd b1b b2b l1b l2b
            have q1t := (b1c).cell
            have q2t := (b2c).cell
            have f1t := (b1c).frozen
            have f2t := (b2c).frozen
            obtain ⟨p1', o1', hadx, _, x1t, x2t⟩ := ru_head (l1c).ru
            obtain ⟨rfl, rfl⟩ : p1 = p1' ∧ o1 = o1' := by simpa using hadx
            obtain ⟨p2', o2', hady, _, y1t, y2t⟩ := ru_head (l2c).ru
            obtain ⟨rfl, rfl⟩ : p2 = p2' ∧ o2 = o2' := by simpa using hady
            clear hadx hady
            dsimp only at x1t x2t y1t y2t
            have t1 := fun z : Ext W3 => z.cell x1t
            have t2 := fun z : Ext W3 => z.cell x2t
            have t3 := fun z : Ext W3 => z.cell y1t
            have t4 := fun z : Ext W3 => z.cell y2t
            have t5 := fun z : Ext W3 => (z.blk b1c).cell
            have t6 := fun z : Ext W3 => (z.blk b2c).cell
            have HT1 : Hid (∀ z : Ext W3, Calls Try.prog 63 #[.agg #[.int .i64 xa, .int .i64 xb]] z.w fun e w'' => e = .returned (.int .i64 (xa + xb)) ∧ ∃ t : Ext W3, w'' = t.w) := Lib.hid (fun z => Ext.call (end_any xa xb _ (by omega) (by omega)))
            have HT2 : Hid (∀ z : Ext W3, Calls Try.prog 63 #[.agg #[.int .i64 ya, .int .i64 yb]] z.w fun e w'' => e = .returned (.int .i64 (ya + yb)) ∧ ∃ t : Ext W3, w'' = t.w) := Lib.hid (fun z => Ext.call (end_any ya yb _ (by omega) (by omega)))
            by_cases hlt : xa + xb < ya + yb
            · have hlt' : decide (xa + xb < ya + yb) = true := by simpa using hlt
              have hLz : Hid (commonF us vs = (pre ++ [(fr, te - fr)]) ++ commonF r ((ya, yb) :: s)) := Lib.hid ((hL3.out).trans (by rw [if_pos hlt]))
              clear hlt
              gi_upto_region 3 with fail
              refine wpIn_wide.2 ?_
              refine region_ext (by kernel_rfl) (by kernel_rfl) ?_
              repeat (go_big_quiet_step ((go_at_call 63; first | exact HT1.out _ | exact HT2.out _)))
              refine wpQuiet_nil ?_
              rintro w5 ⟨⟨_, hw5⟩, rfl⟩
              have c1z := (b1c).call hw5
              have c2z := (b2c).call hw5
              have l1z := (l1c).far (.of_below hw5 : Far (fun _ => False) _ _) (fun _ _ _ _ h => h)
              have l2z := (l2c).far (.of_below hw5 : Far (fun _ => False) _ _) (fun _ _ _ _ h => h)
              have hJz := hJ (pre ++ [(fr, te - fr)]) W3 w5 hJ3 (.of_below hw5)
              have q1z := c1z.cell
              have q2z := c2z.cell
              have f1z := c1z.frozen
              have f2z := c2z.frozen
              clear t1 t2 t3 t4 t5 t6 HT1 HT2 q1t q2t f1t f2t x1t x2t y1t y2t
              have hne1 := (l1z.own (by simp) p1 o1 rfl)
              have hne2 := (l2z.own (by simp) p2 o2 rfl)
              obtain ⟨q, hq⟩ := tail_at l1z.ru (d := d1) (by have := l1z.cap; omega)
              have hqh := Lib.hid hq.1
              have hqr := hq.2
              clear hq
              gi_wp2_with fail
              rw [hqh.out]
              have hfz : Far (fun k => k = B1 ∨ k = B2) w5 (w5.setCell ⟨B1, 0, none⟩ (.slice (some ⟨p1, q, none⟩) (m1 - 1) (d1 - 1))) := Far.setCell (.refl _ _) (fun _ => .inl rfl) _
              go_roundw
              case rel =>
                refine ⟨r, (ya, yb) :: s, (pre ++ [(fr, te - fr)]), some ⟨p1, q, none⟩, some ⟨p2, o2, none⟩, m1 - 1, m2, d1 - 1, d2, c1z.set_ 0 _, c2z.far (p := ⟨B1, 0, none⟩) (fun h => hne h.symm) _, ?_, l2z.far hfz (fun k _ h1 h2 h => h.elim h1 h2), hJ _ _ _ hJz hfz, hLz⟩
                have lr : Left w5 N K B1 B2 (some ⟨p1, q, none⟩) (m1 - 1) (d1 - 1) r := ⟨by omega, by omega, by omega, hqr, fun _ b o e => by cases e; exact hne1, fun z hz => l1z.vl z (by simp [hz])⟩
                exact lr.far hfz (fun k _ h1 h2 h => h.elim h1 h2)
              case measure => rw [(c1z.set_ 0 (.slice (some ⟨p1, q, none⟩) (m1 - 1) (d1 - 1))).cell 0, (c2z.far (p := ⟨B1, 0, none⟩) (fun h => hne h.symm) (.slice (some ⟨p1, q, none⟩) (m1 - 1) (d1 - 1))).cell 0, hM1.out, hM2.out]; simp [lenOf]; omega
            · have hlt' : decide (xa + xb < ya + yb) = false := by simpa using hlt
              have hLz : Hid (commonF us vs = (pre ++ [(fr, te - fr)]) ++ commonF ((xa, xb) :: r) s) := Lib.hid ((hL3.out).trans (by rw [if_neg hlt]))
              clear hlt
              gi_upto_region 3 with fail
              refine wpIn_wide.2 ?_
              refine region_ext (by kernel_rfl) (by kernel_rfl) ?_
              repeat (go_big_quiet_step ((go_at_call 63; first | exact HT1.out _ | exact HT2.out _)))
              refine wpQuiet_nil ?_
              rintro w5 ⟨⟨_, hw5⟩, rfl⟩
              have c1z := (b1c).call hw5
              have c2z := (b2c).call hw5
              have l1z := (l1c).far (.of_below hw5 : Far (fun _ => False) _ _) (fun _ _ _ _ h => h)
              have l2z := (l2c).far (.of_below hw5 : Far (fun _ => False) _ _) (fun _ _ _ _ h => h)
              have hJz := hJ (pre ++ [(fr, te - fr)]) W3 w5 hJ3 (.of_below hw5)
              have q1z := c1z.cell
              have q2z := c2z.cell
              have f1z := c1z.frozen
              have f2z := c2z.frozen
              clear t1 t2 t3 t4 t5 t6 HT1 HT2 q1t q2t f1t f2t x1t x2t y1t y2t
              have hne1 := (l1z.own (by simp) p1 o1 rfl)
              have hne2 := (l2z.own (by simp) p2 o2 rfl)
              obtain ⟨q, hq⟩ := tail_at l2z.ru (d := d2) (by have := l2z.cap; omega)
              have hqh := Lib.hid hq.1
              have hqr := hq.2
              clear hq
              gi_wp2_with fail
              rw [hqh.out]
              have hfz : Far (fun k => k = B1 ∨ k = B2) w5 (w5.setCell ⟨B2, 0, none⟩ (.slice (some ⟨p2, q, none⟩) (m2 - 1) (d2 - 1))) := Far.setCell (.refl _ _) (fun _ => .inr rfl) _
              go_roundw
              case rel =>
                refine ⟨(xa, xb) :: r, s, (pre ++ [(fr, te - fr)]), some ⟨p1, o1, none⟩, some ⟨p2, q, none⟩, m1, m2 - 1, d1, d2 - 1, c1z.far (p := ⟨B2, 0, none⟩) hne _, c2z.set_ 0 _, l1z.far hfz (fun k _ h1 h2 h => h.elim h1 h2), ?_, hJ _ _ _ hJz hfz, hLz⟩
                have lr : Left w5 N K B1 B2 (some ⟨p2, q, none⟩) (m2 - 1) (d2 - 1) s := ⟨by omega, by omega, by omega, hqr, fun _ b o e => by cases e; exact hne2, fun z hz => l2z.vl z (by simp [hz])⟩
                exact lr.far hfz (fun k _ h1 h2 h => h.elim h1 h2)
              case measure => rw [(c1z.far (p := ⟨B2, 0, none⟩) hne (.slice (some ⟨p2, q, none⟩) (m2 - 1) (d2 - 1))).cell 0, (c2z.set_ 0 (.slice (some ⟨p2, q, none⟩) (m2 - 1) (d2 - 1))).cell 0, hM1.out, hM2.out]; simp [lenOf]; omega
          · gi_wp2_with fail
            refine bodyPost_ret (results_none rfl _ _ _) rfl ?_
            exact ⟨⟨_, rfl⟩, .inr ⟨pre ++ [(fr, te - fr)], ⟨_, by rw [hLp.out, List.append_assoc]⟩, hJx3⟩⟩
        · have hft' : decide (fr < te) = false := by simpa using hft
          rw [if_neg hft, List.nil_append] at hL1
          have hLp := Lib.hid hL1
          clear hL1
          have q1t := (b1b).cell
          have q2t := (b2b).cell
          have f1t := (b1b).frozen
          have f2t := (b2b).frozen
          obtain ⟨p1', o1', hadx, _, x1t, x2t⟩ := ru_head (l1b).ru
          obtain ⟨rfl, rfl⟩ : p1 = p1' ∧ o1 = o1' := by simpa using hadx
          obtain ⟨p2', o2', hady, _, y1t, y2t⟩ := ru_head (l2b).ru
          obtain ⟨rfl, rfl⟩ : p2 = p2' ∧ o2 = o2' := by simpa using hady
          clear hadx hady
          dsimp only at x1t x2t y1t y2t
          have t1 := fun z : Ext w2 => z.cell x1t
          have t2 := fun z : Ext w2 => z.cell x2t
          have t3 := fun z : Ext w2 => z.cell y1t
          have t4 := fun z : Ext w2 => z.cell y2t
          have t5 := fun z : Ext w2 => (z.blk b1b).cell
          have t6 := fun z : Ext w2 => (z.blk b2b).cell
          have HT1 : Hid (∀ z : Ext w2, Calls Try.prog 63 #[.agg #[.int .i64 xa, .int .i64 xb]] z.w fun e w'' => e = .returned (.int .i64 (xa + xb)) ∧ ∃ t : Ext w2, w'' = t.w) := Lib.hid (fun z => Ext.call (end_any xa xb _ (by omega) (by omega)))
          have HT2 : Hid (∀ z : Ext w2, Calls Try.prog 63 #[.agg #[.int .i64 ya, .int .i64 yb]] z.w fun e w'' => e = .returned (.int .i64 (ya + yb)) ∧ ∃ t : Ext w2, w'' = t.w) := Lib.hid (fun z => Ext.call (end_any ya yb _ (by omega) (by omega)))
          by_cases hlt : xa + xb < ya + yb
          · have hlt' : decide (xa + xb < ya + yb) = true := by simpa using hlt
            have hLz : Hid (commonF us vs = pre ++ commonF r ((ya, yb) :: s)) := Lib.hid ((hLp.out).trans (by rw [if_pos hlt]))
            clear hlt
            gi_upto_region 3 with fail
            refine wpIn_wide.2 ?_
            refine region_ext (by kernel_rfl) (by kernel_rfl) ?_
            repeat (go_big_quiet_step ((go_at_call 63; first | exact HT1.out _ | exact HT2.out _)))
            refine wpQuiet_nil ?_
            rintro w5 ⟨⟨_, hw5⟩, rfl⟩
            have c1z := (b1b).call hw5
            have c2z := (b2b).call hw5
            have l1z := (l1b).far (.of_below hw5 : Far (fun _ => False) _ _) (fun _ _ _ _ h => h)
            have l2z := (l2b).far (.of_below hw5 : Far (fun _ => False) _ _) (fun _ _ _ _ h => h)
            have hJz := hJ pre w2 w5 hJ2 (.of_below hw5)
            have q1z := c1z.cell
            have q2z := c2z.cell
            have f1z := c1z.frozen
            have f2z := c2z.frozen
            clear t1 t2 t3 t4 t5 t6 HT1 HT2 q1t q2t f1t f2t x1t x2t y1t y2t
            have hne1 := (l1z.own (by simp) p1 o1 rfl)
            have hne2 := (l2z.own (by simp) p2 o2 rfl)
            obtain ⟨q, hq⟩ := tail_at l1z.ru (d := d1) (by have := l1z.cap; omega)
            have hqh := Lib.hid hq.1
            have hqr := hq.2
            clear hq
            gi_wp2_with fail
            rw [hqh.out]
            have hfz : Far (fun k => k = B1 ∨ k = B2) w5 (w5.setCell ⟨B1, 0, none⟩ (.slice (some ⟨p1, q, none⟩) (m1 - 1) (d1 - 1))) := Far.setCell (.refl _ _) (fun _ => .inl rfl) _
            go_roundw
            case rel =>
              refine ⟨r, (ya, yb) :: s, pre, some ⟨p1, q, none⟩, some ⟨p2, o2, none⟩, m1 - 1, m2, d1 - 1, d2, c1z.set_ 0 _, c2z.far (p := ⟨B1, 0, none⟩) (fun h => hne h.symm) _, ?_, l2z.far hfz (fun k _ h1 h2 h => h.elim h1 h2), hJ _ _ _ hJz hfz, hLz⟩
              have lr : Left w5 N K B1 B2 (some ⟨p1, q, none⟩) (m1 - 1) (d1 - 1) r := ⟨by omega, by omega, by omega, hqr, fun _ b o e => by cases e; exact hne1, fun z hz => l1z.vl z (by simp [hz])⟩
              exact lr.far hfz (fun k _ h1 h2 h => h.elim h1 h2)
            case measure => rw [(c1z.set_ 0 (.slice (some ⟨p1, q, none⟩) (m1 - 1) (d1 - 1))).cell 0, (c2z.far (p := ⟨B1, 0, none⟩) (fun h => hne h.symm) (.slice (some ⟨p1, q, none⟩) (m1 - 1) (d1 - 1))).cell 0, hM1.out, hM2.out]; simp [lenOf]; omega
          · have hlt' : decide (xa + xb < ya + yb) = false := by simpa using hlt
            have hLz : Hid (commonF us vs = pre ++ commonF ((xa, xb) :: r) s) := Lib.hid ((hLp.out).trans (by rw [if_neg hlt]))
            clear hlt
            gi_upto_region 3 with fail
            refine wpIn_wide.2 ?_
            refine region_ext (by kernel_rfl) (by kernel_rfl) ?_
            repeat (go_big_quiet_step ((go_at_call 63; first | exact HT1.out _ | exact HT2.out _)))
            refine wpQuiet_nil ?_
            rintro w5 ⟨⟨_, hw5⟩, rfl⟩
            have c1z := (b1b).call hw5
            have c2z := (b2b).call hw5
            have l1z := (l1b).far (.of_below hw5 : Far (fun _ => False) _ _) (fun _ _ _ _ h => h)
            have l2z := (l2b).far (.of_below hw5 : Far (fun _ => False) _ _) (fun _ _ _ _ h => h)
            have hJz := hJ pre w2 w5 hJ2 (.of_below hw5)
            have q1z := c1z.cell
            have q2z := c2z.cell
            have f1z := c1z.frozen
            have f2z := c2z.frozen
            clear t1 t2 t3 t4 t5 t6 HT1 HT2 q1t q2t f1t f2t x1t x2t y1t y2t
            have hne1 := (l1z.own (by simp) p1 o1 rfl)
            have hne2 := (l2z.own (by simp) p2 o2 rfl)
            obtain ⟨q, hq⟩ := tail_at l2z.ru (d := d2) (by have := l2z.cap; omega)
            have hqh := Lib.hid hq.1
            have hqr := hq.2
            clear hq
            gi_wp2_with fail
            rw [hqh.out]
            have hfz : Far (fun k => k = B1 ∨ k = B2) w5 (w5.setCell ⟨B2, 0, none⟩ (.slice (some ⟨p2, q, none⟩) (m2 - 1) (d2 - 1))) := Far.setCell (.refl _ _) (fun _ => .inr rfl) _
            go_roundw
            case rel =>
              refine ⟨(xa, xb) :: r, s, pre, some ⟨p1, o1, none⟩, some ⟨p2, q, none⟩, m1, m2 - 1, d1, d2 - 1, c1z.far (p := ⟨B2, 0, none⟩) hne _, c2z.set_ 0 _, l1z.far hfz (fun k _ h1 h2 h => h.elim h1 h2), ?_, hJ _ _ _ hJz hfz, hLz⟩
              have lr : Left w5 N K B1 B2 (some ⟨p2, q, none⟩) (m2 - 1) (d2 - 1) s := ⟨by omega, by omega, by omega, hqr, fun _ b o e => by cases e; exact hne2, fun z hz => l2z.vl z (by simp [hz])⟩
              exact lr.far hfz (fun k _ h1 h2 h => h.elim h1 h2)
            case measure => rw [(c1z.far (p := ⟨B2, 0, none⟩) hne (.slice (some ⟨p2, q, none⟩) (m2 - 1) (d2 - 1))).cell 0, (c2z.set_ 0 (.slice (some ⟨p2, q, none⟩) (m2 - 1) (d2 - 1))).cell 0, hM1.out, hM2.out]; simp [lenOf]; omega

end Go.Proofs.Ytdepkmpilipolaa
namespace Go.Pol
def wrongG (f b ev : Int) : Bool := !(decide (0 ≤ f) && decide (f ≤ 16) && decide (0 ≤ b) && decide (b ≤ 16) && decide (0 ≤ ev) && decide (ev ≤ 1024))
theorem wrongG_iff {f b ev : Int} : wrongG f b ev = false ↔ (0 ≤ f ∧ f ≤ 16) ∧ (0 ≤ b ∧ b ≤ 16) ∧ 0 ≤ ev ∧ ev ≤ 1024 := by simp [wrongG, and_assoc]
def chkG (pg n f b ev : Int) : Int := if vld (pg, n) = false ∨ wrongG f b ev = true then 7 else if n ≤ f + b then 4 else 0
theorem chkG_zero {pg n f b ev : Int} : chkG pg n f b ev = 0 ↔ PlanOk pg n f b ev := by
  unfold chkG
  constructor
  · intro h
    split at h
    · cases h
    · rename_i h1
      split at h
      · cases h
      · have h2 : vld (pg, n) = true := by cases hv : vld (pg, n) with | true => rfl | false => exact absurd (.inl hv) h1
        have h3 : wrongG f b ev = false := by cases hv : wrongG f b ev with | false => rfl | true => exact absurd (.inr hv) h1
        have h2' := vld_iff.1 h2
        have h3' := wrongG_iff.1 h3
        simp only at h2'
        exact ⟨h2'.1, h2'.2.1, h2'.2.2.1, h2'.2.2.2, h3'.1.1, h3'.1.2, h3'.2.1.1, h3'.2.1.2, h3'.2.2.1, h3'.2.2.2, by omega⟩
  · intro h
    have h1 : vld (pg, n) = true := vld_iff.2 ⟨h.pg0, h.pg1, h.n0, h.n1⟩
    have h2 : wrongG f b ev = false := wrongG_iff.2 ⟨⟨h.f0, h.f1⟩, ⟨h.b0, h.b1⟩, h.e0, h.e1⟩
    rw [h1, h2]
    have := h.fb
    simp; omega
theorem chkS_one (x : Sp) : chkS [x] = if vld x = true then 0 else 7 := by
  by_cases h : vld x = true
  · rw [if_pos h]; exact chkS_zero.2 (Can.one h)
  · rw [if_neg h]; simp [chkS, h]
theorem ru_blk1 {w : World} {B : Nat} {t : TypeId} {p n : Int} (h : Blk w B t #[.int .i64 p, .int .i64 n]) : RU w w.heap.size (some ⟨B, 0, none⟩) [(p, n)] := fun k hk => by
  obtain rfl : k = 0 := by simp at hk; omega
  exact ⟨B, 0, rfl, h.lt, h.cell 0, h.cell 1⟩
end Go.Pol
namespace Go.Proofs.Ytdepkmpilipolaa
open Go Go.Proofs Go.RowKit Go.Pol

theorem outside_any (n a b : Int) (w : World) :
    Calls Try.prog 35 #[.int .i64 n, .int .i64 a, .int .i64 b] w fun e w' => e = .returned (.bool (!(decide (a ≤ n) && decide (n ≤ b)))) ∧ w = w' := by
  by_cases h : n < a
  · have h' : decide (n < a) = true := by simpa using h
    have h2 : decide (a ≤ n) = false := by simpa using h
    go_enter Try.func35, Try.ntmps35
    go_wp2
    go_ret
    simp [h2]
  · have h' : decide (n < a) = false := by simpa using h
    have h2 : decide (a ≤ n) = true := by simpa using h
    go_enter Try.func35, Try.ntmps35
    go_wp2
    go_ret
    simp [h2]
    rw [Bool.eq_iff_iff]; simp

theorem gwrong_any (f b ev : Int) (w : World) :
    Calls Try.prog 36 #[.agg #[.int .i64 f, .int .i64 b, .int .i64 ev]] w fun e w' => e = .returned (.bool (wrongG f b ev)) ∧ Below w.heap.size w w' := by
  have hb0 := (Below.refl w.heap.size w).alloc (Nat.le_refl _) (.cells #[.int .i64 f, .int .i64 b, .int .i64 ev] 29)
  have HO := Lib.hid (fun (n a b : Int) W => outside_any n a b W)
  obtain ⟨c1, hc1⟩ : ∃ c, (!(decide (0 ≤ f) && decide (f ≤ 16))) = c := ⟨_, rfl⟩
  obtain ⟨c2, hc2⟩ : ∃ c, (!(decide (0 ≤ b) && decide (b ≤ 16))) = c := ⟨_, rfl⟩
  obtain ⟨c3, hc3⟩ : ∃ c, (!(decide (0 ≤ ev) && decide (ev ≤ 1024))) = c := ⟨_, rfl⟩
  have hR : Hid (wrongG f b ev = (c1 || (c2 || c3))) := Lib.hid (by rw [← hc1, ← hc2, ← hc3]; unfold wrongG; cases decide (0 ≤ f) <;> cases decide (f ≤ 16) <;> cases decide (0 ≤ b) <;> cases decide (b ≤ 16) <;> rfl)
  have H1 := Lib.hid (fun W => outside_any f 0 16 W)
  have H2 := Lib.hid (fun W => outside_any b 0 16 W)
  have H3 := Lib.hid (fun W => outside_any ev 0 1024 W)
  rw [hc1] at H1
  rw [hc2] at H2
  rw [hc3] at H3
  clear hc1 hc2 hc3
  cases c1 with
  | true =>
    go_enter Try.func36, Try.ntmps36
    go_wp2_with (go_at_call 35; refine (H1.out _).mono ?_; rintro e w' ⟨rfl, rfl⟩)
    go_ret
    exact ⟨ret_bool (by rw [hR.out]; rfl), hb0⟩
  | false =>
    cases c2 with
    | true =>
      go_enter Try.func36, Try.ntmps36
      go_wp2_with (go_at_call 35; first | (refine (H1.out _).mono ?_; clear H1; rintro e w' ⟨rfl, rfl⟩) | (refine (H2.out _).mono ?_; rintro e w' ⟨rfl, rfl⟩))
      go_ret
      exact ⟨ret_bool (by rw [hR.out]; rfl), hb0⟩
    | false =>
      go_enter Try.func36, Try.ntmps36
      go_wp2_with (go_at_call 35; first | (refine (H1.out _).mono ?_; clear H1; rintro e w' ⟨rfl, rfl⟩) | (refine (H2.out _).mono ?_; clear H2; rintro e w' ⟨rfl, rfl⟩) | (refine (H3.out _).mono ?_; rintro e w' ⟨rfl, rfl⟩))
      go_ret
      exact ⟨ret_bool (by rw [hR.out]; rfl), hb0⟩

set_option maxHeartbeats 400000 in
theorem gcheck_any (pg n f b ev : Int) (w : World) :
    Calls Try.prog 31 #[planV pg n f b ev] w fun e w' => e = .returned (.int .i64 (chkG pg n f b ev)) ∧ Below w.heap.size w w' := by
  obtain ⟨R, hR0⟩ : ∃ R : Int, chkG pg n f b ev = R := ⟨_, rfl⟩
  rw [hR0]
  have hR := Lib.hid hR0
  clear hR0
  have hb0 := (Below.refl w.heap.size w).alloc (Nat.le_refl _) (.cells (planC pg n f b ev) 31)
  have k0 := Blk.new w 31 (planC pg n f b ev)
  have hb1 := hb0.alloc hb0.size (.cells #[.int .i64 pg, .int .i64 n] 56)
  have k1 := k0.alloc (.cells #[.int .i64 pg, .int .i64 n] 56)
  have kS := Blk.new (w.alloc (.cells (planC pg n f b ev) 31)) 56 #[.int .i64 pg, .int .i64 n]
  rw [World.size_alloc] at kS
  have HC := Lib.hid (spCheck_any (some ⟨w.heap.size + 1, 0, none⟩) 1 1 [(pg, n)] _ rfl (by unfold maxLen; omega) (ru_blk1 kS))
  rw [chkS_one] at HC
  by_cases hv : vld (pg, n) = true
  case neg =>
    rw [if_neg hv] at HC
    have hE : Hid (R = 7) := Lib.hid (by rw [← hR.out, chkG, if_pos (.inl (by simpa using hv))])
    clear hv hR
    go_enter Try.func31, Try.ntmps31
    go_wp2_with (go_at_call 47; refine (HC.out).mono ?_; rintro e w1 ⟨rfl, hq⟩; have k2 := k1.call hq; have c2 := k2.cell)
    go_ret
    exact ⟨ret_int hE.out.symm, hb1.trans (hq.mono hb1.size)⟩
  case pos =>
    rw [if_pos hv] at HC
    have HW := Lib.hid (fun W => gwrong_any f b ev W)
    cases hw : wrongG f b ev with
    | true =>
      rw [hw] at HW
      have hE : Hid (R = 7) := Lib.hid (by rw [← hR.out, chkG, if_pos (.inr hw)])
      clear hv hR hw
      go_enter Try.func31, Try.ntmps31
      go_wp2_with (first
        | (go_at_call 47; refine (HC.out).mono ?_; rintro e w1 ⟨rfl, hq⟩; have k2 := k1.call hq; have c2 := k2.cell)
        | (go_at_call 36; refine (HW.out _).mono ?_; rintro e w3 ⟨rfl, hq3⟩))
      go_ret
      have hb2 := hb1.trans (hq.mono hb1.size)
      exact ⟨ret_int hE.out.symm, hb2.trans (hq3.mono hb2.size)⟩
    | false =>
      rw [hw] at HW
      have hE : Hid (R = if n ≤ f + b then 4 else 0) := Lib.hid (by rw [← hR.out, chkG, if_neg (by simp [hv, hw])])
      have hv' := vld_iff.1 hv
      have hw' := wrongG_iff.1 hw
      dsimp only at hv'
      clear hv hR hw
      by_cases hn : n ≤ f + b
      · have hn' : decide (n ≤ f + b) = true := by simpa using hn
        rw [if_pos hn] at hE
        clear hn
        go_enter Try.func31, Try.ntmps31
        go_wp2_with (first
          | (go_at_call 47; refine (HC.out).mono ?_; rintro e w1 ⟨rfl, hq⟩; have k2 := k1.call hq; have c2 := k2.cell)
          | (go_at_call 36; refine (HW.out _).mono ?_; rintro e w3 ⟨rfl, hq3⟩; have k3 := k2.call hq3; have c3 := k3.cell))
        go_ret
        have hb2 := hb1.trans (hq.mono hb1.size)
        exact ⟨ret_int hE.out.symm, hb2.trans (hq3.mono hb2.size)⟩
      · have hn' : decide (n ≤ f + b) = false := by simpa using hn
        rw [if_neg hn] at hE
        clear hn
        go_enter Try.func31, Try.ntmps31
        go_wp2_with (first
          | (go_at_call 47; refine (HC.out).mono ?_; rintro e w1 ⟨rfl, hq⟩; have k2 := k1.call hq; have c2 := k2.cell)
          | (go_at_call 36; refine (HW.out _).mono ?_; rintro e w3 ⟨rfl, hq3⟩; have k3 := k2.call hq3; have c3 := k3.cell))
        go_ret
        have hb2 := hb1.trans (hq.mono hb1.size)
        exact ⟨ret_int hE.out.symm, hb2.trans (hq3.mono hb2.size)⟩
end Go.Proofs.Ytdepkmpilipolaa
namespace Go.Proofs.Ytdepkmpilipolaa
open Go Go.Proofs Go.RowKit Go.Pol Go.ChangeShapes Go.WideShapes Go.Deep

theorem own_ : ownKnob Try.prog.godebug = none := by kernel_rfl
theorem laidOut_ : laidOutB Try.prog = true := by kernel_rfl
theorem spStructK : ∃ f0 f1 : Field, Try.prog.underlying 56 = some (.struct #[f0, f1]) ∧ oneCellFields Try.prog #[f0, f1] = true ∧ f0.type = 3 ∧ f1.type = 3 := ⟨_, _, Try.underlying56, by kernel_rfl, rfl, rfl⟩
theorem spsCellsK : Try.prog.cellsOf 22 = 1 := by kernel_rfl
theorem ruStruct : ∃ f0 f1 f2 f3 : Field, Try.prog.underlying 109 = some (.struct #[f0, f1, f2, f3]) ∧ oneCellFields Try.prog #[f0, f1, f2, f3] = true ∧ f0.type = 3 ∧ f1.type = 3 ∧ f2.type = 3 ∧ f3.type = 3 := ⟨_, _, _, _, Try.underlying109, by kernel_rfl, rfl, rfl, rfl, rfl⟩
theorem rusCells : Try.prog.cellsOf 23 = 1 := by kernel_rfl
theorem plCells : Try.prog.cellsOf 25 = 1 := by kernel_rfl
section
variable {H : Type} {enc : TypeId × Value → H} {w : World} {base b0 : Nat} {held : Bool} {r : Reach} {v : Value} {d : DataW H} {p : List MemPlace}
theorem planCells : Try.prog.cellsOf 31 = 5 := by kernel_rfl
theorem specCells : Try.prog.cellsOf 29 = 3 := by kernel_rfl
theorem intCells : Try.prog.cellsOf 3 = 1 := by kernel_rfl
set_option maxRecDepth 100000 in
/-- a spec that came in, by its cells -/
theorem specOf {n : Nat} {cs : List Value} {x : DataW H × List MemPlace} (h : DataW.trod enc Try.prog w base (fun _ => true) held n 29 cs = some x) : ∃ f b ev : Int, cs = [.int .i64 f, .int .i64 b, .int .i64 ev] := by
  obtain ⟨xs, m, _, hx, hl, hlen, hg⟩ := DataW.trod_struct Try.underlying29 h
  rw [specCells] at hl
  match cs, hl with
  | [c0, c1, c2], _ =>
    have g0 : DataW.trod enc Try.prog w base (fun _ => true) held m 3 [c0] = xs[0]? := by have := hg 0 _ rfl; simpa [intCells] using this
    have g1 : DataW.trod enc Try.prog w base (fun _ => true) held m 3 [c1] = xs[1]? := by have := hg 1 _ rfl; simpa [intCells] using this
    have g2 : DataW.trod enc Try.prog w base (fun _ => true) held m 3 [c2] = xs[2]? := by have := hg 2 _ rfl; simpa [intCells] using this
    match xs, hlen with
    | [y0, y1, y2], _ =>
      obtain ⟨n0, e0, _⟩ := DataW.trod_int Try.underlying3 (g0.trans rfl)
      obtain ⟨n1, e1, _⟩ := DataW.trod_int Try.underlying3 (g1.trans rfl)
      obtain ⟨n2, e2, _⟩ := DataW.trod_int Try.underlying3 (g2.trans rfl)
      simp only [List.cons.injEq, and_true] at e0 e1 e2
      subst e0; subst e1; subst e2
      exact ⟨n0, n1, n2, rfl⟩
set_option maxRecDepth 100000 in
/-- a plan that came in -/
theorem openPlan (hv : Value.okWide Try.prog w r b0 31 v) (h : DataW.Trod enc Try.prog w base (fun _ => true) held 31 v d p) :
    ∃ pg n f b ev : Int, v = planV pg n f b ev := by
  obtain ⟨cs, rfl, hsz⟩ := okWide_struct Try.underlying31 hv
  obtain ⟨l⟩ := cs
  obtain ⟨fuel, hf⟩ := h
  obtain ⟨xs, m, _, hx, hl, hlen, hg⟩ := DataW.trod_struct Try.underlying31 hf
  rw [planCells] at hsz
  match l, hsz with
  | [c0, c1, c2, c3, c4], _ =>
    have g0 : DataW.trod enc Try.prog w base (fun _ => true) held m 3 [c0] = xs[0]? := by have := hg 0 _ rfl; simpa [Value.cells, intCells] using this
    have g1 : DataW.trod enc Try.prog w base (fun _ => true) held m 3 [c1] = xs[1]? := by have := hg 1 _ rfl; simpa [Value.cells, intCells] using this
    have g2 : DataW.trod enc Try.prog w base (fun _ => true) held m 29 [c2, c3, c4] = xs[2]? := by have := hg 2 _ rfl; simpa [Value.cells, specCells] using this
    match xs, hlen with
    | [y0, y1, y2], _ =>
      obtain ⟨n0, e0, _⟩ := DataW.trod_int Try.underlying3 (g0.trans rfl)
      obtain ⟨n1, e1, _⟩ := DataW.trod_int Try.underlying3 (g1.trans rfl)
      obtain ⟨f, b, ev, e2⟩ := specOf (g2.trans rfl)
      simp only [List.cons.injEq, and_true] at e0 e1 e2
      obtain ⟨rfl, rfl, rfl⟩ := e2
      subst e0; subst e1
      exact ⟨n0, n1, f, b, ev, rfl⟩
end
theorem mdCellsE : Try.prog.cellsOf 27 = 4 := by kernel_rfl
section
variable {H : Type} {enc : TypeId × Value → H} {w : World} {base b0 : Nat} {held : Bool} {r : Reach} {v : Value} {d : DataW H} {p : List MemPlace}
set_option maxRecDepth 100000 in
/-- what a system is made of, as it came in -/
theorem openMadeE (hv : Value.okWide Try.prog w r b0 27 v) (h : DataW.Trod enc Try.prog w base (fun _ => true) held 27 v d p) :
    ∃ (A1 A2 A3 Ar : Option Addr) (n1 c1 n2 c2 n3 c3 nr cr : Nat) (rs cs gs : List (Int × Int)) (l : List Ru), v = .agg #[.slice A1 n1 c1, .slice A2 n2 c2, .slice A3 n3 c3, .slice Ar nr cr] ∧ rs.length = n1 ∧ RU w w.heap.size A1 rs ∧ cs.length = n2 ∧ RU w w.heap.size A2 cs ∧ gs.length = n3 ∧ RU w w.heap.size A3 gs ∧
      l.length = nr ∧ Rd w w.heap.size Ar (fl ruC l) ∧ (Ar = none → cr = 0) := by
  obtain ⟨f0, f1, hs, hone, t0, t1⟩ := spStructK
  obtain ⟨r0, r1, r2, r3, hru, hrone, rt0, rt1, rt2, rt3⟩ := ruStruct
  obtain ⟨cs, rfl, hsz⟩ := okWide_struct Try.underlying27 hv
  obtain ⟨l⟩ := cs
  obtain ⟨fuel, hf⟩ := h
  obtain ⟨xs, m, _, hx, hl, hlen, hg⟩ := DataW.trod_struct Try.underlying27 hf
  rw [mdCellsE] at hsz
  match l, hsz with
  | [c0, c1, c2, c5], _ =>
    have g0 : DataW.trod enc Try.prog w base (fun _ => true) held m 22 [c0] = xs[0]? := by have := hg 0 _ rfl; simpa [Value.cells, spsCellsK] using this
    have g1 : DataW.trod enc Try.prog w base (fun _ => true) held m 22 [c1] = xs[1]? := by have := hg 1 _ rfl; simpa [Value.cells, spsCellsK] using this
    have g2 : DataW.trod enc Try.prog w base (fun _ => true) held m 22 [c2] = xs[2]? := by have := hg 2 _ rfl; simpa [Value.cells, spsCellsK] using this
    have g5 : DataW.trod enc Try.prog w base (fun _ => true) held m 25 [c5] = xs[3]? := by have := hg 3 _ rfl; simpa [Value.cells, spsCellsK, plCells] using this
    match xs, hlen with
    | [y0, y1, y2, y5], _ =>
      obtain ⟨A1, n1, k1, R1, rfl, a1, a2, a3⟩ := openU Try.underlying22 hs hone (by kernel_rfl) (by rw [t0]; exact Try.underlying3) (by rw [t1]; exact Try.underlying3) (g0.trans rfl)
      obtain ⟨A2, n2, k2, R2, rfl, b1, b2, b3⟩ := openU Try.underlying22 hs hone (by kernel_rfl) (by rw [t0]; exact Try.underlying3) (by rw [t1]; exact Try.underlying3) (g1.trans rfl)
      obtain ⟨A3, n3, k3, R3, rfl, x1, x2, x3⟩ := openU Try.underlying22 hs hone (by kernel_rfl) (by rw [t0]; exact Try.underlying3) (by rw [t1]; exact Try.underlying3) (g2.trans rfl)
      have g5' : DataW.trod enc Try.prog w base (fun _ => true) held m 25 [c5] = some y5 := g5.trans rfl
      obtain ⟨zs, m2, _, hx2, hl2, hlen2, hg2⟩ := DataW.trod_struct Try.underlying25 g5'
      have g6 : DataW.trod enc Try.prog w base (fun _ => true) held m2 23 [c5] = zs[0]? := by have := hg2 0 _ rfl; simpa [Value.cells, rusCells] using this
      match zs, hlen2 with
      | [z0], _ =>
        obtain ⟨Ar, nr, kr, L, rfl, u1, u2, u3, u4⟩ := openR Try.underlying23 hru hrone (by kernel_rfl) (by rw [rt0]; exact Try.underlying3) (by rw [rt1]; exact Try.underlying3) (by rw [rt2]; exact Try.underlying3) (by rw [rt3]; exact Try.underlying3) (g6.trans rfl)
        exact ⟨A1, A2, A3, Ar, n1, k1, n2, k2, n3, k3, nr, kr, R1, R2, R3, L, rfl, a1, a3, b1, b3, x1, x3, u1, u3, u4⟩
end
end Go.Proofs.Ytdepkmpilipolaa
namespace Go.Pol
open Go Go.RowKit
def resS (V : Vm) (x : Int × Int) : Vm := (bec V x.1 x.2 0 0 1).2
def comS (V : Vm) (x : Int × Int) : Vm := (bec V x.1 x.2 2 1 2).2
def guaS (V : Vm) (x : Int × Int) : Vm := (bec V x.1 x.2 4 1 3).2
end Go.Pol
namespace Go.Pol
open Go Go.RowKit
/-- what law 11 makes a system of -/
def sysE (rs cs gs : List (Int × Int)) (l : List Ru) : Vm := planF (gs.foldl guaS (cs.foldl comS (rs.foldl resS newVm))) l
theorem sysE_kind (rs cs gs l) : KindOk (sysE rs cs gs l) :=
  (foldl_kind (fun _ _ h => KindOk.bec h _ _ _ _ (by omega)) _ _ (foldl_kind (fun _ _ h => KindOk.bec h _ _ _ _ (by omega)) _ _ (foldl_kind (fun _ _ h => KindOk.bec h _ _ _ _ (by omega)) _ _ newKind))).plan _
/-- a system is handed back, with what is said of its plan -/
def SysOE (V : Vm) (er : Int) (w : World) (e : Ending) (w' : World) : Prop := ∃ b, e = .returned (.tuple #[.pointer (some ⟨b, 0, none⟩), .int .i64 er]) ∧ SysIs w' b V ∧ w.heap.size ≤ b ∧ Below w.heap.size w w'
def greatE (n1 n2 n3 nr : Nat) : Bool := decide (20 < n1) || decide (20 < n2) || decide (20 < n3) || decide (55 < nr)
end Go.Pol
namespace Go.Proofs.Ytdepkmpilipolaa
open Go Go.Proofs Go.RowKit Go.Pol Go.Shelf
attribute [local go_sem] Oper.semAt_some Go.Pol.wide_fn Go.Pol.wide_depth Go.Pol.wide_fn' Go.Pol.wide_depth'

set_option maxRecDepth 100000 in
set_option maxHeartbeats 3200000 in
theorem sys11_any (A1 A2 A3 Ar : Option Addr) (n1 c1 n2 c2 n3 c3 nr cr : Nat) (rs cs gs : List (Int × Int)) (l : List Ru) (w : World)
    (h1 : rs.length = n1) (h2 : cs.length = n2) (h3 : gs.length = n3) (hl : l.length = nr) (hm : (n1 ≤ 1000 ∧ n2 ≤ 1000 ∧ n3 ≤ 1000) ∧ nr ≤ 1000) (hz : Ar = none → cr = 0)
    (r1 : RU w w.heap.size A1 rs) (r2 : RU w w.heap.size A2 cs) (r3 : RU w w.heap.size A3 gs) (rr : Rd w w.heap.size Ar (fl ruC l)) :
    Calls Try.prog 6 #[.agg #[.slice A1 n1 c1, .slice A2 n2 c2, .slice A3 n3 c3, .slice Ar nr cr]] w (SysOE (sysE rs cs gs l) (chkR l).2 w) := by
  obtain ⟨⟨hm1, hm2, hm3⟩, hm6⟩ := hm
  obtain ⟨P, hP⟩ : ∃ P, sysE rs cs gs l = P := ⟨_, rfl⟩
  rw [hP]
  have hP' : Hid (planF (gs.foldl guaS (cs.foldl comS (rs.foldl resS newVm))) l = P) := Lib.hid hP
  clear hP
  have HN := Lib.hid (fun W => new_any W)
  have hb0 := (Below.refl w.heap.size w).alloc (Nat.le_refl _) (.cells #[.slice A1 n1 c1, .slice A2 n2 c2, .slice A3 n3 c3, .slice Ar nr cr] 27)
  have k0 := Blk.new w 27 #[.slice A1 n1 c1, .slice A2 n2 c2, .slice A3 n3 c3, .slice Ar nr cr]
  obtain ⟨s, hs0⟩ : ∃ s, w.heap.size = s := ⟨_, rfl⟩
  have hsz0 : (w.alloc (.cells #[.slice A1 n1 c1, .slice A2 n2 c2, .slice A3 n3 c3, .slice Ar nr cr] 27)).heap.size = s + 1 := by rw [World.size_alloc, hs0]
  have r10 := Lib.hid (r1.below hb0)
  have r20 := Lib.hid (r2.below hb0)
  have r30 := Lib.hid (r3.below hb0)
  have rr0 := Lib.hid (rr.below hb0)
  have hGd : Hid (∀ _ : Nat, True) := Lib.hid (fun _ => trivial)
  rw [hs0] at k0 hb0 r10 r20 r30 rr0
  clear r1 r2 r3 rr
  go_enter Try.func6, Try.ntmps6
  go_upto_region 1 with fail
  generalize w.alloc _ = w0 at *
  go_wp2_with fail
  unfold NewO at HN
  refine (HN.out w0).mono ?_
  rintro e w1 ⟨b, rfl, V1, hbb, hb1⟩
  rw [hsz0] at hb1 hbb
  have hV0 := Lib.hid V1
  have hB0 := hb1
  clear V1 hb1 HN
  go_wp2_with fail
  go_loopw [6] (fun u wr => ∃ k : Nat, k ≤ n1 ∧ u = .int .i64 k ∧ Below (s + 1) w0 wr ∧ Hid (SysIs wr b ((rs.take k).foldl resS newVm))) (fun u _ => n1 - (intOf u).toNat)
  case atStart => exact ⟨0, by omega, rfl, hB0, by simpa using hV0⟩
  clear hV0 hB0
  obtain ⟨k, hk, rfl, hB, hV⟩ := hrel
  have kb := k0.below hB (by omega)
  have c0 := kb.cell
  by_cases hlt : k < n1
  case pos =>
    have hlt' : decide ((k : Int) < (n1 : Int)) = true := by simpa using hlt
    have hstep : (rs.take (k + 1)).foldl resS newVm = resS ((rs.take k).foldl resS newVm) (rs.getD k (0, 0)) := by
      rw [z_take (0, 0) rs (by omega), List.foldl_append]
      rfl
    have hstep' := Lib.hid hstep
    obtain ⟨ub, uo, rfl, hub, hc, hd⟩ := (r10.out.below (hB.mono (by omega))).at_' (k := k) (by omega)
    generalize rs.getD k (0, 0) = x at *
    generalize (rs.take k).foldl resS newVm = V at *
    obtain ⟨xa, xn⟩ := x
    simp only at hc hd
    have e0 := fun x : Ext wr => (x.blk kb).cell
    have e1 := fun x : Ext wr => x.cell hc
    have e2 := fun x : Ext wr => x.cell hd
    clear hstep hc hd
    go_upto_region 7 with fail
    clear c0
    refine region_ext_tail 13 (by kernel_rfl) (by kernel_rfl) ?_
    simp only [List.take_succ_cons, List.take_zero, List.drop_succ_cons, List.drop_zero]
    repeat (go_big_quiet_step (fail))
    refine wpQuiet_nil ?_
    intro z
    go_wp2_with fail
    refine (reserve_any b xa xn V z.w (hV.out.call z.le)).mono ?_
    rintro e w2 ⟨rfl, V2, F2⟩
    have hB2 := (hB.trans (z.le.mono (by have := hB.size; omega))).trans (F2.below (by have := hB.size; have := z.le.size; omega) (fun k hk e => by omega))
    have V2' := Lib.hid V2
    clear e0 e1 e2 hV F2 V2
    go_wp2_with fail
    go_roundw
    case rel => exact ⟨k + 1, by omega, by go_num, hB2, Lib.hid (by rw [hstep'.out]; exact V2'.out)⟩
    case measure => simp [intOf]; omega
  obtain rfl : k = n1 := by omega
  have hlt' : decide ((k : Int) < (k : Int)) = false := by simp
  have hV2 : Hid (SysIs wr b (rs.foldl resS newVm)) := Lib.hid (by have := hV.out; rwa [show k = rs.length from (by omega), List.take_length] at this)
  generalize rs.foldl resS newVm = Va at *
  clear hV
  go_wp2_with fail
  clear hlt' c0 hlt
  have hB0 := hB
  have hV0 := hV2
  clear hB hV2 kb hk
  go_loopw [7] (fun u wr => ∃ k : Nat, k ≤ n2 ∧ u = .int .i64 k ∧ Below (s + 1) w0 wr ∧ Hid (SysIs wr b ((cs.take k).foldl comS Va))) (fun u _ => n2 - (intOf u).toNat)
  case atStart => exact ⟨0, by omega, rfl, hB0, by simpa using hV0⟩
  clear hV0 hB0
  obtain ⟨k, hk, rfl, hB, hV⟩ := hrel
  have kb := k0.below hB (by omega)
  have c0 := kb.cell
  by_cases hlt : k < n2
  case pos =>
    have hlt' : decide ((k : Int) < (n2 : Int)) = true := by simpa using hlt
    have hstep : (cs.take (k + 1)).foldl comS Va = comS ((cs.take k).foldl comS Va) (cs.getD k (0, 0)) := by
      rw [z_take (0, 0) cs (by omega), List.foldl_append]
      rfl
    have hstep' := Lib.hid hstep
    obtain ⟨ub, uo, rfl, hub, hc, hd⟩ := (r20.out.below (hB.mono (by omega))).at_' (k := k) (by omega)
    generalize cs.getD k (0, 0) = x at *
    generalize (cs.take k).foldl comS Va = V at *
    obtain ⟨xa, xn⟩ := x
    simp only at hc hd
    have e0 := fun x : Ext wr => (x.blk kb).cell
    have e1 := fun x : Ext wr => x.cell hc
    have e2 := fun x : Ext wr => x.cell hd
    clear hstep hc hd
    go_upto_region 11 with fail
    clear c0
    refine region_ext_tail 13 (by kernel_rfl) (by kernel_rfl) ?_
    simp only [List.take_succ_cons, List.take_zero, List.drop_succ_cons, List.drop_zero]
    repeat (go_big_quiet_step (fail))
    refine wpQuiet_nil ?_
    intro z
    go_wp2_with fail
    refine (commit_any b xa xn V z.w (hV.out.call z.le)).mono ?_
    rintro e w2 ⟨rfl, V2, F2⟩
    have hB2 := (hB.trans (z.le.mono (by have := hB.size; omega))).trans (F2.below (by have := hB.size; have := z.le.size; omega) (fun k hk e => by omega))
    have V2' := Lib.hid V2
    clear e0 e1 e2 hV F2 V2
    go_wp2_with fail
    go_roundw
    case rel => exact ⟨k + 1, by omega, by go_num, hB2, Lib.hid (by rw [hstep'.out]; exact V2'.out)⟩
    case measure => simp [intOf]; omega
  obtain rfl : k = n2 := by omega
  have hlt' : decide ((k : Int) < (k : Int)) = false := by simp
  have hV2 : Hid (SysIs wr b (cs.foldl comS Va)) := Lib.hid (by have := hV.out; rwa [show k = cs.length from (by omega), List.take_length] at this)
  generalize cs.foldl comS Va = Vb at *
  clear hV
  go_wp2_with fail
  clear hlt' c0 hlt
  have hB0 := hB
  have hV0 := hV2
  clear hB hV2 kb hk
  go_loopw [8] (fun u wr => ∃ k : Nat, k ≤ n3 ∧ u = .int .i64 k ∧ Below (s + 1) w0 wr ∧ Hid (SysIs wr b ((gs.take k).foldl guaS Vb))) (fun u _ => n3 - (intOf u).toNat)
  case atStart => exact ⟨0, by omega, rfl, hB0, by simpa using hV0⟩
  clear hV0 hB0
  obtain ⟨k, hk, rfl, hB, hV⟩ := hrel
  have kb := k0.below hB (by omega)
  have c0 := kb.cell
  by_cases hlt : k < n3
  case pos =>
    have hlt' : decide ((k : Int) < (n3 : Int)) = true := by simpa using hlt
    have hstep : (gs.take (k + 1)).foldl guaS Vb = guaS ((gs.take k).foldl guaS Vb) (gs.getD k (0, 0)) := by
      rw [z_take (0, 0) gs (by omega), List.foldl_append]
      rfl
    have hstep' := Lib.hid hstep
    obtain ⟨ub, uo, rfl, hub, hc, hd⟩ := (r30.out.below (hB.mono (by omega))).at_' (k := k) (by omega)
    generalize gs.getD k (0, 0) = x at *
    generalize (gs.take k).foldl guaS Vb = V at *
    obtain ⟨xa, xn⟩ := x
    simp only at hc hd
    have e0 := fun x : Ext wr => (x.blk kb).cell
    have e1 := fun x : Ext wr => x.cell hc
    have e2 := fun x : Ext wr => x.cell hd
    clear hstep hc hd
    go_upto_region 15 with fail
    clear c0
    refine region_ext_tail 13 (by kernel_rfl) (by kernel_rfl) ?_
    simp only [List.take_succ_cons, List.take_zero, List.drop_succ_cons, List.drop_zero]
    repeat (go_big_quiet_step (fail))
    refine wpQuiet_nil ?_
    intro z
    go_wp2_with fail
    refine (guard_any b xa xn V z.w (hV.out.call z.le)).mono ?_
    rintro e w2 ⟨rfl, V2, F2⟩
    have hB2 := (hB.trans (z.le.mono (by have := hB.size; omega))).trans (F2.below (by have := hB.size; have := z.le.size; omega) (fun k hk e => by omega))
    have V2' := Lib.hid V2
    clear e0 e1 e2 hV F2 V2
    go_wp2_with fail
    go_roundw
    case rel => exact ⟨k + 1, by omega, by go_num, hB2, Lib.hid (by rw [hstep'.out]; exact V2'.out)⟩
    case measure => simp [intOf]; omega
  obtain rfl : k = n3 := by omega
  have hlt' : decide ((k : Int) < (k : Int)) = false := by simp
  have hV2 : Hid (SysIs wr b (gs.foldl guaS Vb)) := Lib.hid (by have := hV.out; rwa [show k = gs.length from (by omega), List.take_length] at this)
  generalize gs.foldl guaS Vb = Vc at *
  clear hV
  go_wp2_with fail
  clear hlt' c0 hlt
  have hB0 := hB
  have hV0 := hV2
  clear hB hV2 kb hk
  have HP := Lib.hid (plan_any b Ar nr cr l _ wr hV0.out hl (by omega) hz ((rr0.out.below (hB0.mono (by omega))).more (by have := hB0.size; omega)))
  go_wp2_with fail
  refine HP.out.mono ?_
  rintro e w2 ⟨rfl, V2, F2⟩
  have hB2 := hb0.trans ((hB0.trans (F2.below (by have := hB0.size; omega) (fun k hk e => by omega))).mono (by omega))
  have V2' := Lib.hid V2
  clear HP hV0 F2 V2 hB0
  go_wp2_with fail
  go_ret2
  exact ⟨b, rfl, by rw [← hP'.out]; exact V2'.out, by omega, by rw [hs0]; exact hB2⟩
set_option maxHeartbeats 800000 in
theorem great11_any (A1 A2 A3 Ar : Option Addr) (n1 c1 n2 c2 n3 c3 nr cr : Nat) (w : World) :
    Calls Try.prog 4 #[.agg #[.slice A1 n1 c1, .slice A2 n2 c2, .slice A3 n3 c3, .slice Ar nr cr]] w fun e w' => e = .returned (.bool (greatE n1 n2 n3 nr)) ∧ Below w.heap.size w w' := by
  have hb0 := (Below.refl w.heap.size w).alloc (Nat.le_refl _) (.cells #[.slice A1 n1 c1, .slice A2 n2 c2, .slice A3 n3 c3, .slice Ar nr cr] 27)
  have hG := Lib.hid (show greatE n1 n2 n3 nr = (decide (20 < n1) || decide (20 < n2) || decide (20 < n3) || decide (55 < nr)) from rfl)
  generalize greatE n1 n2 n3 nr = R at *
  by_cases h1 : 20 < n1
  · have d1 : decide ((20 : Int) < (n1 : Int)) = true := by rw [decide_eq_true_eq]; omega
    have hR : Hid (true = R) := Lib.hid (by rw [hG.out, decide_eq_true h1]; simp)
    clear h1
    go_enter Try.func4, Try.ntmps4
    go_wp2_with fail
    go_ret
    exact ⟨z_ret_bool hR.out, hb0⟩
  have d1 : decide ((20 : Int) < (n1 : Int)) = false := by rw [decide_eq_false_iff_not]; omega
  by_cases h2 : 20 < n2
  · have d2 : decide ((20 : Int) < (n2 : Int)) = true := by rw [decide_eq_true_eq]; omega
    have hR : Hid (true = R) := Lib.hid (by rw [hG.out, decide_eq_true h2]; simp)
    clear h1 h2
    go_enter Try.func4, Try.ntmps4
    go_wp2_with fail
    go_ret
    exact ⟨z_ret_bool hR.out, hb0⟩
  have d2 : decide ((20 : Int) < (n2 : Int)) = false := by rw [decide_eq_false_iff_not]; omega
  by_cases h3 : 20 < n3
  · have d3 : decide ((20 : Int) < (n3 : Int)) = true := by rw [decide_eq_true_eq]; omega
    have hR : Hid (true = R) := Lib.hid (by rw [hG.out, decide_eq_true h3]; simp)
    clear h1 h2 h3
    go_enter Try.func4, Try.ntmps4
    go_wp2_with fail
    go_ret
    exact ⟨z_ret_bool hR.out, hb0⟩
  have d3 : decide ((20 : Int) < (n3 : Int)) = false := by rw [decide_eq_false_iff_not]; omega
  by_cases h6 : 55 < nr
  · have d6 : decide ((55 : Int) < (nr : Int)) = true := by rw [decide_eq_true_eq]; omega
    have hR : Hid (true = R) := Lib.hid (by rw [hG.out, decide_eq_true h6]; simp)
    clear h1 h2 h3 h6
    go_enter Try.func4, Try.ntmps4
    go_wp2_with fail
    go_ret
    exact ⟨z_ret_bool hR.out, hb0⟩
  have d6 : decide ((55 : Int) < (nr : Int)) = false := by rw [decide_eq_false_iff_not]; omega
  have hR : Hid (false = R) := Lib.hid (by rw [hG.out, decide_eq_false h1, decide_eq_false h2, decide_eq_false h3, decide_eq_false h6]; rfl)
  clear h1 h2 h3 h6
  go_enter Try.func4, Try.ntmps4
  go_wp2_with fail
  go_ret
  exact ⟨z_ret_bool hR.out, hb0⟩
end Go.Proofs.Ytdepkmpilipolaa
namespace Go.Pol
open Go Go.RowKit
/-- the cells of the reference's system -/
structure RefC (cs : Array Value) (v : Value) (V : Vm) : Prop where
  size : cs.size = 66639
  kind : ∀ p, p < 1024 → cs[p]? = some (.int .i64 (V.pg p).kind)
  huge : ∀ p, p < 1024 → cs[1024 + p / 16]? = some (.bool (V.pg p).huge)
  byt : ∀ p, p < 1024 → ∀ k, k < 64 → cs[1088 + p * 64 + k]? = some (.int .u8 ((V.pg p).byt k))
  rf : ∀ i, i < 15 → cs[66624 + i]? = (rfC v V.rf.calls V.rf.hits)[i]?
/-- a page's kind put anew, and its bytes -/
theorem RefC.put {cs : Array Value} {v : Value} {V : Vm} (h : RefC cs v V) {p : Nat} (hp : p < 1024) (hh : (V.pg p).huge = false) (tk : Int) :
    RefC (putA (cs.setIfInBounds p (.int .i64 tk)) (1088 + p * 64) (List.replicate 64 (.int .u8 0))) v (V.setP p (newPg tk)) := by
  have hs := h.size
  have hl : (List.replicate 64 (Value.int .u8 0)).length = 64 := by simp
  have hg := putA_get (List.replicate 64 (Value.int .u8 0)) (cs.setIfInBounds p (.int .i64 tk)) (1088 + p * 64) (by rw [hl, Array.size_setIfInBounds]; omega)
  have hg2 : ∀ i, (cs.setIfInBounds p (.int .i64 tk))[i]? = if p = i then some (.int .i64 tk) else cs[i]? := fun i => by
    rw [Array.getElem?_setIfInBounds]
    by_cases e : p = i
    · subst e; rw [if_pos rfl, if_pos rfl, if_pos (by omega)]
    · rw [if_neg e, if_neg e]
  have hpg : ∀ q, (V.setP p (newPg tk)).pg q = if q = p then newPg tk else V.pg q := fun q => rfl
  refine ⟨by rw [putA_size, Array.size_setIfInBounds]; exact hs, fun q hq => ?_, fun q hq => ?_, fun q hq k hk => ?_, fun i hi => ?_⟩
  · rw [hg, if_neg (by omega), hg2, hpg]
    by_cases e : q = p
    · subst e; rw [if_pos rfl, if_pos rfl]; rfl
    · rw [if_neg (fun h => e h.symm), if_neg e]; exact h.kind q hq
  · rw [hg, if_neg (by omega), hg2, if_neg (by omega), h.huge q hq, hpg]
    by_cases e : q = p
    · subst e; rw [if_pos rfl, hh]; rfl
    · rw [if_neg e]
  · rw [hg, hl, hpg]
    by_cases e : q = p
    · subst e
      rw [if_pos (by omega), if_pos rfl, List.getElem?_replicate, if_pos (by omega)]; rfl
    · rw [if_neg (by omega), hg2, if_neg (by omega), if_neg e]; exact h.byt q hq k hk
  · rw [hg, if_neg (by rw [hl]; omega), hg2, if_neg (by omega)]; exact h.rf i hi
theorem RefC.putRf {cs : Array Value} {v : Value} {V : Vm} (h : RefC cs v V) (u : Value) (S : Rf) : RefC (putA cs 66624 (rfC u S.calls S.hits)) u { V with rf := S } := by
  have hs := h.size
  have hl : (rfC u S.calls S.hits).length = 15 := rfl
  have hg := putA_get (rfC u S.calls S.hits) cs 66624 (by rw [hl]; omega)
  refine ⟨by rw [putA_size]; exact hs, fun q hq => ?_, fun q hq => ?_, fun q hq k hk => ?_, fun i hi => ?_⟩
  · rw [hg, if_neg (by omega)]; exact h.kind q hq
  · rw [hg, if_neg (by omega)]; exact h.huge q hq
  · rw [hg, if_neg (by omega)]; exact h.byt q hq k hk
  · rw [hg, if_pos (by omega), show 66624 + i - 66624 = i by omega]
/-! the zero cells -/
end Go.Pol
namespace Go.Pol
open Go Go.RowKit
/-- a run: its first page, its pages, their kind -/
abbrev Rn := Int × Int × Int
def rnC (x : Rn) : List Value := [.int .i64 x.1, .int .i64 x.2.1, .int .i64 x.2.2]
def bumpR (l : List Rn) : List Rn := match l.reverse with
  | [] => []
  | x :: r => r.reverse ++ [(x.1, x.2.1 + 1, x.2.2)]
/-- the runs of the first pages -/
def vrunsL (V : Vm) : Nat → List Rn
  | 0 => []
  | k + 1 => if (V.pg k).kind = 0 then vrunsL V k else if 0 < k ∧ (V.pg (k - 1)).kind = (V.pg k).kind then bumpR (vrunsL V k) else vrunsL V k ++ [((k : Int), 1, (V.pg k).kind)]
/-- the first pages of huge groups -/
def hugL (V : Vm) : Nat → List Int
  | 0 => []
  | k + 1 => if k % 16 = 0 ∧ (V.pg k).huge = true then hugL V k ++ [(k : Int)] else hugL V k
/-- does a page have a byte that is not zero? -/
def nzB (g : Pg) : Bool := (List.range 64).any fun k => g.byt k != 0
/-- the pages with bytes -/
def datL (V : Vm) : Nat → List Nat
  | 0 => []
  | k + 1 => if nzB (V.pg k) = true then datL V k ++ [k] else datL V k
def bytL (g : Pg) : List Value := (List.range 64).map fun k => .int .u8 (g.byt k)
def daC (V : Vm) (p : Nat) : List Value := .int .i64 p :: bytL (V.pg p)
end Go.Pol
namespace Go.Pol
open Go Go.RowKit
/-- the cells of a saved state -/
def stC (v1 v2 v3 v4 : Value) (cs hs : Nat → Int) : List Value := v1 :: v2 :: v3 :: rfC v4 cs hs
end Go.Pol
namespace Go.Proofs.Ytdepkmpilipolaa
open Go Go.Proofs Go.RowKit Go.Pol Go.Shelf
attribute [local go_sem] Oper.semAt_some Go.Pol.wide_fn Go.Pol.wide_depth Go.Pol.wide_fn' Go.Pol.wide_depth'

theorem runs_any (pg n f b ev : Int) (w : World) :
    Calls Try.prog 33 #[planV pg n f b ev] w fun e w' => e = .returned (.func (.func 49) #[] #[.pointer (some ⟨w.heap.size, 0, none⟩)]) ∧ w' = w.alloc (.cells (planC pg n f b ev) 31) := by
  go_enter Try.func33, Try.ntmps33
  go_wp2
  go_ret
  exact ⟨rfl, rfl⟩
theorem common_any (A1 A2 : Option Addr) (n1 c1 n2 c2 : Nat) (w : World) :
    Calls Try.prog 62 #[.slice A1 n1 c1, .slice A2 n2 c2] w fun e w' => e = .returned (.func (.func 68) #[] #[.pointer (some ⟨w.heap.size, 0, none⟩), .pointer (some ⟨w.heap.size + 1, 0, none⟩)]) ∧
      w' = (w.alloc (.cells #[.slice A1 n1 c1] 22)).alloc (.cells #[.slice A2 n2 c2] 22) := by
  go_enter Try.func62, Try.ntmps62
  go_wp2
  go_ret
  exact ⟨rfl, rfl⟩

theorem infoSp : (Try.prog.info? 56).map (fun i => (i.zero, i.size, i.bytes)) = some (some (.agg #[.int .i64 0, .int .i64 0]), 2, 16) := by kernel_rfl
theorem infoSp_parts : ∃ i0, Try.prog.info? 56 = some i0 ∧ i0.zero = some (.agg #[.int .i64 0, .int .i64 0]) ∧ i0.size = 2 ∧ i0.bytes = 16 := by
  obtain ⟨i0, h⟩ := info_parts infoSp
  exact ⟨i0, h⟩

set_option maxRecDepth 100000 in
set_option maxHeartbeats 1600000 in
theorem appendSeq_any (g : Nat) (lb : Array Value) (T K : Nat → Prop) (xs : List Sp) (w : World) (hxs : xs.length ≤ 1000000)
    (hseq : SeqF Try.prog g lb spV T K xs w) (eg : ∀ args w, (callFunc g args).run Try.prog w = .ok (.enter g args) w) (hT : ∀ k, T k → k < w.heap.size) (hK : ∀ k, K k → k < w.heap.size) :
    Calls Try.prog 48 #[.slice none 0 0, .func (.func g) #[] lb] w fun e w' => ∃ v, e = .returned v ∧ w'.ownsRow w.heap.size 56 2 v xs.length (spCells xs) ∧ (v = .slice none 0 0 ↔ xs = []) ∧ Far T w w' := by
  obtain ⟨i0, hi, hz0, hz1, hz2⟩ := infoSp_parts
  refine calls_of_marks Try.func48 rfl ?_
  simp only [Try.ntmps48, List.size_toArray, List.length_cons, List.length_nil, Nat.reduceAdd, Nat.reduceSub, Array.replicate_succ, Array.replicate_zero, List.push_toArray, List.append_toArray, List.nil_append, List.cons_append]
  go_wp2_with fail
  obtain ⟨W0, hW0⟩ : ∃ W0, w.alloc (.cells #[.slice none 0 0] 22) = W0 := ⟨_, rfl⟩
  have hs0 : W0.heap.size = w.heap.size + 1 := by rw [← hW0]; simp
  have kB : Blk W0 w.heap.size 22 #[.slice none 0 0] := by rw [← hW0]; exact Blk.new _ _ _
  have hF0 : Far (fun _ => False) w W0 := by rw [← hW0]; exact (Far.refl _ w).alloc _
  rw [hW0]
  clear hW0
  refine rangeF (gf := g) (lb := lb) rfl eg (hseq.later (hF0.mono fun _ _ h => h.elim)) (fun _ => rfl) (fun k h => by have := hT k h; omega) (fun k h => by have := hK k h; omega)
    (fun pre W => BoxS W w.heap.size 22 56 (W0.heap.size + 2) pre ∧ Far T w W) (fun _ _ _ => False)
    (fun pre A B h hf => ⟨h.1.far hf (fun h => by rcases h with h | h | h; have := hT _ h; omega; omega; omega) (fun g hg h => by rcases h with h | h | h; have := hT _ h; omega; omega; omega), h.2.trans' hf (fun i hi h => by rcases h with h | h | h; exact h; omega; omega)⟩)
    (fun _ _ _ _ h _ => h.elim) ⟨⟨_, kB, World.ownsRow_nil _ _ _ _, by simp⟩, hF0.mono fun _ _ h => h.elim⟩
    (fun _ x a' W => ∃ Bx, W0.heap.size + 2 ≤ Bx ∧ Blk W Bx 56 #[.int .i64 x.1, .int .i64 x.2] ∧ a' = { tmps := #[.slice none 0 0, .func (.func g) #[] lb, .pointer (some ⟨w.heap.size, 0, none⟩), undef, .slice none 0 0, .pointer (some ⟨Bx, 0, none⟩), .func (.func g) #[] lb, .agg #[.int .i64 x.1, .int .i64 x.2], undef, undef, undef, undef, undef], defers := [] })
    (fun _ x a' A B ⟨Bx, h1, h2, h3⟩ hf => ⟨Bx, h1, hf.blk h2 (by omega), h3⟩) ?assign ?body ?done ?stop
  case assign =>
    intro m l x W C hs hC
    gi_wp2
    exact hC _ _ ((Far.refl _ W).alloc _) ⟨W.heap.size, hs, Blk.new _ _ _, rfl⟩
  case body =>
    rintro m l pre x a' _ W hs ⟨hbox, hF⟩ ⟨Bx, hBx, kx, rfl⟩ hpre _ _
    obtain ⟨v, hv, hrow, hnil⟩ := hbox.ex
    have cx := kx.cell
    have cv := hv.cell
    have fv := hv.frozen
    have hlen : pre.length + 1 ≤ xs.length := by have := hpre.length_le; simpa using this
    have kN := Blk.new W 56 #[.int .i64 x.1, .int .i64 x.2]
    gi_wp2_with (gi_at_builtin; refine wpListIn_append_own _ rfl (.tmp 8) (.tmp 10) 22 rfl (W0.heap.size + 2) 56 i0 (.agg #[.int .i64 0, .int .i64 0]) 2 16 Try.underlying22 hi hz0 hz1 hz2 rfl (by decide) v pre.length (spCells pre) rfl (hrow.alloc _) ⟨W.heap.size, 0, none⟩ 1 1 [.int .i64 x.1, .int .i64 x.2] rfl rfl (news_two kN) news_one2 (by unfold maxLen; omega) (by omega) (by simp; omega) ?_; intro v' w1 hown' hgrow _; rw [← spCells_snoc] at hown'; obtain ⟨hv1, hb2, hf2⟩ := BoxS.appended hv (by decide) hrow hown' (by simp) (by simp) hgrow; obtain ⟨A', cap', rfl⟩ := own_nil_iff hown' (by simp); have cv1 := hv1.cell; have fv1 := hv1.frozen)
    exact ⟨hf2 _ (by rintro (h | h | h); have := hK _ h; omega; omega; omega) (fun g hg => by have := (hrow.lt g hg).1; rintro (h | h | h); have := hK _ h; omega; omega; omega), hb2, hF.trans' (hf2 (fun k => w.heap.size ≤ k) (Nat.le_refl _) (fun g hg => by have := (hrow.lt g hg).1; omega)) (fun i hi h => by omega)⟩
  case done =>
    rintro W hs ⟨hbox, hF⟩ hd
    obtain ⟨v, hv, hrow, hnil⟩ := hbox.ex
    have cv := hv.cell
    obtain ⟨A', cap', rfl⟩ := own_nil_iff hrow rfl
    go_wp2_with fail
    have hfp : Far (fun k => k = W0.heap.size) W (W.putObj W0.heap.size (.deferred none)) := Far.putObj (T := fun k => k = W0.heap.size) (Far.refl _ _) (fun _ => rfl) _
    exact leave_mark (v := .slice A' xs.length cap') hd (by simp [results, Try.results48, go_sem]) ⟨_, rfl, ownsRow_base (ownsRow_far hrow hfp (fun g hg h => by have := (hrow.lt g hg).1; omega)) (by omega), hnil, hF.putObj (fun h => absurd h (by omega)) _⟩
  case stop => exact fun _ _ _ _ _ h _ => h.elim
theorem collect_any (g : Nat) (lb : Array Value) (T K : Nat → Prop) (xs : List Sp) (w : World) (hxs : xs.length ≤ 1000000)
    (hseq : SeqF Try.prog g lb spV T K xs w) (eg : ∀ args w, (callFunc g args).run Try.prog w = .ok (.enter g args) w) (hT : ∀ k, T k → k < w.heap.size) (hK : ∀ k, K k → k < w.heap.size) :
    Calls Try.prog 32 #[.func (.func g) #[] lb] w fun e w' => ∃ v, e = .returned v ∧ w'.ownsRow w.heap.size 56 2 v xs.length (spCells xs) ∧ (v = .slice none 0 0 ↔ xs = []) ∧ Far T w w' := by
  have HA := Lib.hid (appendSeq_any g lb T K xs w hxs hseq eg hT hK)
  go_enter Try.func32, Try.ntmps32
  go_wp2_with (go_at_call 48; refine (HA.out).mono ?_; rintro e w1 ⟨v, rfl, hown, hnil, hf⟩)
  go_ret
  exact ⟨v, rfl, hown, hnil, hf⟩

theorem runsF_len (size en : Int) : ∀ (k : Nat) (a : Int), (runsF size en k a).length ≤ k
  | 0, _ => by simp [runsF]
  | k + 1, a => by
    have := runsF_len size en k (a + size + 1)
    rw [runsF]; split
    · simp; omega
    · simp
theorem runsL_len {pg n f b ev : Int} (_ : PlanOk pg n f b ev) : (runsL pg n f b ev).length ≤ 1000000 := by
  have := runsF_len (if ev = 0 then 1024 else ev) (pg + n - b) 1025 (pg + f)
  unfold runsL; omega
theorem runs_enters : ∀ args w, (callFunc 49 args).run Try.prog w = .ok (.enter 49 args) w := enters_of Try.func49 (by kernel_rfl) rfl
theorem common_enters : ∀ args w, (callFunc 68 args).run Try.prog w = .ok (.enter 68 args) w := enters_of Try.func68 (by kernel_rfl) rfl

/-- what hands back a slice of spans and an error -/
def SpansR (w : World) (us : List Sp) (er : Int) (e : Ending) (w' : World) : Prop :=
  ∃ (A : Option Addr) (cap : Nat), e = .returned (.tuple #[.slice A us.length cap, .int .i64 er]) ∧ RU w' w'.heap.size A us ∧ us.length ≤ cap ∧ cap ≤ maxLen ∧ (∀ b o, A = some ⟨b, o, none⟩ → w.heap.size ≤ b) ∧ Below w.heap.size w w'

set_option maxHeartbeats 400000 in
theorem usable_any (pg n f b ev : Int) (w : World) :
    Calls Try.prog 15 #[planV pg n f b ev] w (SpansR w (if chkG pg n f b ev = 0 then runsL pg n f b ev else []) (chkG pg n f b ev)) := by
  have HC := Lib.hid (fun W => gcheck_any pg n f b ev W)
  have hb0 := (Below.refl w.heap.size w).alloc (Nat.le_refl _) (.cells (planC pg n f b ev) 31)
  have k0 := Blk.new w 31 (planC pg n f b ev)
  have c0 := k0.cell
  by_cases hc : chkG pg n f b ev = 0
  · have hp := chkG_zero.1 hc
    rw [hc] at HC ⊢
    rw [if_pos rfl]
    have HR := Lib.hid (fun W => runs_any pg n f b ev W)
    go_enter Try.func15, Try.ntmps15
    go_wp2_with (first
      | (go_at_call 31; refine (HC.out _).mono ?_; rintro e w1 ⟨rfl, hq⟩; have k1 := k0.call hq; have c1 := k1.cell; have hb1 := hb0.trans (hq.mono hb0.size))
      | (go_at_call 33; refine (HR.out _).mono ?_; rintro e w2 ⟨rfl, rfl⟩; have HS := Lib.hid (runs1_seq pg n f b ev w1.heap.size _ hp (Blk.new w1 31 (planC pg n f b ev))))
      | (go_at_call 32; refine (collect_any _ _ _ _ _ _ (runsL_len hp) HS.out runs_enters (fun _ h => h.elim) (fun k h => by subst h; simp)).mono ?_; rintro e w3 ⟨v, rfl, hown, _, hf⟩; obtain ⟨A, cap, rfl, hru, h1, h2, h3, _⟩ := own_RU hown rfl))
    have hb2 := hb1.alloc hb1.size (.cells (planC pg n f b ev) 31)
    have hb3 := hf.below (n := w.heap.size) (Nat.le_trans hb1.size (by simp)) (fun _ _ h => h)
    go_ret2
    exact ⟨A, cap, rfl, hru, h1, h2, fun b o e => by have := h3 b o e; simp at this; have := hb1.size; omega, hb2.trans hb3⟩
  · rw [if_neg hc]
    generalize chkG pg n f b ev = er at *
    have hc' : (er != 0) = true := by simpa using hc
    clear hc
    go_enter Try.func15, Try.ntmps15
    go_wp2_with (go_at_call 31; refine (HC.out _).mono ?_; rintro e w1 ⟨rfl, hq⟩; have k1 := k0.call hq; have c1 := k1.cell; have hb1 := hb0.trans (hq.mono hb0.size))
    go_ret2
    exact ⟨none, 0, rfl, RU.nil, by simp, by unfold maxLen; omega, fun b o e => (by cases e), hb1⟩
end Go.Proofs.Ytdepkmpilipolaa
namespace Go.Pol
open Go Go.RowKit
/-- an array of marks reads as a function -/
structure MarksAre (cs : Array Value) (f : Nat → Bool) : Prop where
  size : cs.size = 1024
  at_ : ∀ k, k < 1024 → cs[k]? = some (.bool (f k))
end Go.Pol
namespace Go.Pol
open Go
theorem runsF_ok (sz en : Int) (hsz : 1 ≤ sz) : ∀ (k : Nat) (a : Int), en - a < k →
    (∀ x ∈ runsF sz en k a, a ≤ x.1 ∧ 1 ≤ x.2 ∧ x.1 + x.2 ≤ en) ∧ formOk (a - 1) (runsF sz en k a) = true ∧ (∀ q : Int, mem q (runsF sz en k a) = true ↔ (a ≤ q ∧ q < en) ∧ (q - a + 1) % (sz + 1) ≠ 0)
  | 0, a, h => ⟨by simp [runsF], rfl, fun q => by simp [runsF, mem_nil]; omega⟩
  | k + 1, a, h => by
    rw [runsF]
    by_cases hlt : a < en
    · rw [if_pos hlt]
      obtain ⟨h1, h2, h3⟩ := runsF_ok sz en hsz k (a + sz + 1) (by omega)
      refine ⟨fun x hx => ?_, ?_, fun q => ?_⟩
      · rcases List.mem_cons.1 hx with rfl | hx
        · simp only; omega
        · have := h1 x hx; omega
      · rw [formOk_cons]
        exact ⟨by simp only; omega, formOk_le h2 (by simp only; omega)⟩
      · rw [mem_cons', h3 q]
        simp only
        have e : (q - (a + sz + 1) + 1) % (sz + 1) = (q - a + 1) % (sz + 1) := by
          rw [show q - a + 1 = (q - (a + sz + 1) + 1) + (sz + 1) by omega, Int.add_emod_right]
        rw [e]
        by_cases hq : q < a
        · constructor
          · rintro (h | ⟨h, _⟩) <;> omega
          · rintro ⟨h, _⟩; omega
        by_cases hq2 : q < a + sz
        · have em : (q - a + 1) % (sz + 1) = q - a + 1 := Int.emod_eq_of_lt (by omega) (by omega)
          rw [em]; omega
        by_cases hq3 : q = a + sz
        · have em : (q - a + 1) % (sz + 1) = 0 := by rw [hq3, show a + sz - a + 1 = sz + 1 by omega, Int.emod_self]
          rw [em]; omega
        · constructor
          · rintro (h | ⟨h, h'⟩)
            · omega
            · exact ⟨by omega, h'⟩
          · rintro ⟨h, h'⟩; exact .inr ⟨by omega, h'⟩
    · rw [if_neg hlt]
      exact ⟨by simp, rfl, fun q => by simp [mem_nil]; omega⟩
section
variable {pg n f b ev : Int}
theorem runsL_ok (hp : PlanOk pg n f b ev) : (∀ x ∈ runsL pg n f b ev, pg + f ≤ x.1 ∧ 1 ≤ x.2 ∧ x.1 + x.2 ≤ pg + n - b) ∧ formOk (pg + f - 1) (runsL pg n f b ev) = true ∧
    (∀ q : Int, mem q (runsL pg n f b ev) = true ↔ (pg + f ≤ q ∧ q < pg + n - b) ∧ (q - (pg + f) + 1) % ((if ev = 0 then 1024 else ev) + 1) ≠ 0) := by
  have h := runsF_ok (if ev = 0 then 1024 else ev) (pg + n - b) (by have := hp.e0; split <;> omega) 1025 (pg + f) (by have := hp.n1; have := hp.pg0; have := hp.f0; have := hp.b0; omega)
  exact h
theorem runsL_can (hp : PlanOk pg n f b ev) : Go.Pol.Can (runsL pg n f b ev) := by
  obtain ⟨h1, h2, _⟩ := runsL_ok hp
  have a1 := hp.pg0; have a2 := hp.n1; have a3 := hp.f0; have a4 := hp.b0
  refine ⟨fun x hx => ?_, formOk_le h2 (by omega)⟩
  have := h1 x hx
  rw [vld_iff]; omega
end

def sumS (l : List Sp) : Int := (l.map (·.2)).sum
theorem sumS_snoc (l : List Sp) (x : Sp) : sumS (l ++ [x]) = sumS l + x.2 := by simp [sumS]
theorem sumS_bound : ∀ (l : List Sp), (∀ x ∈ l, vld x = true) → 0 ≤ sumS l ∧ sumS l ≤ 1024 * l.length
  | [], _ => by simp [sumS]
  | x :: r, h => by
    have := sumS_bound r (fun y hy => h y (by simp [hy]))
    have hx := vld_iff.1 (h x (by simp))
    simp only [sumS, List.map_cons, List.sum_cons, List.length_cons] at this ⊢
    omega
/-- the usable page with a number -/
def nthF : List Sp → Int → Int × Int
  | [], _ => (0, 7)
  | x :: r, i => if i < 0 then (0, 7) else if i < x.2 then (x.1 + i, 0) else nthF r (i - x.2)
/-- the number of a usable page -/
def idxF (page : Int) : Int → List Sp → Int × Int
  | _, [] => (0, 4)
  | n, x :: r => if x.1 ≤ page ∧ page < x.1 + x.2 then (n + page - x.1, 0) else idxF page (n + x.2) r
/-- where the run with a page ends; the page itself if it is in none -/
def skipF (page : Int) : List Sp → Int
  | [] => page
  | x :: r => if x.1 ≤ page ∧ page < x.1 + x.2 then x.1 + x.2 else skipF page r
theorem nthF_step {L pre rest : List Sp} {i : Int} {x : Sp} (h : nthF L i = nthF (x :: rest) (i - sumS pre)) (h1 : ¬ i - sumS pre < 0) (h2 : ¬ i - sumS pre < x.2) : nthF L i = nthF rest (i - sumS (pre ++ [x])) := by
  rw [h, nthF, if_neg h1, if_neg h2, sumS_snoc]
  congr 1; omega
theorem idxF_step {L pre rest : List Sp} {page : Int} {x : Sp} (h : idxF page 0 L = idxF page (sumS pre) (x :: rest)) (h1 : ¬ (x.1 ≤ page ∧ page < x.1 + x.2)) : idxF page 0 L = idxF page (sumS (pre ++ [x])) rest := by
  rw [h, idxF, if_neg h1, sumS_snoc]
theorem skipF_step {L rest : List Sp} {page : Int} {x : Sp} (h : skipF page L = skipF page (x :: rest)) (h1 : ¬ (x.1 ≤ page ∧ page < x.1 + x.2)) : skipF page L = skipF page rest := by
  rw [h, skipF, if_neg h1]
theorem prefix_cons {α : Type} {pre xs : List α} {x : α} (h : pre ++ [x] <+: xs) : ∃ rest, xs = pre ++ x :: rest := by
  obtain ⟨rest, h⟩ := h
  exact ⟨rest, by rw [← h]; simp⟩
end Go.Pol
namespace Go.Pol
open Go Go.RowKit
theorem take_snoc (us : List Sp) (k : Nat) (hk : k < us.length) : us.take (k + 1) = us.take k ++ [us.getD k (0,0)] := by
  rw [List.take_add_one, List.getElem?_eq_getElem hk]
  simp [List.getD_eq_getElem?_getD, hk]
end Go.Pol
namespace Go.Pol
open Go Go.RowKit
/-- a saved state in memory: runs, huge groups, pages with bytes, refusals -/
structure VsIs (w : World) (S : Value) (V : Vm) : Prop where
  ex : ∃ (A1 A2 A3 A4 : Option Addr) (n1 c1 n2 c2 n3 c3 n4 c4 : Nat), S = .agg (stC (.slice A1 n1 c1) (.slice A2 n2 c2) (.slice A3 n3 c3) (.slice A4 n4 c4) V.rf.calls V.rf.hits).toArray ∧
    (vrunsL V 1024).length = n1 ∧ Rd w w.heap.size A1 (fl rnC (vrunsL V 1024)) ∧ (hugL V 1024).length = n2 ∧ RI w w.heap.size A2 (hugL V 1024) ∧ (datL V 1024).length = n3 ∧ Rd w w.heap.size A3 (fl (daC V) (datL V 1024)) ∧
    V.rf.rules.length = n4 ∧ Rd w w.heap.size A4 (fl ruC V.rf.rules)
theorem VsIs.on {w w' : World} {S : Value} {V : Vm} (h : VsIs w S V) (hb : Below w.heap.size w w') : VsIs w' S V := by
  obtain ⟨A1, A2, A3, A4, n1, c1, n2, c2, n3, c3, n4, c4, h0, h1, h2, h3, h4, h5, h6, h7, h8⟩ := h.ex
  exact ⟨A1, A2, A3, A4, n1, c1, n2, c2, n3, c3, n4, c4, h0, h1, h2.on_ hb, h3, RI.more (RI.below h4 hb) hb.size, h5, h6.on_ hb, h7, h8.on_ hb⟩
end Go.Pol
namespace Go.Pol
open Go Go.RowKit
/-- one round of 'gaps': what is out, and the next page -/
def gst (s : List Sp × Int) (x : Sp) : List Sp × Int := (if s.2 < x.1 then s.1 ++ [(s.2, x.1 - s.2)] else s.1, x.1 + x.2)
def gfold (n : Int) (l : List Sp) : List Sp × Int := l.foldl gst ([], n)
theorem gfold_snoc (n : Int) (l : List Sp) (x : Sp) : gfold n (l ++ [x]) = gst (gfold n l) x := by simp [gfold]
def gfin (s : List Sp × Int) (e : Int) : List Sp := s.1 ++ (if s.2 < e then [(s.2, e - s.2)] else [])
theorem gst_fold : ∀ (l : List Sp) (acc : List Sp) (n e : Int), gfin (l.foldl gst (acc, n)) e = acc ++ gapsL n e l
  | [], acc, n, e => rfl
  | x :: r, acc, n, e => by
    rw [List.foldl_cons, show gst (acc, n) x = (if n < x.1 then acc ++ [(n, x.1 - n)] else acc, x.1 + x.2) from rfl, gst_fold r, gapsL]
    split <;> simp
theorem gfold_gaps (l : List Sp) (n e : Int) : gfin (gfold n l) e = gapsL n e l := by
  rw [gfold, gst_fold, List.nil_append]
theorem gfold_next : ∀ (l : List Sp) (n : Int), 0 ≤ n ∧ n ≤ 1024 → (∀ x ∈ l, vld x = true) → 0 ≤ (gfold n l).2 ∧ (gfold n l).2 ≤ 1024 := by
  intro l n hn hv
  rcases List.eq_nil_or_concat l with rfl | ⟨r, x, rfl⟩
  · exact hn
  · rw [List.concat_eq_append, gfold_snoc]
    have := vld_iff.1 (hv x (by simp [List.concat_eq_append]))
    simp only [gst]; omega
theorem gfold_len : ∀ (l : List Sp) (acc : List Sp) (n : Int), (l.foldl gst (acc, n)).1.length ≤ acc.length + l.length
  | [], acc, n => by simp
  | x :: r, acc, n => by
    simp only [List.foldl_cons]
    refine Nat.le_trans (gfold_len r _ _) ?_
    show (if n < x.1 then acc ++ [(n, x.1 - n)] else acc).length + r.length ≤ _
    split <;> simp <;> omega
/-- a walk that cannot panic -/
def noPanic (Q : Exit → Act → World → Prop) (e : Exit) (a : Act) (w : World) : Prop := match e with | .panic _ => False | e => Q e a w
theorem noPanic_normal {Q : Exit → Act → World → Prop} {a : Act} {w : World} (h : Q .normal a w) : noPanic Q .normal a w := h
theorem wp_noPanic {P : Program} {c : Code} {Q : Exit → Act → World → Prop} {a : Act} {w : World} (h : c.wp P (noPanic Q) a w) : c.wp P Q a w :=
  (wpIn_wide (n := 0)).1 (wpIn_mono (wpIn_wide.2 h) fun e a w hq => by
    cases e with
    | panic c => exact hq.elim
    | _ => exact hq)
/-- what the region behind the loop of 'gaps' reads -/
def GapS (s : Nat) (p q nx : Int) (v : Value) (w : Go.World) : Prop :=
  w.cell? ⟨s, 0, none⟩ = some (.int .i64 p) ∧ w.cell? ⟨s, 1, none⟩ = some (.int .i64 q) ∧ w.cell? ⟨s + 2, 0, none⟩ = some (.int .i64 nx) ∧ w.cell? ⟨s + 1, 0, none⟩ = some v
theorem GapS.later {s : Nat} {p q nx : Int} {v : Value} {w w' : Go.World} {B : Nat} (h : GapS s p q nx v w) (hb : Below B w w') (hB : s + 2 < B) : GapS s p q nx v w' :=
  ⟨(hb.cell (p := ⟨s, 0, none⟩) (by show s < B; omega)).trans h.1, (hb.cell (p := ⟨s, 1, none⟩) (by show s < B; omega)).trans h.2.1, (hb.cell (p := ⟨s + 2, 0, none⟩) hB).trans h.2.2.1, (hb.cell (p := ⟨s + 1, 0, none⟩) (by show s + 1 < B; omega)).trans h.2.2.2⟩
theorem prefix_mem {α : Type} {pre xs : List α} (h : pre <+: xs) {x : α} (hx : x ∈ pre) : x ∈ xs := h.subset hx
end Go.Pol
namespace Go.Proofs.Ytdepkmpilipolaa
open Go Go.Proofs Go.RowKit Go.Pol Go.Shelf
attribute [local go_sem] Oper.semAt_some Go.Pol.wide_fn Go.Pol.wide_depth Go.Pol.wide_fn' Go.Pol.wide_depth'

set_option maxRecDepth 100000 in
set_option maxHeartbeats 1600000 in
theorem gaps_own (A : Option Addr) (n cap : Nat) (us : List Sp) (p q : Int) (w : World) (hn : us.length = n) (hm : n ≤ cap) (hc : cap ≤ maxLen) (hr : RU w w.heap.size A us) (hu : Go.Pol.Can us) (hv : vld (p, q) = true) :
    Calls Try.prog 46 #[.slice A n cap, .agg #[.int .i64 p, .int .i64 q]] w fun e w' => ∃ (A' : Option Addr) (cap' : Nat), e = .returned (.slice A' (gapsF us (p, q)).length cap') ∧ RU w' w'.heap.size A' (gapsF us (p, q)) ∧ (gapsF us (p, q)).length ≤ cap' ∧ cap' ≤ maxLen ∧ (∀ b o, A' = some ⟨b, o, none⟩ → w.heap.size ≤ b) ∧ Below w.heap.size w w' ∧ (A' = none → cap' = 0) := by
  obtain ⟨i0, hi, hz0, hz1, hz2⟩ := infoSp_parts
  obtain ⟨L, hL0⟩ : ∃ L, gapsF us (p, q) = L := ⟨_, rfl⟩
  rw [hL0]
  have hL := Lib.hid hL0
  clear hL0
  refine calls_of_marks Try.func46 rfl ?_
  simp only [Try.ntmps46, List.size_toArray, List.length_cons, List.length_nil, Nat.reduceAdd, Nat.reduceSub, Array.replicate_succ, Array.replicate_zero, List.push_toArray, List.append_toArray, List.nil_append, List.cons_append]
  go_wp2_with (go_at_call 62; refine (common_any _ _ _ _ _ _ _).mono ?_; rintro e w2 ⟨rfl, rfl⟩)
  obtain ⟨s, hs⟩ : ∃ s, w.heap.size = s := ⟨_, rfl⟩
  obtain ⟨W0, hW0⟩ : ∃ W0, (((((w.alloc (.cells #[.int .i64 p, .int .i64 q] 56)).alloc (.cells #[.slice none 0 0] 22)).alloc (.cells #[.int .i64 p] 3)).alloc (.cells #[.int .i64 p, .int .i64 q] 56)).alloc (.cells #[.slice A n cap] 22)).alloc (.cells #[.slice (some ⟨w.heap.size + 1 + 1 + 1, 0, none⟩) 1 1] 22) = W0 := ⟨_, rfl⟩
  have hs0 : W0.heap.size = s + 6 := by rw [← hW0, ← hs]; simp
  have kI : Blk W0 s 56 #[.int .i64 p, .int .i64 q] := by rw [← hW0, ← hs]; exact (((((Blk.new _ _ _).alloc _).alloc _).alloc _).alloc _).alloc _
  have kO : Blk W0 (s + 1) 22 #[.slice none 0 0] := by
    rw [← hW0, ← hs]; have := Blk.new (w.alloc (.cells #[.int .i64 p, .int .i64 q] 56)) 22 #[.slice none 0 0]
    rw [World.size_alloc] at this
    exact (((this.alloc _).alloc _).alloc _).alloc _
  have kN : Blk W0 (s + 2) 3 #[.int .i64 p] := by
    rw [← hW0, ← hs]; have := Blk.new ((w.alloc (.cells #[.int .i64 p, .int .i64 q] 56)).alloc (.cells #[.slice none 0 0] 22)) 3 #[.int .i64 p]
    simp only [World.size_alloc] at this
    exact ((this.alloc _).alloc _).alloc _
  have kS : Blk W0 (s + 3) 56 #[.int .i64 p, .int .i64 q] := by
    rw [← hW0, ← hs]; have := Blk.new (((w.alloc (.cells #[.int .i64 p, .int .i64 q] 56)).alloc (.cells #[.slice none 0 0] 22)).alloc (.cells #[.int .i64 p] 3)) 56 #[.int .i64 p, .int .i64 q]
    simp only [World.size_alloc] at this
    exact (this.alloc _).alloc _
  have kB1 : Blk W0 (s + 4) 22 #[.slice A n cap] := by
    rw [← hW0, ← hs]; have := Blk.new ((((w.alloc (.cells #[.int .i64 p, .int .i64 q] 56)).alloc (.cells #[.slice none 0 0] 22)).alloc (.cells #[.int .i64 p] 3)).alloc (.cells #[.int .i64 p, .int .i64 q] 56)) 22 #[.slice A n cap]
    simp only [World.size_alloc] at this
    exact this.alloc _
  have kB2 : Blk W0 (s + 5) 22 #[.slice (some ⟨s + 3, 0, none⟩) 1 1] := by
    rw [← hW0, ← hs]; have := Blk.new (((((w.alloc (.cells #[.int .i64 p, .int .i64 q] 56)).alloc (.cells #[.slice none 0 0] 22)).alloc (.cells #[.int .i64 p] 3)).alloc (.cells #[.int .i64 p, .int .i64 q] 56)).alloc (.cells #[.slice A n cap] 22)) 22 #[.slice (some ⟨w.heap.size + 1 + 1 + 1, 0, none⟩) 1 1]
    simp only [World.size_alloc] at this
    exact this
  have hB0 : Below s w W0 := by
    rw [← hW0, ← hs]
    exact ((((((Below.refl w.heap.size w).alloc (Nat.le_refl _) _).alloc (by simp) _).alloc (by simp; omega) _).alloc (by simp; omega) _).alloc (by simp; omega) _).alloc (by simp; omega) _
  simp only [hs] at hW0 hr ⊢
  simp only [Nat.add_assoc, Nat.reduceAdd] at hW0 ⊢
  rw [hW0]
  clear hW0
  have hxs : (commonF us [(p, q)]).length ≤ 512 := (hu.common (Can.one hv)).len
  have hvl := (hu.common (Can.one hv)).1
  have hp0 : 0 ≤ p ∧ p ≤ 1024 := by have := vld_iff.1 hv; simp only at this; omega
  have hseq := common1_seq A (some ⟨s + 3, 0, none⟩) n cap 1 1 us [(p, q)] (s + 4) (s + 5) (s + 6) (fun k => k < s ∨ k = s + 3 ∨ k = s + 4 ∨ k = s + 5) W0 (by omega) (by omega) (by omega) kB1 kB2
    ⟨hn, hm, hc, (hr.below hB0).more (by omega), fun h0 b o e => by
      obtain ⟨b', o', e', hb, _⟩ := hr 0 (by cases us; exact absurd rfl h0; simp)
      rw [e] at e'
      obtain ⟨rfl, rfl⟩ : b = b' ∧ o = o' := by simpa using e'
      exact ⟨.inl hb, by omega, by omega⟩, hu.1⟩
    ⟨rfl, Nat.le_refl _, by omega, (ru_blk1 kS).more (by omega), fun _ b o e => (by cases e; exact ⟨by omega, by omega, by omega⟩), by simpa using hv⟩
  refine rangeF (gf := 68) (lb := #[.pointer (some ⟨s + 4, 0, none⟩), .pointer (some ⟨s + 5, 0, none⟩)]) rfl common_enters hseq (fun _ => rfl) (fun k h => by omega) (fun k h => by omega)
    (fun pre W => BoxS W (s + 1) 22 56 (W0.heap.size + 2) (gfold p pre).1 ∧ Blk W (s + 2) 3 #[.int .i64 (gfold p pre).2] ∧ Blk W s 56 #[.int .i64 p, .int .i64 q] ∧ Below s w W) (fun _ _ _ => False)
    (fun pre A B h hf => ⟨h.1.far hf (by omega) (fun g hg => by omega), hf.blk h.2.1 (by omega), hf.blk h.2.2.1 (by omega), h.2.2.2.trans (hf.below (Nat.le_trans (by omega) h.2.2.2.size) (fun k hk => by omega))⟩)
    (fun _ _ _ _ h _ => h.elim) ⟨⟨_, kO, World.ownsRow_nil _ _ _ _, by simp [gfold]⟩, kN, kI, hB0⟩
    (fun N x a' W => ∃ Bx, N ≤ Bx ∧ W0.heap.size + 2 ≤ Bx ∧ Blk W Bx 56 #[.int .i64 x.1, .int .i64 x.2] ∧ a' = { tmps := #[.slice A n cap, .agg #[.int .i64 p, .int .i64 q], undef, .pointer (some ⟨s, 0, none⟩), .slice none 0 0, .pointer (some ⟨s + 1, 0, none⟩), .pointer (some ⟨s + 2, 0, none⟩), .pointer (some ⟨Bx, 0, none⟩), .pointer (some ⟨s, 0, none⟩), .int .i64 p, .slice A n cap, .agg #[.int .i64 p, .int .i64 q], .slice (some ⟨s + 3, 0, none⟩) 1 1, .func (.func 68) #[] #[.pointer (some ⟨s + 4, 0, none⟩), .pointer (some ⟨s + 5, 0, none⟩)], .agg #[.int .i64 x.1, .int .i64 x.2], undef, undef, undef, undef, undef, undef, undef, undef, undef, undef, undef, undef, undef, undef, undef, undef, undef, undef, undef, undef, undef, undef, undef, undef, undef, undef, undef, undef, undef], defers := [] })
    (fun N x a' A B ⟨Bx, h0, h1, h2, h3⟩ hf => ⟨Bx, h0, h1, hf.blk h2 (by omega), h3⟩) ?assign ?body ?done ?stop
  case assign =>
    intro m l x W C hs hC
    gi_wp2
    exact hC _ _ ((Far.refl _ W).alloc _) ⟨W.heap.size, Nat.le_refl _, hs, Blk.new _ _ _, rfl⟩
  case body =>
    rintro m l pre x a' Wa W hsz ⟨_, kN, kI, hB⟩ ⟨Bx, hBa, hBx, kx, rfl⟩ hpre ⟨hbox, _, _, _⟩ hfa
    have hvx := vld_iff.1 (hvl x (prefix_mem hpre (by simp)))
    have hnx := gfold_next pre p hp0 (fun y hy => hvl y (prefix_mem hpre (by simp [hy])))
    have hlen : pre.length + 1 ≤ 512 := by have := hpre.length_le; simp at this; omega
    have hol : (gfold p pre).1.length ≤ pre.length := by have := gfold_len pre [] p; simpa [gfold] using this
    have hgs := Lib.hid (gfold_snoc p pre x)
    generalize gfold p pre = st at *
    obtain ⟨out, nx⟩ := st
    obtain ⟨xa, xb⟩ := x
    dsimp only at hbox kN kx hvx hnx hol hgs ⊢
    obtain ⟨v, hv1, hrow, hnil⟩ := hbox.ex
    have hvx1 : v.ownBlock ≠ some Bx := fun e => by have := (hrow.lt _ e).2; omega
    have hvx2 : ∀ g, v.ownBlock = some g → W0.heap.size + 2 ≤ g := fun g e => (hrow.lt _ e).1
    replace hv1 := hfa.blk hv1 (by omega)
    replace hrow := ownsRow_far hrow hfa (fun g e => by have := hvx2 g e; omega)
    have cx := kx.cell
    have cv := hv1.cell
    have fv := hv1.frozen
    have cn := kN.cell
    have fn_ := kN.frozen
    have kW := Blk.new W 56 #[.int .i64 nx, .int .i64 (xa - nx)]
    by_cases hgt : nx < xa
    · have hgt' : decide (nx < xa) = true := by simpa using hgt
      have hG : Hid (gfold p (pre ++ [(xa, xb)]) = (out ++ [(nx, xa - nx)], xa + xb)) := Lib.hid (by rw [hgs.out, gst, if_pos hgt])
      clear hgs hgt
      gi_wp2_with (first
        | (gi_at_builtin; refine wpListIn_append_own _ rfl (.tmp 19) (.tmp 26) 22 rfl (W0.heap.size + 2) 56 i0 (.agg #[.int .i64 0, .int .i64 0]) 2 16 Try.underlying22 hi hz0 hz1 hz2 rfl (by decide) v out.length (spCells out) rfl (hrow.alloc _) ⟨W.heap.size, 0, none⟩ 1 1 [.int .i64 nx, .int .i64 (xa - nx)] rfl rfl (news_two kW) news_one2 (by unfold maxLen; omega) (by omega) (by simp; omega) ?_; intro v' w1 hown' hgrow _; rw [← spCells_snoc out (nx, xa - nx)] at hown'; obtain ⟨hv2, hb2, hf2⟩ := BoxS.appended hv1 (by decide) hrow hown' (by simp) (by simp) hgrow; obtain ⟨A', cap', rfl⟩ := own_nil_iff hown' (by simp); have cv1 := hv2.cell; have fv1 := hv2.frozen; have hf3 := hf2 (fun k => k = s + 1 ∨ v.ownBlock = some k) (.inl rfl) (fun g e => .inr e); have kN2 := hf3.blk kN (by rintro (h | h); omega; have := hvx2 _ h; omega); have kx2 := hf3.blk kx (by rintro (h | h); omega; exact hvx1 h); have kI2 := hf3.blk kI (by rintro (h | h); omega; have := hvx2 _ h; omega); have cn2 := kN2.cell; have cx2 := kx2.cell)
        | (gi_at_call 63; refine (CallsIn.inRound l (callsIn_wide.2 (end_any _ _ _ (by omega) (by omega)))).mono ?_; rintro e w3 ⟨rfl, hq3⟩; have kN3 := kN2.call hq3; have cn3 := kN3.cell; have fn3 := kN3.frozen))
      have kI3 := kI2.call hq3
      have hb3 := hb2.far (.of_below hq3 : Far (fun _ => False) _ _) id (fun _ _ h => h)
      have hf4 : Far (fun k => k = s + 2) w3 (w3.setCell ⟨s + 2, 0, none⟩ (.int .i64 (xa + xb))) := Far.setCell (T := fun k => k = s + 2) (p := ⟨s + 2, 0, none⟩) (Far.refl _ _) (fun _ => rfl) _
      have hf5 : Far (fun k => k = s + 1 ∨ k = s + 2 ∨ v.ownBlock = some k) W (w3.setCell ⟨s + 2, 0, none⟩ (.int .i64 (xa + xb))) := (Far.call (hf3.mono fun k _ h => by rcases h with h | h; exact .inl h; exact .inr (.inr h)) hq3).trans (hf4.mono fun k _ h => .inr (.inl h))
      show Far _ _ _ ∧ (BoxS _ _ _ _ _ (gfold p (pre ++ [(xa, xb)])).1 ∧ Blk _ _ _ #[.int .i64 (gfold p (pre ++ [(xa, xb)])).2] ∧ _ ∧ _)
      rw [hG.out]
      refine ⟨hf5.mono fun k _ h => ?_, hb3.far hf4 (by omega) (fun g hg => by omega), kN3.set_ 0 _, hf4.blk kI3 (by omega), hB.trans (hf5.below (by have := hB.size; omega) (fun k hk => ?_))⟩
      · rcases h with h | h | h
        · omega
        · omega
        · have := hvx2 k h; omega
      · rintro (h | h | h)
        · omega
        · omega
        · have := hvx2 k h; omega
    · have hgt' : decide (nx < xa) = false := by simpa using hgt
      have hG : Hid (gfold p (pre ++ [(xa, xb)]) = (out, xa + xb)) := Lib.hid (by rw [hgs.out, gst, if_neg hgt])
      clear hgs hgt
      gi_wp2_with (gi_at_call 63; refine (CallsIn.inRound l (callsIn_wide.2 (end_any _ _ _ (by omega) (by omega)))).mono ?_; rintro e w3 ⟨rfl, hq3⟩; have kN3 := kN.call hq3; have cn3 := kN3.cell; have fn3 := kN3.frozen)
      have kI3 := kI.call hq3
      have hb2 : BoxS W (s + 1) 22 56 (W0.heap.size + 2) out := ⟨v, hv1, hrow, hnil⟩
      have hb3 := hb2.far (.of_below hq3 : Far (fun _ => False) _ _) id (fun _ _ h => h)
      have hf4 : Far (fun k => k = s + 2) w3 (w3.setCell ⟨s + 2, 0, none⟩ (.int .i64 (xa + xb))) := Far.setCell (T := fun k => k = s + 2) (p := ⟨s + 2, 0, none⟩) (Far.refl _ _) (fun _ => rfl) _
      have hf5 : Far (fun k => k = s + 2) W (w3.setCell ⟨s + 2, 0, none⟩ (.int .i64 (xa + xb))) := (Far.of_below hq3).trans hf4
      show Far _ _ _ ∧ (BoxS _ _ _ _ _ (gfold p (pre ++ [(xa, xb)])).1 ∧ Blk _ _ _ #[.int .i64 (gfold p (pre ++ [(xa, xb)])).2] ∧ _ ∧ _)
      rw [hG.out]
      refine ⟨hf5.mono fun k _ h => by omega, hb3.far hf4 (by omega) (fun g hg => by omega), kN3.set_ 0 _, hf4.blk kI3 (by omega), hB.trans (hf5.below (by have := hB.size; omega) (fun k hk => by omega))⟩
  case done =>
    rintro W hsz ⟨hbox, kN, kI, hB⟩ hd
    rw [hs0] at hd hbox hsz
    have hfin := Lib.hid (gfold_gaps (commonF us [(p, q)]) p (p + q))
    have hnx := gfold_next (commonF us [(p, q)]) p hp0 (fun y hy => hvl y hy)
    have hol : (gfold p (commonF us [(p, q)])).1.length ≤ 512 := by have := gfold_len (commonF us [(p, q)]) [] p; simp only [List.length_nil] at this; unfold gfold; omega
    have hq0 : -100000 ≤ q ∧ q ≤ 100000 := by have := vld_iff.1 hv; simp only at this; omega
    have hq1 : 0 ≤ p + q ∧ p + q ≤ 1024 := by have := vld_iff.1 hv; simp only at this; omega
    have hgf : Hid (gfin (gfold p (commonF us [(p, q)])) (p + q) = L) := Lib.hid (by rw [hfin.out]; exact hL.out)
    clear hfin
    generalize gfold p (commonF us [(p, q)]) = st at *
    obtain ⟨out, nx⟩ := st
    dsimp only at hbox kN hnx hol
    obtain ⟨v, hv1, hrow, hnil⟩ := hbox.ex
    have hvx2 : ∀ g, v.ownBlock = some g → s + 6 + 2 ≤ g := fun g e => (hrow.lt _ e).1
    have HE : Hid (∀ z : Ext W, Calls Try.prog 63 #[.agg #[.int .i64 p, .int .i64 q]] z.w fun e w'' => e = .returned (.int .i64 (p + q)) ∧ ∃ t : Ext W, w'' = t.w) := Lib.hid (fun z => Ext.call (end_any p q _ (by omega) hq0))
    have e1 := fun z : Ext W => (z.blk kN).cell
    have e2 := fun z : Ext W => (z.blk kI).cell
    by_cases hlt : nx < p + q
    · have hlt' : decide (nx < p + q) = true := by simpa using hlt
      have hE : Hid (L = out ++ [(nx, p + q - nx)]) := Lib.hid (by rw [← hgf.out, gfin, if_pos hlt])
      go_upto_region 8 with fail
      refine region_ext (by kernel_rfl) (by kernel_rfl) ?_
      repeat (go_big_quiet_step ((go_at_call 63; exact HE.out _)))
      refine wpQuiet_nil ?_
      rintro w2 ⟨⟨_, hw2⟩, rfl⟩
      clear e1 e2 HE hgf
      have kN2 := kN.call hw2
      have kI2 := kI.call hw2
      have hv2 := hv1.call hw2
      have hrow2 := ownsRow_call hrow hw2
      have hd2 : w2.heap[s + 6]? = some (.deferred (some [])) := (Far.of_below (T := fun _ => False) hw2).same hd id
      have hB2 := hB.trans (hw2.mono (by have := hB.size; omega))
      have hS0 : GapS s p q nx v w2 := ⟨kI2.cell 0, kI2.cell 1, kN2.cell 0, hv2.cell 0⟩
      have HEW := Lib.hid (fun W => end_any p q W (by omega) hq0)
      have hsz2 : s + 6 + 2 ≤ w2.heap.size := Nat.le_trans hsz hw2.size
      go_upto_region 9 with fail
      refine wp_noPanic ?_
      refine wp_region_T (GapS s p q nx v) [9] (by kernel_rfl) ?_
      have hS : GapS s p q nx v w2.drew := hS0
      refine' wpAnyT_take (i := 0) (v := _) ?hiT0 (by kernel_rfl) ?hQT0 (Or.inl ⟨?hwT0, ?hyT0⟩) hS ?reT0
      case hiT0 => (simp only [List.getElem?_toArray, List.getElem?_cons_zero]; rfl)
      case hQT0 => exact fun _ _ _ h => h
      case hwT0 => rfl
      case hyT0 => (intro wS hSw; obtain ⟨_, _⟩ := hSw; go_simp; (try with_reducible rfl))
      try simp only [Act.put, List.setIfInBounds_toArray, List.set_cons_zero, List.set_cons_succ]
      refine' wpAnyT_take (i := 1) (v := _) ?hiT1 (by kernel_rfl) ?hQT1 (Or.inl ⟨?hwT1, ?hyT1⟩) hS ?reT1
      case hiT1 => (simp only [List.getElem?_toArray, List.getElem?_cons_succ, List.getElem?_cons_zero]; rfl)
      case hQT1 => exact fun _ _ _ h => h
      case hwT1 => rfl
      case hyT1 => (intro wS hSw; obtain ⟨_, _⟩ := hSw; go_simp; (try with_reducible rfl))
      try simp only [Act.put, List.setIfInBounds_toArray, List.set_cons_zero, List.set_cons_succ]
      refine' wpAnyT_take (i := 2) (v := _) ?hiT2 (by kernel_rfl) ?hQT2 (Or.inl ⟨?hwT2, ?hyT2⟩) hS ?reT2
      case hiT2 => (simp only [List.getElem?_toArray, List.getElem?_cons_succ, List.getElem?_cons_zero]; rfl)
      case hQT2 => exact fun _ _ _ h => h
      case hwT2 => rfl
      case hyT2 => (intro wS hSw; obtain ⟨_, _⟩ := hSw; go_simp; (try with_reducible rfl))
      try simp only [Act.put, List.setIfInBounds_toArray, List.set_cons_zero, List.set_cons_succ]
      refine' wpAnyT_take (i := 4) (v := _) ?hiT4 (by kernel_rfl) ?hQT4 (Or.inl ⟨?hwT4, ?hyT4⟩) hS ?reT4
      case hiT4 => (simp only [List.getElem?_toArray, List.getElem?_cons_succ, List.getElem?_cons_zero]; rfl)
      case hQT4 => exact fun _ _ _ h => h
      case hwT4 => rfl
      case hyT4 => (intro wS hSw; obtain ⟨_, _⟩ := hSw; go_simp; (try with_reducible rfl))
      try simp only [Act.put, List.setIfInBounds_toArray, List.set_cons_zero, List.set_cons_succ]
      refine wpAnyT_ready (rs := [3]) (by kernel_rfl) (by simp) ?_
      refine' AllReadyT.cons ?hi3 (fun K hK => ?st3) AllReadyT.nil
      case hi3 => (simp only [List.getElem?_toArray, List.getElem?_cons_succ, List.getElem?_cons_zero]; rfl)
      go_simp
      refine (HEW.out _).mono ?_
      rintro e w3 ⟨rfl, hq3⟩
      have hq3' : Below w2.heap.size w2 w3 := (Below.refl _ w2).drew.trans hq3
      refine hK.out _ _ (fun _ => hS0.later hq3' (by omega)) (fun hS => ?_)
      clear hK K
      replace hS := hS rfl
      try simp only [Act.put, List.setIfInBounds_toArray, List.set_cons_zero, List.set_cons_succ]
      refine' wpAnyT_take (i := 5) (v := _) ?hiT5g (by kernel_rfl) ?hQT5g (Or.inl ⟨?hwT5g, ?hyT5g⟩) hS ?reT5g
      case hiT5g => (simp only [List.getElem?_toArray, List.getElem?_cons_succ, List.getElem?_cons_zero]; rfl)
      case hQT5g => exact fun _ _ _ h => h
      case hwT5g => rfl
      case hyT5g => (intro wS hSw; obtain ⟨_, _⟩ := hSw; go_simp; (try with_reducible rfl))
      try simp only [Act.put, List.setIfInBounds_toArray, List.set_cons_zero, List.set_cons_succ]
      rw [IntWalk.i64_in (p + q - nx) (by omega)]
      refine' wpAnyT_take (i := 6) (v := _) ?hiT6g (by kernel_rfl) ?hQT6g (Or.inl ⟨?hwT6g, ?hyT6g⟩) hS ?reT6g
      case hiT6g => (simp only [List.getElem?_toArray, List.getElem?_cons_succ, List.getElem?_cons_zero]; rfl)
      case hQT6g => exact fun _ _ _ h => h
      case hwT6g => rfl
      case hyT6g => (intro wS hSw; obtain ⟨_, _⟩ := hSw; go_simp; (try with_reducible rfl))
      try simp only [Act.put, List.setIfInBounds_toArray, List.set_cons_zero, List.set_cons_succ]
      refine wpAnyT_ready (rs := [7]) (by kernel_rfl) (by simp) ?_
      refine' AllReadyT.cons ?hi7 (fun K hK => ?st7) AllReadyT.nil
      case hi7 => (simp only [List.getElem?_toArray, List.getElem?_cons_succ, List.getElem?_cons_zero]; rfl)
      go_simp
      have hq4 := hq3'.alloc hq3'.size (.cells #[.int .i64 nx, .int .i64 (p + q - nx)] 56)
      refine hK.out _ _ (fun _ => hS0.later hq4 (by omega)) (fun hS => ?_)
      clear hK K
      replace hS := hS rfl
      have kW := Blk.new w3 56 #[.int .i64 nx, .int .i64 (p + q - nx)]
      have hv3 := hv2.call hq3'
      have hrow3 := ownsRow_call hrow2 hq3'
      have hs3 : s + 6 + 2 ≤ w3.heap.size := Nat.le_trans hsz2 hq3'.size
      try simp only [Act.put, List.setIfInBounds_toArray, List.set_cons_zero, List.set_cons_succ]
      refine wpAnyT_ready (rs := [8]) (by kernel_rfl) (by simp) ?_
      refine' AllReadyT.cons ?hi8 (fun K hK => ?st8) AllReadyT.nil
      case hi8 => (simp only [List.getElem?_toArray, List.getElem?_cons_succ, List.getElem?_cons_zero]; rfl)
      rw [if_pos (by simp [Region.wanted])]
      refine wp_append_own _ (.tmp 34) (.tmp 41) 22 rfl (s + 6 + 2) 56 i0 (.agg #[.int .i64 0, .int .i64 0]) 2 16 Try.underlying22 hi hz0 hz1 hz2 rfl (by decide) v out.length (spCells out) rfl (hrow3.alloc _) ⟨w3.heap.size, 0, none⟩ 1 1 [.int .i64 nx, .int .i64 (p + q - nx)] rfl rfl (news_two kW) news_one2 (by unfold maxLen; omega) (by omega) (by simp; omega) ?_
      intro v' w4 hown' hgrow _
      rw [← spCells_snoc out (nx, p + q - nx)] at hown'
      obtain ⟨hv4, hb4, hf4⟩ := BoxS.appended hv3 (by decide) hrow3 hown' (by simp) (by simp) hgrow
      obtain ⟨A', cap', rfl⟩ := own_nil_iff hown' (by simp)
      have cv4 := hv4.cell
      have fv4 := hv4.frozen
      have hq5 : Below (s + 6 + 2) w2 w4 := (hq4.mono hsz2).grown hgrow (by simp; omega) (fun j hj => hvx2 j hj)
      refine hK.out _ _ (fun _ => hS0.later hq5 (by omega)) (fun hS => ?_)
      clear hK K
      replace hS := hS rfl
      try simp only [Act.put, List.setIfInBounds_toArray, List.set_cons_zero, List.set_cons_succ]
      refine wpAnyT_ready (rs := [9]) (by kernel_rfl) (by simp) ?_
      refine' AllReadyT.cons ?hi9 (fun K hK => ?st9) AllReadyT.nil
      case hi9 => (simp only [List.getElem?_toArray, List.getElem?_cons_succ, List.getElem?_cons_zero]; rfl)
      go_simp
      refine hK.out _ _ (fun h => absurd h (by decide)) (fun _ => ?_)
      clear hK K
      refine wpAnyT_done (by kernel_rfl) ?_ _
      refine noPanic_normal ?_
      obtain ⟨v5, k5, hrow5, _⟩ := hb4.ex
      have hf5 := hf4 (fun k => k = s + 1 ∨ v.ownBlock = some k) (.inl rfl) (fun g e => .inr e)
      have hB3 := hB2.trans (hq3'.mono (by have := hB2.size; have := hB.size; omega))
      generalize w4.setCell ⟨s + 1, 0, none⟩ (.slice A' (out.length + 1) cap') = w5 at *
      have hd5 : w5.heap[s + 6]? = some (.deferred (some [])) := hf5.same ((Far.of_below (T := fun _ => False) hq3').same hd2 id) (by rintro (h | h); omega; have := hvx2 _ h; omega)
      have hB5 := hB3.trans (hf5.below (by have := hB3.size; have := hB.size; omega) (fun k hk => by rintro (h | h); omega; have := hvx2 _ h; omega))
      have c5 := k5.cell
      obtain ⟨A5, cap5, rfl⟩ := own_nil_iff hrow5 rfl
      clear hv4 hb4 hf4 cv4 fv4 hown' hgrow
      go_wp2_with fail
      rw [hE.out]
      have hfp : Far (fun k => k = s + 6) w5 (w5.putObj (s + 6) (.deferred none)) := Far.putObj (T := fun k => k = s + 6) (Far.refl _ _) (fun _ => rfl) _
      have hrow6 := ownsRow_far hrow5 hfp (fun g hg h => by have := (hrow5.lt g hg).1; omega)
      obtain ⟨A6, cap6, he, hru, h1, h2, h3, _⟩ := own_RU hrow6 rfl
      cases he
      exact leave_mark (v := .slice A5 (out ++ [(nx, p + q - nx)]).length cap5) hd5 (by simp [results, Try.results46, go_sem]) ⟨A5, cap5, rfl, hru, h1, h2, fun b o e => by have := h3 b o e; omega, by rw [hs]; exact hB5.trans (hfp.below (by have := hB5.size; omega) (fun k hk => by omega)), own_cap hrow6⟩
    · have hlt' : decide (nx < p + q) = false := by simpa using hlt
      have hE : Hid (L = out) := Lib.hid (by rw [← hgf.out, gfin, if_neg hlt, List.append_nil])
      go_upto_region 8 with fail
      refine region_ext (by kernel_rfl) (by kernel_rfl) ?_
      repeat (go_big_quiet_step ((go_at_call 63; exact HE.out _)))
      refine wpQuiet_nil ?_
      rintro w2 ⟨⟨_, hw2⟩, rfl⟩
      have hv2 := hv1.call hw2
      have hrow2 := ownsRow_call hrow hw2
      have hd2 : w2.heap[s + 6]? = some (.deferred (some [])) := (Far.of_below (T := fun _ => False) hw2).same hd id
      have hB2 := hB.trans (hw2.mono (by have := hB.size; omega))
      have cv := hv2.cell
      obtain ⟨A', cap', rfl⟩ := own_nil_iff hrow2 rfl
      go_wp2_with fail
      rw [hE.out]
      have hfp : Far (fun k => k = s + 6) w2 (w2.putObj (s + 6) (.deferred none)) := Far.putObj (T := fun k => k = s + 6) (Far.refl _ _) (fun _ => rfl) _
      have hrow3 := ownsRow_far hrow2 hfp (fun g hg h => by have := (hrow2.lt g hg).1; omega)
      obtain ⟨A2, cap2, he, hru, h1, h2, h3, _⟩ := own_RU hrow3 rfl
      cases he
      exact leave_mark (v := .slice A' out.length cap') hd2 (by simp [results, Try.results46, go_sem]) ⟨A', cap', rfl, hru, h1, h2, fun b o e => by have := h3 b o e; omega, hB2.trans (hfp.below (by have := hB2.size; omega) (fun k hk => by omega)), own_cap hrow3⟩
  case stop => exact fun _ _ _ _ _ h _ => h.elim
/-- what hands back a slice of spans of its own and an error -/
def SpansOwn (w : World) (us : List Sp) (er : Int) (e : Ending) (w' : World) : Prop :=
  ∃ (A : Option Addr) (cap : Nat), e = .returned (.tuple #[.slice A us.length cap, .int .i64 er]) ∧ RU w' w'.heap.size A us ∧ us.length ≤ cap ∧ cap ≤ maxLen ∧ (∀ b o, A = some ⟨b, o, none⟩ → w.heap.size ≤ b) ∧ Below w.heap.size w w' ∧ (A = none → cap = 0)
theorem not_own (A : Option Addr) (n cap : Nat) (us : List Sp) (p q : Int) (w : World) (hn : us.length = n) (hm : n ≤ cap) (hc : cap ≤ maxLen) (hr : RU w w.heap.size A us) :
    Calls Try.prog 29 #[.slice A n cap, .agg #[.int .i64 p, .int .i64 q]] w (SpansOwn w (if askS us (p, q) = 0 then gapsF us (p, q) else []) (askS us (p, q))) := by
  have HA := Lib.hid (fun W h => ask_any A n cap us p q W hn (Nat.le_trans hm hc) h)
  have hb0 := (Below.refl w.heap.size w).alloc (Nat.le_refl _) (.cells #[.int .i64 p, .int .i64 q] 56)
  have k0 := Blk.new w 56 #[.int .i64 p, .int .i64 q]
  have hr0 : RU _ _ A us := (hr.below hb0).more hb0.size
  by_cases h0 : askS us (p, q) = 0
  · have h0' := h0
    unfold askS at h0'
    have hcu : Go.Pol.Can us := by
      by_cases hz : chkS us = 0
      · exact chkS_zero.1 hz
      · rw [if_neg hz] at h0'; exact absurd h0' hz
    have hv : vld (p, q) = true := by
      rw [if_pos (chkS_zero.2 hcu)] at h0'
      by_cases hz : vld (p, q) = true
      · exact hz
      · rw [if_neg hz] at h0'; cases h0'
    clear h0'
    rw [h0] at HA ⊢
    rw [if_pos rfl]
    have HG := Lib.hid (fun W h => gaps_own A n cap us p q W hn hm hc h hcu hv)
    obtain ⟨L, hL0⟩ : ∃ L, gapsF us (p, q) = L := ⟨_, rfl⟩
    rw [hL0] at HG ⊢
    clear hL0 h0
    go_enter Try.func29, Try.ntmps29
    go_wp2_with (first
      | (go_at_call 45; refine (HA.out _ hr0).mono ?_; rintro e w1 ⟨rfl, hq⟩; have k1 := k0.call hq; have c1 := k1.cell; have hb1 := hb0.trans (hq.mono hb0.size); have hr1 : RU _ _ A us := (hr0.below hq).more hq.size)
      | (go_at_call 46; refine (HG.out _ hr1).mono ?_; rintro e w2 ⟨A', cap', rfl, hru, h1, h2, h3, hq2, h4⟩))
    go_ret2
    exact ⟨A', cap', rfl, hru, h1, h2, fun b o e => by have := h3 b o e; have := hb1.size; omega, hb1.trans (hq2.mono hb1.size), h4⟩
  · rw [if_neg h0]
    generalize askS us (p, q) = er at *
    have hc' : (er != 0) = true := by simpa using h0
    clear h0
    go_enter Try.func29, Try.ntmps29
    go_wp2_with (go_at_call 45; refine (HA.out _ hr0).mono ?_; rintro e w1 ⟨rfl, hq⟩; have hb1 := hb0.trans (hq.mono hb0.size))
    go_ret2
    exact ⟨none, 0, rfl, RU.nil, by simp, by unfold maxLen; omega, fun b o e => (by cases e), hb1, fun _ => rfl⟩
end Go.Proofs.Ytdepkmpilipolaa
