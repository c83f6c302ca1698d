/- Walks: the checks of layer 3 (spans), of the program and of the reference. -/
import Derived.Test.YtfmnlpgboolpmaaChecked
import Derived.Test.YtfmnlpgboolpmaaLib
import Derived.Test.YtfmnlpgboolpmaaGSpecA
import Derived.Laws.StructEq
namespace Go.Proofs.Ytfmnlpgboolpmaa
open Go Go.Proofs Go.RowKit Go.Pol

theorem wrong_any (p n : Int) (w : World) :
    Calls Try.prog 89 #[.agg #[.int .i64 p, .int .i64 n]] w fun e w' => e = .returned (.bool (!vld (p, n))) ∧ Below w.heap.size w w' := by
  have hb0 := (Below.refl w.heap.size w).alloc (Nat.le_refl _) (.cells #[.int .i64 p, .int .i64 n] 40)
  by_cases h1 : p < 0
  · have h1' : decide (p < 0) = true := by simpa using h1
    go_enter Try.func89, Try.ntmps89
    go_wp2
    go_ret
    exact ⟨ret_bool (by simp [vld]; omega), hb0⟩
  have h1' : decide (p < 0) = false := by simpa using h1
  by_cases h2 : 1024 ≤ p
  · have h2' : decide (1024 ≤ p) = true := by simpa using h2
    go_enter Try.func89, Try.ntmps89
    go_wp2
    go_ret
    exact ⟨ret_bool (by simp [vld]; omega), hb0⟩
  have h2' : decide (1024 ≤ p) = false := by simpa using h2
  by_cases h3 : n < 1
  · have h3' : decide (n < 1) = true := by simpa using h3
    go_enter Try.func89, Try.ntmps89
    go_wp2
    go_ret
    exact ⟨ret_bool (by simp [vld]; omega), hb0⟩
  have h3' : decide (n < 1) = false := by simpa using h3
  go_enter Try.func89, Try.ntmps89
  go_wp2
  go_ret
  exact ⟨ret_bool (by rw [Bool.eq_iff_iff]; simp [vld]; omega), hb0⟩

theorem valid_any (p n : Int) (w : World) :
    Calls Try.prog 79 #[.agg #[.int .i64 p, .int .i64 n]] w fun e w' => e = .returned (.bool (vld (p, n))) ∧ Below w.heap.size w w' := by
  have hb0 := (Below.refl w.heap.size w).alloc (Nat.le_refl _) (.cells #[.int .i64 p, .int .i64 n] 40)
  by_cases h1 : 0 ≤ p
  case neg =>
    have h1' : decide (0 ≤ p) = false := by simpa using h1
    go_enter Try.func79, Try.ntmps79
    go_wp2
    go_ret
    exact ⟨ret_bool (by simp [vld]; omega), hb0⟩
  have h1' : decide (0 ≤ p) = true := by simpa using h1
  by_cases h2 : p < 1024
  case neg =>
    have h2' : decide (p < 1024) = false := by simpa using h2
    go_enter Try.func79, Try.ntmps79
    go_wp2
    go_ret
    exact ⟨ret_bool (by simp [vld]; omega), hb0⟩
  have h2' : decide (p < 1024) = true := by simpa using h2
  by_cases h3 : 1 ≤ n
  case neg =>
    have h3' : decide (1 ≤ n) = false := by simpa using h3
    go_enter Try.func79, Try.ntmps79
    go_wp2
    go_ret
    exact ⟨ret_bool (by simp [vld]; omega), hb0⟩
  have h3' : decide (1 ≤ n) = true := by simpa using h3
  go_enter Try.func79, Try.ntmps79
  go_wp2
  go_ret
  exact ⟨ret_bool (by rw [Bool.eq_iff_iff]; simp [vld]; omega), hb0⟩

theorem end_any (p n : Int) (w : World) (hp : -100000 ≤ p ∧ p ≤ 100000) (hn : -100000 ≤ n ∧ n ≤ 100000) :
    Calls Try.prog 93 #[.agg #[.int .i64 p, .int .i64 n]] w fun e w' => e = .returned (.int .i64 (p + n)) ∧ Below w.heap.size w w' := by
  have hb0 := (Below.refl w.heap.size w).alloc (Nat.le_refl _) (.cells #[.int .i64 p, .int .i64 n] 40)
  go_enter Try.func93, Try.ntmps93
  go_wp2
  go_ret
  exact ⟨rfl, hb0⟩

/-- where the first span that is not valid lies -/
def badAt : List Sp → Nat
  | [] => 0
  | x :: r => if vld x = true then badAt r + 1 else 0
theorem badAt_all : ∀ (s : List Sp), (badAt s = s.length ↔ s.all vld = true)
  | [] => by simp [badAt]
  | x :: r => by
    have := badAt_all r
    simp only [badAt, List.length_cons, List.all_cons]
    by_cases h : vld x = true
    · rw [if_pos h]; simp [h, this]
    · rw [if_neg h]; simp [h]
theorem badAt_le : ∀ (s : List Sp), badAt s ≤ s.length
  | [] => by simp [badAt]
  | x :: r => by
    have := badAt_le r
    simp only [badAt, List.length_cons]
    split <;> omega
theorem badAt_at : ∀ (s : List Sp) (k : Nat), (∀ j, j < k → j < s.length → vld (s.getD j (0,0)) = true) → k < s.length → vld (s.getD k (0,0)) = false → badAt s = k
  | [], k, _, h, _ => by simp at h
  | x :: r, 0, _, _, h => by simp at h; simp [badAt, h]
  | x :: r, k + 1, hj, hk, h => by
    have h0 := hj 0 (by omega) (by simp)
    simp at h0
    rw [badAt, if_pos h0, badAt_at r k (fun j h1 h2 => by simpa using hj (j + 1) (by omega) (by simp; omega)) (by simpa using hk) (by simpa using h)]
theorem badAt_end (s : List Sp) (h : ∀ j, j < s.length → vld (s.getD j (0,0)) = true) : badAt s = s.length := by
  rw [badAt_all, List.all_eq_true]
  intro x hx
  obtain ⟨j, hj, rfl⟩ := List.getElem_of_mem hx
  simpa [List.getD_eq_getElem?_getD, hj] using h j hj

set_option maxHeartbeats 400000 in
theorem indexFunc_any (A : Option Addr) (n cap : Nat) (us : List Sp) (w : World) (hn : us.length = n) (hm : n ≤ maxLen) (hr : RU w w.heap.size A us) :
    Calls Try.prog 112 #[.slice A n cap, .func (.func 89) #[] #[]] w fun e w' => e = .returned (.int .i64 (if badAt us = n then -1 else (badAt us : Nat))) ∧ Below w.heap.size w w' := by
  unfold maxLen at hm
  have hn' := Lib.hid hn
  clear hn
  obtain ⟨R, hR0⟩ : ∃ R : Int, (if badAt us = n then -1 else ((badAt us : Nat) : Int)) = R := ⟨_, rfl⟩
  rw [hR0]
  have hR := Lib.hid hR0
  clear hR0
  go_enter Try.func112, Try.ntmps112
  go_wp2
  go_loopw [8] (fun i wr => ∃ (k : Int), 0 ≤ k ∧ k ≤ n ∧ i = .int .i64 k ∧ Below w.heap.size w wr ∧ Hid (∀ j : Nat, (j : Int) < k → j < us.length → vld (us.getD j (0,0)) = true)) (fun i _ => n - (intOf i).toNat)
  case atStart => exact ⟨0, by omega, by omega, rfl, Below.refl _ _, Lib.hid (fun j hj => absurd hj (by omega))⟩
  case round =>
    obtain ⟨k, hk0, hk, rfl, hB, hL⟩ := hrel
    by_cases hlt : k < n
    · obtain ⟨b, o, rfl, _, hc, hd⟩ := RU.at_' (hr.below hB) (k := k.toNat) (by have := hn'.out; omega)
      have hX : Hid (us.getD k.toNat (0,0) = us.getD k.toNat (0,0)) := Lib.hid rfl
      generalize hu : us.getD k.toNat (0,0) = u at *
      have hu' := Lib.hid hu; clear hu hX
      obtain ⟨x, y⟩ := u
      dsimp only at hc hd
      by_cases hv : vld (x, y) = true
      · have hv' : (!vld (x, y)) = false := by simp [hv]
        go_wp2_with (go_at_call 89; refine (wrong_any _ _ _).mono ?_; rintro e w1 ⟨rfl, hq⟩)
        have hB1 := hB.trans (hq.mono hB.size)
        go_roundw
        case rel =>
          refine ⟨k+1, by omega, by omega, rfl, hB1, Lib.hid (fun j hj hl => ?_)⟩
          by_cases hjk : (j : Int) < k
          · exact hL.out j hjk hl
          · obtain rfl : j = k.toNat := by omega
            rw [hu'.out]; exact hv
        case measure => simp [intOf]; omega
      · have hv' : (!vld (x, y)) = true := by simpa using hv
        have hE : Hid (badAt us = k.toNat) := Lib.hid (badAt_at us k.toNat (fun j h1 h2 => hL.out j (by omega) h2) (by have := hn'.out; omega) (by rw [hu'.out]; simpa using hv))
        clear hv
        go_wp2_with (go_at_call 89; refine (wrong_any _ _ _).mono ?_; rintro e w1 ⟨rfl, hq⟩)
        go_ret
        exact ⟨ret_int (by rw [← hR.out, hE.out, if_neg (by omega)]; omega), hB.trans (hq.mono hB.size)⟩
    · have hE : Hid (badAt us = n) := Lib.hid (by rw [← hn'.out]; exact badAt_end us (fun j h2 => hL.out j (by have := hn'.out; omega) h2))
      go_wp2
      go_ret
      exact ⟨ret_int (by rw [← hR.out, if_pos hE.out]), hB⟩

theorem containsFunc_any (A : Option Addr) (n cap : Nat) (us : List Sp) (w : World) (hn : us.length = n) (hm : n ≤ maxLen) (hr : RU w w.heap.size A us) :
    Calls Try.prog 88 #[.slice A n cap, .func (.func 89) #[] #[]] w fun e w' => e = .returned (.bool (!us.all vld)) ∧ Below w.heap.size w w' := by
  have HI := Lib.hid (indexFunc_any A n cap us w hn hm hr)
  have hR : Hid (decide (0 ≤ (if badAt us = n then (-1 : Int) else ((badAt us : Nat) : Int))) = !us.all vld) := Lib.hid (by
    have h := badAt_all us
    rw [hn] at h
    by_cases hb : badAt us = n
    · rw [if_pos hb, h.1 hb]; rfl
    · have : us.all vld = false := by rw [Bool.eq_false_iff]; exact fun hh => hb (h.2 hh)
      rw [if_neg hb, this]; simp)
  generalize (if badAt us = n then (-1 : Int) else ((badAt us : Nat) : Int)) = R at *
  clear hn hr
  go_enter Try.func88, Try.ntmps88
  go_wp2_with (go_at_call 112; refine (HI.out).mono ?_; rintro e w1 ⟨rfl, hq⟩)
  go_ret
  exact ⟨ret_bool hR.out, hq⟩

theorem form_step (us : List Sp) (e : Int) (k : Nat) (hk : k + 1 < us.length) (h : formOk e us = true ↔ formOk ((us.getD k (0,0)).1 + (us.getD k (0,0)).2) (us.drop (k+1)) = true) :
    formOk e us = true ↔ (us.getD k (0,0)).1 + (us.getD k (0,0)).2 < (us.getD (k+1) (0,0)).1 ∧ formOk ((us.getD (k+1) (0,0)).1 + (us.getD (k+1) (0,0)).2) (us.drop (k+2)) = true := by
  rw [h, drop_cons (0,0) us (k+1) hk, formOk_cons]
theorem form_start (us : List Sp) (h0 : 0 < us.length) (hv : us.all vld = true) : formOk (-1) us = true ↔ formOk ((us.getD 0 (0,0)).1 + (us.getD 0 (0,0)).2) (us.drop 1) = true := by
  cases us with
  | nil => simp at h0
  | cons x r =>
    have := vld_iff.1 ((by simpa using hv : vld x = true ∧ _).1)
    rw [formOk_cons]; simp; intro; omega
theorem all_at {us : List Sp} (hv : us.all vld = true) {k : Nat} (hk : k < us.length) : vld (us.getD k (0,0)) = true := by
  have := List.all_eq_true.1 hv us[k] (List.getElem_mem hk)
  simpa [List.getD_eq_getElem?_getD, hk] using this

set_option maxHeartbeats 800000 in
theorem spCheck_any (A : Option Addr) (n cap : Nat) (us : List Sp) (w : World) (hn : us.length = n) (hm : n ≤ maxLen) (hr : RU w w.heap.size A us) :
    Calls Try.prog 42 #[.slice A n cap] w fun e w' => e = .returned (.int .i64 (chkS us)) ∧ Below w.heap.size w w' := by
  have HC := Lib.hid (containsFunc_any A n cap us w hn hm hr)
  unfold maxLen at hm
  have hn' := Lib.hid hn
  clear hn
  obtain ⟨R, hR0⟩ : ∃ R : Int, chkS us = R := ⟨_, rfl⟩
  rw [hR0]
  have hR := Lib.hid hR0
  clear hR0
  by_cases hlen : 512 < n
  · have hlen' : decide (512 < (n : Int)) = true := by simp; omega
    go_enter Try.func42, Try.ntmps42
    go_wp2
    go_ret
    exact ⟨ret_int (by rw [← hR.out, chkS, if_pos (by rw [hn'.out]; exact hlen)]), Below.refl _ _⟩
  have hlen' : decide (512 < (n : Int)) = false := by simp; omega
  by_cases hall : us.all vld = true
  case neg =>
    have hall' : (!us.all vld) = true := by simpa using hall
    have hE : Hid (R = 7) := Lib.hid (by rw [← hR.out, chkS, if_neg (by rw [hn'.out]; exact hlen), if_pos (by simpa using hall)])
    rw [hall'] at HC
    clear hall hall' hr
    go_enter Try.func42, Try.ntmps42
    go_wp2_with (go_at_call 88; refine (HC.out).mono ?_; rintro e w1 ⟨rfl, hq⟩)
    go_ret
    exact ⟨ret_int hE.out.symm, hq⟩
  have hall' : (!us.all vld) = false := by rw [hall]; rfl
  have hR2 : Hid (R = if formOk (-1) us = true then 0 else 6) := Lib.hid (by rw [← hR.out, chkS, if_neg (by rw [hn'.out]; exact hlen), if_neg (by rw [hall]; decide)])
  have hA := Lib.hid hall
  rw [hall'] at HC
  clear hall hall' hR
  go_enter Try.func42, Try.ntmps42
  go_wp2_with (go_at_call 88; refine (HC.out).mono ?_; rintro e w1 ⟨rfl, hq⟩)
  go_loopw [3] (fun i wr => ∃ (k : Nat), (k + 1 ≤ n ∨ n = 0 ∧ k = 0) ∧ i = .int .i64 ((k : Int) + 1) ∧ Below w.heap.size w wr ∧ Hid (0 < n → (formOk (-1) us = true ↔ formOk ((us.getD k (0,0)).1 + (us.getD k (0,0)).2) (us.drop (k+1)) = true))) (fun i _ => n + 1 - (intOf i).toNat)
  case atStart => exact ⟨0, by omega, by simp, hq, Lib.hid (fun h => form_start us (by rw [hn'.out]; exact h) hA.out)⟩
  case round =>
    obtain ⟨k, hk, rfl, hB, hL⟩ := hrel
    by_cases hlt : k + 1 < n
    · have hlt' : decide ((k : Int) + 1 < (n : Int)) = true := by simp; omega
      obtain ⟨b, o, rfl, hbl, hc, hd⟩ := RU.at_' (hr.below hB) (k := k) (by have := hn'.out; omega)
      obtain ⟨b', o', had, _, hc2, hd2⟩ := RU.at_' (hr.below hB) (k := k + 1) (by have := hn'.out; omega)
      obtain ⟨rfl, rfl⟩ : b = b' ∧ o = o' := by simpa using had
      clear had
      have hst := Lib.hid (form_step us (-1) k (by have := hn'.out; omega) (hL.out (by omega)))
      have hv1 := vld_iff.1 (all_at hA.out (k := k) (by have := hn'.out; omega))
      have hv2 := vld_iff.1 (all_at hA.out (k := k + 1) (by have := hn'.out; omega))
      generalize hu : us.getD k (0,0) = u at *
      generalize hv : us.getD (k+1) (0,0) = v at *
      have hv' := Lib.hid hv; clear hu hv hL
      obtain ⟨x, y⟩ := u
      obtain ⟨x2, y2⟩ := v
      dsimp only at hc hd hc2 hd2 hst hv1 hv2
      have q1 := fun y : Ext wr => y.cell hc
      have q2 := fun y : Ext wr => y.cell hd
      have q3 := fun y : Ext wr => y.cell hc2
      have q4 := fun y : Ext wr => y.cell hd2
      have HEC : Hid (∀ z : Ext wr, Calls Try.prog 93 #[.agg #[.int .i64 x, .int .i64 y]] z.w fun e w'' => e = .returned (.int .i64 (x + y)) ∧ ∃ t : Ext wr, w'' = t.w) := Lib.hid (fun z => Ext.call (end_any x y _ (by omega) (by omega)))
      by_cases hle : x2 ≤ x + y
      · have hle' : decide (x2 ≤ x + y) = true := by simpa using hle
        have hE : Hid (R = 6) := Lib.hid (by rw [hR2.out, if_neg (by rw [hst.out]; omega)])
        clear hst hR2 hv1 hv2
        go_upto_region 8 with fail
        refine region_ext (by kernel_rfl) (by kernel_rfl) ?_
        repeat (go_big_quiet_step ((go_at_call 93; exact HEC.out _)))
        refine wpQuiet_nil ?_
        rintro w2 ⟨⟨_, hw2⟩, rfl⟩
        go_wp2_with fail
        go_ret
        exact ⟨ret_int hE.out.symm, hB.trans (hw2.mono hB.size)⟩
      · have hle' : decide (x2 ≤ x + y) = false := by simpa using hle
        have hst' : Hid (formOk (-1) us = true ↔ formOk (x2 + y2) (us.drop (k + 1 + 1)) = true) := Lib.hid (by rw [hst.out]; exact ⟨fun h => h.2, fun h => ⟨by omega, h⟩⟩)
        clear hst hv1 hv2
        go_upto_region 8 with fail
        refine region_ext (by kernel_rfl) (by kernel_rfl) ?_
        repeat (go_big_quiet_step ((go_at_call 93; exact HEC.out _)))
        refine wpQuiet_nil ?_
        rintro w2 ⟨⟨_, hw2⟩, rfl⟩
        go_wp2_with fail
        go_roundw
        case rel => exact ⟨k + 1, by omega, by simp, hB.trans (hw2.mono hB.size), Lib.hid (fun _ => by rw [hv'.out]; exact hst'.out)⟩
        case measure => simp [intOf]; omega
    · have hlt' : decide ((k : Int) + 1 < (n : Int)) = false := by simp; omega
      have hE : Hid (R = 0) := Lib.hid (by
        rw [hR2.out, if_pos]
        by_cases h0 : 0 < n
        · rw [hL.out h0, List.drop_of_length_le (by have := hn'.out; omega)]; rfl
        · rw [List.eq_nil_of_length_eq_zero (by have := hn'.out; omega : us.length = 0)]; rfl)
      clear hR2
      go_wp2_with fail
      go_ret
      exact ⟨ret_int hE.out.symm, hB⟩

set_option maxHeartbeats 800000 in
theorem refSpCheck_any (A : Option Addr) (n cap : Nat) (us : List Sp) (w : World) (hn : us.length = n) (hm : n ≤ maxLen) (hr : RU w w.heap.size A us) :
    Calls Try.prog 43 #[.slice A n cap] w fun e w' => e = .returned (.int .i64 (chkS us)) ∧ Below w.heap.size w w' := by
  unfold maxLen at hm
  have hn' := Lib.hid hn
  clear hn
  obtain ⟨R, hR0⟩ : ∃ R : Int, chkS us = R := ⟨_, rfl⟩
  rw [hR0]
  have hR := Lib.hid hR0
  clear hR0
  by_cases hlen : 512 < n
  · have hlen' : decide (512 < (n : Int)) = true := by simp; omega
    go_enter Try.func43, Try.ntmps43
    go_wp2
    go_ret
    exact ⟨ret_int (by rw [← hR.out, chkS, if_pos (by rw [hn'.out]; exact hlen)]), Below.refl _ _⟩
  have hlen' : decide (512 < (n : Int)) = false := by simp; omega
  go_enter Try.func43, Try.ntmps43
  go_wp2_with fail
  go_loopw [3] (fun i wr => ∃ (k : Int), 0 ≤ k ∧ k ≤ n ∧ i = .int .i64 k ∧ Below w.heap.size w wr ∧ Hid (∀ j : Nat, (j : Int) < k → j < us.length → vld (us.getD j (0,0)) = true)) (fun i _ => n - (intOf i).toNat)
  case atStart => exact ⟨0, by omega, by omega, rfl, Below.refl _ _, Lib.hid (fun j hj => absurd hj (by omega))⟩
  case round =>
    obtain ⟨k, hk0, hk, rfl, hB, hL⟩ := hrel
    by_cases hlt : k < n
    · have hlt' : decide (k < (n : Int)) = true := by simpa using hlt
      obtain ⟨b, o, rfl, _, hc, hd⟩ := RU.at_' (hr.below hB) (k := k.toNat) (by have := hn'.out; omega)
      generalize hu : us.getD k.toNat (0,0) = u at *
      have hu' := Lib.hid hu; clear hu
      obtain ⟨x, y⟩ := u
      dsimp only at hc hd
      by_cases hv : vld (x, y) = true
      · have hv' : (!vld (x, y)) = false := by simp [hv]
        go_wp2_with (go_at_call 79; refine (valid_any _ _ _).mono ?_; rintro e w1 ⟨rfl, hq⟩)
        have hB1 := hB.trans (hq.mono hB.size)
        go_roundw
        case rel =>
          refine ⟨k+1, by omega, by omega, rfl, hB1, Lib.hid (fun j hj hl => ?_)⟩
          by_cases hjk : (j : Int) < k
          · exact hL.out j hjk hl
          · obtain rfl : j = k.toNat := by omega
            rw [hu'.out]; exact hv
        case measure => simp [intOf]; omega
      · have hv' : (!vld (x, y)) = true := by simpa using hv
        have hE : Hid (R = 7) := Lib.hid (by
          have hb := badAt_at us k.toNat (fun j h1 h2 => hL.out j (by omega) h2) (by have := hn'.out; omega) (by rw [hu'.out]; simpa using hv)
          rw [← hR.out, chkS, if_neg (by rw [hn'.out]; exact hlen), if_pos]
          rw [Bool.eq_false_iff]; intro hh
          have := (badAt_all us).2 hh
          have := hn'.out
          omega)
        clear hv
        go_wp2_with (go_at_call 79; refine (valid_any _ _ _).mono ?_; rintro e w1 ⟨rfl, hq⟩)
        go_ret
        exact ⟨ret_int hE.out.symm, hB.trans (hq.mono hB.size)⟩
    · have hlt' : decide (k < (n : Int)) = false := by simp; omega
      have hA : Hid (us.all vld = true) := Lib.hid (by rw [← badAt_all]; exact badAt_end us (fun j h2 => hL.out j (by have := hn'.out; omega) h2))
      have hR2 : Hid (R = if formOk (-1) us = true then 0 else 6) := Lib.hid (by rw [← hR.out, chkS, if_neg (by rw [hn'.out]; exact hlen), if_neg (by rw [hA.out]; decide)])
      clear hL hR
      go_wp2_with fail
      go_loopw [4] (fun i wr => ∃ (k : Nat), (k + 1 ≤ n ∨ n = 0 ∧ k = 0) ∧ i = .int .i64 ((k : Int) + 1) ∧ Below w.heap.size w wr ∧ Hid (0 < n → (formOk (-1) us = true ↔ formOk ((us.getD k (0,0)).1 + (us.getD k (0,0)).2) (us.drop (k+1)) = true))) (fun i _ => n + 1 - (intOf i).toNat)
      case atStart => exact ⟨0, by omega, by simp, hB, Lib.hid (fun h => form_start us (by rw [hn'.out]; exact h) hA.out)⟩
      case round =>
        obtain ⟨k, hk, rfl, hB, hL⟩ := hrel
        by_cases hlt : k + 1 < n
        · have hlt' : decide ((k : Int) + 1 < (n : Int)) = true := by simp; omega
          obtain ⟨b, o, rfl, hbl, hc, hd⟩ := RU.at_' (hr.below hB) (k := k) (by have := hn'.out; omega)
          obtain ⟨b', o', had, _, hc2, hd2⟩ := RU.at_' (hr.below hB) (k := k + 1) (by have := hn'.out; omega)
          obtain ⟨rfl, rfl⟩ : b = b' ∧ o = o' := by simpa using had
          clear had
          have hst := Lib.hid (form_step us (-1) k (by have := hn'.out; omega) (hL.out (by omega)))
          have hv1 := vld_iff.1 (all_at hA.out (k := k) (by have := hn'.out; omega))
          have hv2 := vld_iff.1 (all_at hA.out (k := k + 1) (by have := hn'.out; omega))
          generalize hu : us.getD k (0,0) = u at *
          generalize hv : us.getD (k+1) (0,0) = v at *
          have hv' := Lib.hid hv; clear hu hv hL
          obtain ⟨x, y⟩ := u
          obtain ⟨x2, y2⟩ := v
          dsimp only at hc hd hc2 hd2 hst hv1 hv2
          have q1 := fun y : Ext wr => y.cell hc
          have q2 := fun y : Ext wr => y.cell hd
          have q3 := fun y : Ext wr => y.cell hc2
          have q4 := fun y : Ext wr => y.cell hd2
          by_cases hle : x2 ≤ x + y
          · have hle' : decide (x2 ≤ x + y) = true := by simpa using hle
            have hE : Hid (R = 6) := Lib.hid (by rw [hR2.out, if_neg (by rw [hst.out]; omega)])
            clear hst hR2
            go_upto_region 11 with fail
            refine region_ext (by kernel_rfl) (by kernel_rfl) ?_
            repeat (go_big_quiet_step (fail))
            refine wpQuiet_nil ?_
            rintro w2 ⟨⟨_, hw2⟩, rfl⟩
            go_wp2_with fail
            go_ret
            exact ⟨ret_int hE.out.symm, hB.trans (hw2.mono hB.size)⟩
          · have hle' : decide (x2 ≤ x + y) = false := by simpa using hle
            have hst' : Hid (formOk (-1) us = true ↔ formOk (x2 + y2) (us.drop (k + 1 + 1)) = true) := Lib.hid (by rw [hst.out]; exact ⟨fun h => h.2, fun h => ⟨by omega, h⟩⟩)
            clear hst
            go_upto_region 11 with fail
            refine region_ext (by kernel_rfl) (by kernel_rfl) ?_
            repeat (go_big_quiet_step (fail))
            refine wpQuiet_nil ?_
            rintro w2 ⟨⟨_, hw2⟩, rfl⟩
            go_wp2_with fail
            go_roundw
            case rel => exact ⟨k + 1, by omega, by simp, hB.trans (hw2.mono hB.size), Lib.hid (fun _ => by rw [hv'.out]; exact hst'.out)⟩
            case measure => simp [intOf]; omega
        · have hlt' : decide ((k : Int) + 1 < (n : Int)) = false := by simp; omega
          have hE : Hid (R = 0) := Lib.hid (by
            rw [hR2.out, if_pos]
            by_cases h0 : 0 < n
            · rw [hL.out h0, List.drop_of_length_le (by have := hn'.out; omega)]; rfl
            · rw [List.eq_nil_of_length_eq_zero (by have := hn'.out; omega : us.length = 0)]; rfl)
          clear hR2
          go_wp2_with fail
          go_ret
          exact ⟨ret_int hE.out.symm, hB⟩

/-- what 'ask' and 'asked' answer -/
def askS (s : List Sp) (x : Sp) : Int := if chkS s = 0 then (if vld x = true then 0 else 7) else chkS s
theorem ask_any (A : Option Addr) (n cap : Nat) (us : List Sp) (p q : Int) (w : World) (hn : us.length = n) (hm : n ≤ maxLen) (hr : RU w w.heap.size A us) :
    Calls Try.prog 84 #[.slice A n cap, .agg #[.int .i64 p, .int .i64 q]] w fun e w' => e = .returned (.int .i64 (askS us (p, q))) ∧ Below w.heap.size w w' := by
  have HC := Lib.hid (fun W (h : RU W W.heap.size A us) => spCheck_any A n cap us W hn hm h)
  obtain ⟨R, hR0⟩ : ∃ R : Int, askS us (p, q) = R := ⟨_, rfl⟩
  rw [hR0]
  have hR := Lib.hid hR0
  clear hR0
  have hb0 := (Below.refl w.heap.size w).alloc (Nat.le_refl _) (.cells #[.int .i64 p, .int .i64 q] 40)
  have k0 := Blk.new w 40 #[.int .i64 p, .int .i64 q]
  have hr0 : RU _ _ A us := (hr.below hb0).more hb0.size
  clear hr hn
  by_cases hc : chkS us = 0
  · rw [hc] at HC
    by_cases hv : vld (p, q) = true
    · have hv' : (!vld (p, q)) = false := by simp [hv]
      have hE : Hid (R = 0) := Lib.hid (by rw [← hR.out, askS, if_pos hc, if_pos hv])
      clear hv hc
      go_enter Try.func84, Try.ntmps84
      go_wp2_with (first
        | (go_at_call 42; refine (HC.out _ hr0).mono ?_; rintro e w1 ⟨rfl, hq⟩; have k1 := k0.call hq; have c1 := k1.cell)
        | (go_at_call 89; refine (wrong_any _ _ _).mono ?_; rintro e w2 ⟨rfl, hq2⟩))
      go_ret
      have hB1 := hb0.trans (hq.mono hb0.size)
      exact ⟨ret_int hE.out.symm, hB1.trans (hq2.mono hB1.size)⟩
    · have hv' : (!vld (p, q)) = true := by simpa using hv
      have hE : Hid (R = 7) := Lib.hid (by rw [← hR.out, askS, if_pos hc, if_neg hv])
      clear hv hc
      go_enter Try.func84, Try.ntmps84
      go_wp2_with (first
        | (go_at_call 42; refine (HC.out _ hr0).mono ?_; rintro e w1 ⟨rfl, hq⟩; have k1 := k0.call hq; have c1 := k1.cell)
        | (go_at_call 89; refine (wrong_any _ _ _).mono ?_; rintro e w2 ⟨rfl, hq2⟩))
      go_ret
      have hB1 := hb0.trans (hq.mono hb0.size)
      exact ⟨ret_int hE.out.symm, hB1.trans (hq2.mono hB1.size)⟩
  · have hE : Hid (R = chkS us) := Lib.hid (by rw [← hR.out, askS, if_neg hc])
    generalize chkS us = c at *
    have hc' : (c != 0) = true := by simpa using hc
    clear hc
    go_enter Try.func84, Try.ntmps84
    go_wp2_with (first
      | (go_at_call 42; refine (HC.out _ hr0).mono ?_; rintro e w1 ⟨rfl, hq⟩; have k1 := k0.call hq; have c1 := k1.cell))
    go_ret
    exact ⟨ret_int hE.out.symm, hb0.trans (hq.mono hb0.size)⟩

set_option maxRecDepth 100000 in
theorem eq40 (x1 x2 y1 y2 : Int) (w : World) : (Op.equalIn 10000 40 (.agg #[.int .i64 x1, .int .i64 x2]) (.agg #[.int .i64 y1, .int .i64 y2])).run Try.prog w = .ok (decide (x1 = y1 ∧ x2 = y2)) w := by
  have u3 := Try.underlying3
  have a3 := Try.isAgg3
  have z3 := Try.sizeOf3
  rw [show (10000 : Nat) = 9999 + 1 from rfl]
  by_cases h1 : x1 = y1 <;> by_cases h2 : x2 = y2 <;> go_simp <;> simp [h1, h2]
set_option maxHeartbeats 400000 in
theorem same_any (A B : Option Addr) (n m cap cap' : Nat) (xs ys : List Sp) (w : World) (hn : xs.length = n) (hm : n ≤ maxLen) (hn2 : ys.length = m) (hm2 : m ≤ maxLen) (hr : RU w w.heap.size A xs) (hs : RU w w.heap.size B ys) :
    Calls Try.prog 34 #[.slice A n cap, .slice B m cap'] w fun e w' => e = .returned (.bool (decide (xs = ys))) ∧ Below w.heap.size w w' := by
  unfold maxLen at hm hm2
  have hn' := Lib.hid hn
  have hm' := Lib.hid hn2
  clear hn hn2
  by_cases hnm : n = m
  case neg =>
    have hne : ((n : Int) != m) = true := by rw [bne_iff_ne]; omega
    have H : Hid (decide (xs = ys) = false) := Lib.hid (by rw [decide_eq_false_iff_not]; rintro rfl; exact hnm (hn'.out.symm.trans hm'.out))
    go_enter Try.func34, Try.ntmps34
    go_wp2
    go_ret
    exact ⟨ret_bool H.out.symm, Below.refl _ _⟩
  case pos =>
    subst hnm
    have hne : ((n : Int) != n) = false := by simp
    go_enter Try.func34, Try.ntmps34
    go_wp2
    go_loopw [5] (fun i wr => ∃ (k : Int), 0 ≤ k ∧ k ≤ n ∧ i = .int .i64 k ∧ Below w.heap.size w wr ∧ Hid (xs = ys ↔ xs.drop k.toNat = ys.drop k.toNat)) (fun i _ => n - (intOf i).toNat)
    case atStart => exact ⟨0, by omega, by omega, rfl, Below.refl _ _, Lib.hid (by simp)⟩
    case round =>
      obtain ⟨k, hk1, hk, rfl, hB, hL⟩ := hrel
      have hr1 := hr.below hB
      have hs1 := hs.below hB
      by_cases hlt : k < n
      · have hlt' : decide (k < (n : Int)) = true := by simpa using hlt
        obtain ⟨b, o, rfl, _, hc, hd⟩ := RU.at_' hr1 (k := k.toNat) (by have := hn'.out; omega)
        obtain ⟨b2, o2, rfl, _, hc2, hd2⟩ := RU.at_' hs1 (k := k.toNat) (by have := hm'.out; omega)
        have hd1 := Lib.hid (drop_cons (0,0) xs k.toNat (by have := hn'.out; omega))
        have hd2' := Lib.hid (drop_cons (0,0) ys k.toNat (by have := hm'.out; omega))
        have hsucc : Hid ((k+1).toNat = k.toNat + 1) := Lib.hid (by omega)
        generalize xs.getD k.toNat (0,0) = x at *
        generalize ys.getD k.toNat (0,0) = y at *
        obtain ⟨x1, x2⟩ := x
        obtain ⟨y1, y2⟩ := y
        dsimp only at hc hd hc2 hd2
        have hcx := fun y : Ext wr => y.cell hc
        have hcy := fun y : Ext wr => y.cell hc2
        have hdx := fun y : Ext wr => y.cell hd
        have hdy := fun y : Ext wr => y.cell hd2
        have hq := fun (W : World) => eq40 x1 x2 y1 y2 W
        by_cases hxy : x1 = y1 ∧ x2 = y2
        · have hxy' : decide (x1 = y1 ∧ x2 = y2) = true := by simpa using hxy
          have hst : Hid (xs = ys ↔ xs.drop (k+1).toNat = ys.drop (k+1).toNat) := Lib.hid (by rw [hL.out, hd1.out, hd2'.out, hsucc.out]; simp [hxy])
          rw [hxy'] at hq
          clear hxy hxy'
          go_upto_region 6 with fail
          refine region_ext (by kernel_rfl) (by kernel_rfl) ?_
          repeat (go_big_quiet_step (fail))
          refine wpQuiet_nil ?_
          rintro w1 ⟨⟨_, hw1⟩, rfl⟩
          go_wp2_with fail
          go_roundw
          case rel => exact ⟨k+1, by omega, by omega, rfl, hB.trans (hw1.mono hB.size), hst⟩
          case measure => simp [intOf]; omega
        · have hxy' : decide (x1 = y1 ∧ x2 = y2) = false := by simpa using hxy
          have hE : Hid (decide (xs = ys) = false) := Lib.hid (by
            rw [decide_eq_false_iff_not, hL.out, hd1.out, hd2'.out]
            intro h
            injection h with h1 _
            exact hxy (by simpa using h1))
          rw [hxy'] at hq
          clear hxy hxy'
          go_upto_region 6 with fail
          refine region_ext (by kernel_rfl) (by kernel_rfl) ?_
          repeat (go_big_quiet_step (fail))
          refine wpQuiet_nil ?_
          rintro w1 ⟨⟨_, hw1⟩, rfl⟩
          go_wp2_with fail
          go_ret
          exact ⟨ret_bool hE.out.symm, hB.trans (hw1.mono hB.size)⟩
      · have hlt' : decide (k < (n : Int)) = false := by simp; omega
        go_wp2_with fail
        go_ret
        have : decide (xs = ys) = true := by rw [decide_eq_true_eq, hL.out, List.drop_of_length_le (by have := hn'.out; omega), List.drop_of_length_le (by have := hm'.out; omega)]
        exact ⟨ret_bool this.symm, hB⟩

end Go.Proofs.Ytfmnlpgboolpmaa
