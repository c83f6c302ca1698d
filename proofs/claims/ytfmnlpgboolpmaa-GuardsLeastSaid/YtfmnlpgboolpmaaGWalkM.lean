/- Walks: the reference of layer 11. -/
import Derived.Test.YtfmnlpgboolpmaaGSpecC
namespace Go.Proofs.Ytfmnlpgboolpmaa
open Go Go.Proofs Go.RowKit Go.Pol

set_option maxHeartbeats 400000 in
theorem refUsable_any (pg n f b ev : Int) (w : World) :
    Calls Try.prog 29 #[planV pg n f b ev] w (SpansR w (if chkG pg n f b ev = 0 then runsL pg n f b ev else []) (chkG pg n f b ev)) := by
  have HC := Lib.hid (fun W => rgcheck_any pg n f b ev W)
  have hb0 := (Below.refl w.heap.size w).alloc (Nat.le_refl _) (.cells (planC pg n f b ev) 25)
  have k0 := Blk.new w 25 (planC pg n f b ev)
  have c0 := k0.cell
  by_cases hc : chkG pg n f b ev = 0
  · have hp := chkG_zero.1 hc
    rw [hc] at HC ⊢
    rw [if_pos rfl]
    have HS := Lib.hid (fun W => refset_any pg n f b ev true W hp _ (setM_true hp))
    clear hp hc
    generalize runsL pg n f b ev = G at *
    go_enter Try.func29, Try.ntmps29
    go_wp2_with (first
      | (go_at_call 33; refine (HC.out _).mono ?_; rintro e w1 ⟨rfl, hq⟩; have k1 := k0.call hq; have c1 := k1.cell)
      | (go_at_call 78; refine (HS.out _).mono ?_; rintro e w2 ⟨A, cap, rfl, hru, h1, h2, h3, hq2⟩))
    go_ret2
    have hb1 := hb0.trans (hq.mono hb0.size)
    exact ⟨A, cap, rfl, hru, h1, h2, fun b o e => by have := h3 b o e; have := hb1.size; omega, hb1.trans (hq2.mono hb1.size)⟩
  · rw [if_neg hc]
    generalize chkG pg n f b ev = er at *
    have hc' : (er != 0) = true := by simpa using hc
    clear hc
    go_enter Try.func29, Try.ntmps29
    go_wp2_with (go_at_call 33; refine (HC.out _).mono ?_; rintro e w1 ⟨rfl, hq⟩)
    go_ret2
    exact ⟨none, 0, rfl, RU.nil, by simp, by unfold maxLen; omega, fun b o e => (by cases e), hb0.trans (hq.mono hb0.size)⟩
set_option maxHeartbeats 400000 in
theorem refGuards_any (pg n f b ev : Int) (w : World) :
    Calls Try.prog 28 #[planV pg n f b ev] w (SpansR w (guardsF pg n f b ev) (chkG pg n f b ev)) := by
  unfold guardsF
  have HC := Lib.hid (fun W => rgcheck_any pg n f b ev W)
  have hb0 := (Below.refl w.heap.size w).alloc (Nat.le_refl _) (.cells (planC pg n f b ev) 25)
  have k0 := Blk.new w 25 (planC pg n f b ev)
  have c0 := k0.cell
  by_cases hc : chkG pg n f b ev = 0
  · have hp := chkG_zero.1 hc
    rw [hc] at HC ⊢
    rw [if_pos rfl]
    have HS := Lib.hid (fun W => refset_any pg n f b ev false W hp _ (setM_false hp))
    clear hp hc
    generalize gapsF (runsL pg n f b ev) (pg, n) = G at *
    go_enter Try.func28, Try.ntmps28
    go_wp2_with (first
      | (go_at_call 33; refine (HC.out _).mono ?_; rintro e w1 ⟨rfl, hq⟩; have k1 := k0.call hq; have c1 := k1.cell)
      | (go_at_call 78; refine (HS.out _).mono ?_; rintro e w2 ⟨A, cap, rfl, hru, h1, h2, h3, hq2⟩))
    go_ret2
    have hb1 := hb0.trans (hq.mono hb0.size)
    exact ⟨A, cap, rfl, hru, h1, h2, fun b o e => by have := h3 b o e; have := hb1.size; omega, hb1.trans (hq2.mono hb1.size)⟩
  · rw [if_neg hc]
    generalize chkG pg n f b ev = er at *
    have hc' : (er != 0) = true := by simpa using hc
    clear hc
    go_enter Try.func28, Try.ntmps28
    go_wp2_with (go_at_call 33; refine (HC.out _).mono ?_; rintro e w1 ⟨rfl, hq⟩)
    go_ret2
    exact ⟨none, 0, rfl, RU.nil, by simp, by unfold maxLen; omega, fun b o e => (by cases e), hb0.trans (hq.mono hb0.size)⟩

theorem refusable_any (pg n f b ev : Int) (w : World) (hp : PlanOk pg n f b ev) (L : List Int) (hL : pagesOf (runsL pg n f b ev) = L) :
    Calls Try.prog 69 #[planV pg n f b ev] w fun e w' => ∃ (A' : Option Addr) (cap' : Nat), e = .returned (.slice A' L.length cap') ∧ RI w' w'.heap.size A' L ∧ Below w.heap.size w w' := by
  have hb0 := (Below.refl w.heap.size w).alloc (Nat.le_refl _) (.cells (planC pg n f b ev) 25)
  have k0 := Blk.new w 25 (planC pg n f b ev)
  have c0 := k0.cell
  have HS := Lib.hid (fun W => refset_any pg n f b ev true W hp _ (setM_true hp))
  have HP := Lib.hid (fun A cap W h1 h2 => refPages_any A (runsL pg n f b ev).length cap (runsL pg n f b ev) W rfl h1 h2 (runsL_can hp) L hL)
  clear hp hL
  generalize runsL pg n f b ev = G at *
  go_enter Try.func69, Try.ntmps69
  go_wp2_with (first
    | (go_at_call 78; refine (HS.out _).mono ?_; rintro e w1 ⟨A, cap, rfl, hru, h1, h2, h3, hq⟩)
    | (go_at_call 49; refine (HP.out _ _ _ (Nat.le_trans h1 h2) hru).mono ?_; rintro e w2 ⟨A2, cap2, rfl, hri, hq2⟩))
  go_ret
  have hb1 := hb0.trans (hq.mono hb0.size)
  exact ⟨A2, cap2, rfl, hri, hb1.trans (hq2.mono hb1.size)⟩

set_option maxHeartbeats 400000 in
theorem refCount_any (pg n f b ev : Int) (w : World) :
    Calls Try.prog 31 #[planV pg n f b ev] w fun e w' => e = .returned (.tuple #[.int .i64 (countF pg n f b ev).1, .int .i64 (countF pg n f b ev).2, .int .i64 (chkG pg n f b ev)]) ∧ Below w.heap.size w w' := by
  have HC := Lib.hid (fun W => rgcheck_any pg n f b ev W)
  have hb0 := (Below.refl w.heap.size w).alloc (Nat.le_refl _) (.cells (planC pg n f b ev) 25)
  have k0 := Blk.new w 25 (planC pg n f b ev)
  have c0 := k0.cell
  unfold countF
  by_cases hc : chkG pg n f b ev = 0
  · have hp := chkG_zero.1 hc
    rw [hc] at HC ⊢
    rw [if_pos rfl]
    have HU := Lib.hid (fun W => refusable_any pg n f b ev W hp _ rfl)
    have hsum := pagesOf_len (runsL pg n f b ev) (fun x hx => by have := (vld_iff.1 ((runsL_can hp).1 x hx)).2.2.1; omega)
    have hsb := sumS_bound (runsL pg n f b ev) (runsL_can hp).1
    have hl := (runsL_can hp).len
    have hn1 := hp.n1
    have hn0 := hp.n0
    have hpg := hp.pg0
    generalize pagesOf (runsL pg n f b ev) = L at *
    rw [← hsum] at hsb ⊢
    generalize hLL : L.length = LL at *
    clear hsum hp
    go_enter Try.func31, Try.ntmps31
    go_wp2_with (first
      | (go_at_call 33; refine (HC.out _).mono ?_; rintro e w1 ⟨rfl, hq⟩; have k1 := k0.call hq; have c1 := k1.cell)
      | (go_at_call 69; refine (HU.out _).mono ?_; rintro e w2 ⟨A2, cap2, rfl, hri, hq2⟩; have k2 := k1.call hq2; have c2 := k2.cell))
    have hb1 := hb0.trans (hq.mono hb0.size)
    have hb2 := hb1.trans (hq2.mono hb1.size)
    have e1 := fun z : Ext w2 => (z.blk k2).cell
    refine region_ext (by kernel_rfl) (by kernel_rfl) ?_
    repeat (go_big_quiet_step (fail))
    refine wpQuiet_nil ?_
    rintro w3 ⟨⟨_, hw3⟩, rfl⟩
    go_wp2_with fail
    refine bodyPost_ret (v := .tuple #[.int .i64 (LL : Int), .int .i64 (n - LL), .int .i64 0]) (by simp [results, Try.results31, go_sem]) rfl ⟨rfl, hb2.trans (hw3.mono hb2.size)⟩
  · rw [if_neg hc]
    generalize chkG pg n f b ev = er at *
    have hc' : (er != 0) = true := by simpa using hc
    clear hc
    go_enter Try.func31, Try.ntmps31
    go_wp2_with (go_at_call 33; refine (HC.out _).mono ?_; rintro e w1 ⟨rfl, hq⟩)
    refine bodyPost_ret (v := .tuple #[.int .i64 0, .int .i64 0, .int .i64 er]) (by simp [results, Try.results31, go_sem]) rfl ⟨rfl, hb0.trans (hq.mono hb0.size)⟩

set_option maxHeartbeats 400000 in
theorem refNth_any (pg n f b ev i : Int) (w : World) (R : Int × Int) (hR : (if chkG pg n f b ev = 0 then nthF (runsL pg n f b ev) i else (0, chkG pg n f b ev)) = R) :
    Calls Try.prog 18 #[planV pg n f b ev, .int .i64 i] w fun e w' => e = .returned (.tuple #[.int .i64 R.1, .int .i64 R.2]) ∧ Below w.heap.size w w' := by
  have HC := Lib.hid (fun W => rgcheck_any pg n f b ev W)
  have hb0 := (Below.refl w.heap.size w).alloc (Nat.le_refl _) (.cells (planC pg n f b ev) 25)
  have k0 := Blk.new w 25 (planC pg n f b ev)
  have c0 := k0.cell
  by_cases hc : chkG pg n f b ev = 0
  · have hp := chkG_zero.1 hc
    rw [if_pos hc, nthF_pages _ _ (fun x hx => (vld_iff.1 ((runsL_can hp).1 x hx)).2.2.1)] at hR
    rw [hc] at HC
    have HU := Lib.hid (fun W => refusable_any pg n f b ev W hp _ rfl)
    have hsum := pagesOf_len (runsL pg n f b ev) (fun x hx => by have := (vld_iff.1 ((runsL_can hp).1 x hx)).2.2.1; omega)
    have hsb := sumS_bound (runsL pg n f b ev) (runsL_can hp).1
    have hl := (runsL_can hp).len
    generalize pagesOf (runsL pg n f b ev) = L at *
    generalize hLL : L.length = LL at *
    rw [← hsum] at hsb
    clear hsum hp hc
    by_cases h1 : i < 0
    · have h1' : decide (i < 0) = true := by simpa using h1
      have hE : Hid (R = (0, 7)) := Lib.hid (by rw [← hR, nthP, if_pos (.inl h1)])
      clear hR h1
      go_enter Try.func18, Try.ntmps18
      go_wp2_with (first
        | (go_at_call 33; refine (HC.out _).mono ?_; rintro e w1 ⟨rfl, hq⟩; have k1 := k0.call hq; have c1 := k1.cell)
        | (go_at_call 69; refine (HU.out _).mono ?_; rintro e w2 ⟨A2, cap2, rfl, hri, hq2⟩))
      have hb1 := hb0.trans (hq.mono hb0.size)
      have hb2 := hb1.trans (hq2.mono hb1.size)
      refine bodyPost_ret (v := .tuple #[.int .i64 0, .int .i64 7]) (by simp [results, Try.results18, go_sem]) rfl ⟨by rw [hE.out], hb2⟩
    · have h1' : decide (i < 0) = false := by simpa using h1
      by_cases h2 : (LL : Int) ≤ i
      · have h2' : decide ((LL : Int) ≤ i) = true := by simpa using h2
        have hE : Hid (R = (0, 7)) := Lib.hid (by rw [← hR, nthP, if_pos (.inr (by rw [hLL]; exact h2))])
        clear hR h1
        go_enter Try.func18, Try.ntmps18
        go_wp2_with (first
          | (go_at_call 33; refine (HC.out _).mono ?_; rintro e w1 ⟨rfl, hq⟩; have k1 := k0.call hq; have c1 := k1.cell)
          | (go_at_call 69; refine (HU.out _).mono ?_; rintro e w2 ⟨A2, cap2, rfl, hri, hq2⟩))
        have hb1 := hb0.trans (hq.mono hb0.size)
        have hb2 := hb1.trans (hq2.mono hb1.size)
        refine bodyPost_ret (v := .tuple #[.int .i64 0, .int .i64 7]) (by simp [results, Try.results18, go_sem]) rfl ⟨by rw [hE.out], hb2⟩
      · have h2' : decide ((LL : Int) ≤ i) = false := by simpa using h2
        have hE : Hid (R = (L.getD i.toNat 0, 0)) := Lib.hid (by rw [← hR, nthP, if_neg (by rw [hLL]; omega)])
        have hi : 0 ≤ i ∧ i < LL := by omega
        clear hR
        obtain ⟨y, hy⟩ : ∃ y, L.getD i.toNat 0 = y := ⟨_, rfl⟩
        rw [hy] at hE
        have hy' := Lib.hid hy
        clear hy
        go_enter Try.func18, Try.ntmps18
        go_wp2_with (first
          | (go_at_call 33; refine (HC.out _).mono ?_; rintro e w1 ⟨rfl, hq⟩; have k1 := k0.call hq; have c1 := k1.cell)
          | (go_at_call 69; refine (HU.out _).mono ?_; rintro e w2 ⟨A2, cap2, rfl, hri, hq2⟩; obtain ⟨bb, oo, rfl, hbb, hcc⟩ := RI.at_ hri (k := i.toNat) (by omega); rw [hy'.out] at hcc))
        have hb1 := hb0.trans (hq.mono hb0.size)
        have hb2 := hb1.trans (hq2.mono hb1.size)
        refine bodyPost_ret (v := .tuple #[.int .i64 y, .int .i64 0]) (by simp [results, Try.results18, go_sem]) rfl ⟨by rw [hE.out], hb2⟩
  · rw [if_neg hc] at hR
    generalize chkG pg n f b ev = er at *
    have hc' : (er != 0) = true := by simpa using hc
    have hE : Hid (R = (0, er)) := Lib.hid hR.symm
    clear hc hR
    go_enter Try.func18, Try.ntmps18
    go_wp2_with (go_at_call 33; refine (HC.out _).mono ?_; rintro e w1 ⟨rfl, hq⟩)
    refine bodyPost_ret (v := .tuple #[.int .i64 0, .int .i64 er]) (by simp [results, Try.results18, go_sem]) rfl ⟨by rw [hE.out], hb0.trans (hq.mono hb0.size)⟩

theorem idxL_drop (page : Int) (L : List Int) (k : Nat) (hk : k < L.length) : idxL page k (L.drop k) = if L.getD k 0 = page then ((k : Int), 0) else idxL page ((k : Int) + 1) (L.drop (k + 1)) := by
  rw [drop_cons 0 L k hk, idxL]

set_option maxHeartbeats 400000 in
theorem refIndex_any (pg n f b ev page : Int) (w : World) (R : Int × Int) (hR : (if chkG pg n f b ev = 0 then idxF page 0 (runsL pg n f b ev) else (0, chkG pg n f b ev)) = R) :
    Calls Try.prog 20 #[planV pg n f b ev, .int .i64 page] w fun e w' => e = .returned (.tuple #[.int .i64 R.1, .int .i64 R.2]) ∧ Below w.heap.size w w' := by
  have HC := Lib.hid (fun W => rgcheck_any pg n f b ev W)
  have hb0 := (Below.refl w.heap.size w).alloc (Nat.le_refl _) (.cells (planC pg n f b ev) 25)
  have k0 := Blk.new w 25 (planC pg n f b ev)
  have c0 := k0.cell
  by_cases hc : chkG pg n f b ev = 0
  · have hp := chkG_zero.1 hc
    rw [if_pos hc, idxF_pages _ _ _ (fun x hx => (vld_iff.1 ((runsL_can hp).1 x hx)).2.2.1)] at hR
    rw [hc] at HC
    have HU := Lib.hid (fun W => refusable_any pg n f b ev W hp _ rfl)
    have hsum := pagesOf_len (runsL pg n f b ev) (fun x hx => by have := (vld_iff.1 ((runsL_can hp).1 x hx)).2.2.1; omega)
    have hsb := sumS_bound (runsL pg n f b ev) (runsL_can hp).1
    have hl := (runsL_can hp).len
    generalize pagesOf (runsL pg n f b ev) = L at *
    generalize hLL : L.length = LL at *
    rw [← hsum] at hsb
    have hLL' := Lib.hid hLL
    have hR' := Lib.hid hR
    clear hsum hp hc hR
    go_enter Try.func20, Try.ntmps20
    go_wp2_with (first
      | (go_at_call 33; refine (HC.out _).mono ?_; rintro e w1 ⟨rfl, hq⟩; have k1 := k0.call hq; have c1 := k1.cell)
      | (go_at_call 69; refine (HU.out _).mono ?_; rintro e w2 ⟨A2, cap2, rfl, hri, hq2⟩))
    have hb1 := hb0.trans (hq.mono hb0.size)
    have hb2 := hb1.trans (hq2.mono hb1.size)
    go_loopw [8] (fun i wr => ∃ (k : Nat), k ≤ LL ∧ i = .int .i64 k ∧ Below w.heap.size w wr ∧ RI wr wr.heap.size A2 L ∧ Hid (R = idxL page k (L.drop k))) (fun i _ => LL - (intOf i).toNat)
    case atStart => exact ⟨0, by omega, rfl, hb2, hri, Lib.hid (by rw [← hR'.out]; rfl)⟩
    case round =>
      obtain ⟨k, hk, rfl, hb2, hri, hH⟩ := hrel
      by_cases hlt : k < LL
      · have hlt' : decide ((k : Int) < (LL : Int)) = true := by simp; omega
        obtain ⟨bb, oo, rfl, hbb, hcc⟩ := RI.at_ hri (k := k) (by have := hLL'.out; omega)
        have hdr := Lib.hid (idxL_drop page L k (by have := hLL'.out; omega))
        generalize L.getD k 0 = y at *
        by_cases hy : y = page
        · have hy' : (y == page) = true := by simpa using hy
          have hE : Hid (R = ((k : Int), 0)) := Lib.hid (by rw [hH.out, hdr.out, if_pos hy])
          clear hy
          go_wp2_with fail
          refine bodyPost_ret (v := .tuple #[.int .i64 (k : Int), .int .i64 0]) (by simp [results, Try.results20, go_sem]) rfl ⟨by rw [hE.out], hb2⟩
        · have hy' : (y == page) = false := by simpa using hy
          have hN : Hid (R = idxL page ((k + 1 : Nat) : Int) (L.drop (k + 1))) := Lib.hid (by rw [hH.out, hdr.out, if_neg hy]; rfl)
          clear hy
          go_wp2_with fail
          go_roundw
          case rel => exact ⟨k + 1, by omega, by simp, hb2, hri, hN⟩
          case measure => simp [intOf]; omega
      · have hlt' : decide ((k : Int) < (LL : Int)) = false := by simp; omega
        have hE : Hid (R = (0, 4)) := Lib.hid (by rw [hH.out, List.drop_of_length_le (by have := hLL'.out; omega)]; rfl)
        go_wp2_with fail
        refine bodyPost_ret (v := .tuple #[.int .i64 0, .int .i64 4]) (by simp [results, Try.results20, go_sem]) rfl ⟨by rw [hE.out], hb2⟩
  · rw [if_neg hc] at hR
    generalize chkG pg n f b ev = er at *
    have hc' : (er != 0) = true := by simpa using hc
    have hE : Hid (R = (0, er)) := Lib.hid hR.symm
    clear hc hR
    go_enter Try.func20, Try.ntmps20
    go_wp2_with (go_at_call 33; refine (HC.out _).mono ?_; rintro e w1 ⟨rfl, hq⟩)
    refine bodyPost_ret (v := .tuple #[.int .i64 0, .int .i64 er]) (by simp [results, Try.results20, go_sem]) rfl ⟨by rw [hE.out], hb0.trans (hq.mono hb0.size)⟩
end Go.Proofs.Ytfmnlpgboolpmaa
