/- Walks: the checks of layer 11 (guards), of the program and of the reference; the kind of a page. -/
import Derived.Test.YtfmnlpgboolpmaaGWalkB
namespace Go.Pol
def wrongG (f b ev : Int) : Bool := !(decide (0 ≤ f) && decide (f ≤ 16) && decide (0 ≤ b) && decide (b ≤ 16) && decide (0 ≤ ev) && decide (ev ≤ 1024))
theorem wrongG_iff {f b ev : Int} : wrongG f b ev = false ↔ (0 ≤ f ∧ f ≤ 16) ∧ (0 ≤ b ∧ b ≤ 16) ∧ 0 ≤ ev ∧ ev ≤ 1024 := by simp [wrongG, and_assoc]
def chkG (pg n f b ev : Int) : Int := if vld (pg, n) = false ∨ wrongG f b ev = true then 7 else if n ≤ f + b then 4 else 0
theorem chkG_zero {pg n f b ev : Int} : chkG pg n f b ev = 0 ↔ PlanOk pg n f b ev := by
  unfold chkG
  constructor
  · intro h
    split at h
    · cases h
    · rename_i h1
      split at h
      · cases h
      · have h2 : vld (pg, n) = true := by cases hv : vld (pg, n) with | true => rfl | false => exact absurd (.inl hv) h1
        have h3 : wrongG f b ev = false := by cases hv : wrongG f b ev with | false => rfl | true => exact absurd (.inr hv) h1
        have h2' := vld_iff.1 h2
        have h3' := wrongG_iff.1 h3
        simp only at h2'
        exact ⟨h2'.1, h2'.2.1, h2'.2.2.1, h2'.2.2.2, h3'.1.1, h3'.1.2, h3'.2.1.1, h3'.2.1.2, h3'.2.2.1, h3'.2.2.2, by omega⟩
  · intro h
    have h1 : vld (pg, n) = true := vld_iff.2 ⟨h.pg0, h.pg1, h.n0, h.n1⟩
    have h2 : wrongG f b ev = false := wrongG_iff.2 ⟨⟨h.f0, h.f1⟩, ⟨h.b0, h.b1⟩, h.e0, h.e1⟩
    rw [h1, h2]
    have := h.fb
    simp; omega
/-- what an access to a page of a plan hits -/
def kindG (pg n f b ev page : Int) : Int :=
  if page - pg < 0 ∨ n ≤ page - pg then 4 else if page - pg < f then 1 else if n - b ≤ page - pg then 2 else if 0 < ev ∧ (page - pg - f + 1) % (ev + 1) = 0 then 3 else 0
theorem chkS_one (x : Sp) : chkS [x] = if vld x = true then 0 else 7 := by
  by_cases h : vld x = true
  · rw [if_pos h]; exact chkS_zero.2 (Can.one h)
  · rw [if_neg h]; simp [chkS, h]
theorem ru_blk1 {w : World} {B : Nat} {t : TypeId} {p n : Int} (h : Blk w B t #[.int .i64 p, .int .i64 n]) : RU w w.heap.size (some ⟨B, 0, none⟩) [(p, n)] := fun k hk => by
  obtain rfl : k = 0 := by simp at hk; omega
  exact ⟨B, 0, rfl, h.lt, h.cell 0, h.cell 1⟩
end Go.Pol
namespace Go.Proofs.Ytfmnlpgboolpmaa
open Go Go.Proofs Go.RowKit Go.Pol

theorem outside_any (n a b : Int) (w : World) :
    Calls Try.prog 70 #[.int .i64 n, .int .i64 a, .int .i64 b] w fun e w' => e = .returned (.bool (!(decide (a ≤ n) && decide (n ≤ b)))) ∧ w = w' := by
  by_cases h : n < a
  · have h' : decide (n < a) = true := by simpa using h
    have h2 : decide (a ≤ n) = false := by simpa using h
    go_enter Try.func70, Try.ntmps70
    go_wp2
    go_ret
    simp [h2]
  · have h' : decide (n < a) = false := by simpa using h
    have h2 : decide (a ≤ n) = true := by simpa using h
    go_enter Try.func70, Try.ntmps70
    go_wp2
    go_ret
    simp [h2]
    rw [Bool.eq_iff_iff]; simp

theorem gwrong_any (f b ev : Int) (w : World) :
    Calls Try.prog 71 #[.agg #[.int .i64 f, .int .i64 b, .int .i64 ev]] w fun e w' => e = .returned (.bool (wrongG f b ev)) ∧ Below w.heap.size w w' := by
  have hb0 := (Below.refl w.heap.size w).alloc (Nat.le_refl _) (.cells #[.int .i64 f, .int .i64 b, .int .i64 ev] 23)
  have HO := Lib.hid (fun (n a b : Int) W => outside_any n a b W)
  obtain ⟨c1, hc1⟩ : ∃ c, (!(decide (0 ≤ f) && decide (f ≤ 16))) = c := ⟨_, rfl⟩
  obtain ⟨c2, hc2⟩ : ∃ c, (!(decide (0 ≤ b) && decide (b ≤ 16))) = c := ⟨_, rfl⟩
  obtain ⟨c3, hc3⟩ : ∃ c, (!(decide (0 ≤ ev) && decide (ev ≤ 1024))) = c := ⟨_, rfl⟩
  have hR : Hid (wrongG f b ev = (c1 || (c2 || c3))) := Lib.hid (by rw [← hc1, ← hc2, ← hc3]; unfold wrongG; cases decide (0 ≤ f) <;> cases decide (f ≤ 16) <;> cases decide (0 ≤ b) <;> cases decide (b ≤ 16) <;> rfl)
  have H1 := Lib.hid (fun W => outside_any f 0 16 W)
  have H2 := Lib.hid (fun W => outside_any b 0 16 W)
  have H3 := Lib.hid (fun W => outside_any ev 0 1024 W)
  rw [hc1] at H1
  rw [hc2] at H2
  rw [hc3] at H3
  clear hc1 hc2 hc3
  cases c1 with
  | true =>
    go_enter Try.func71, Try.ntmps71
    go_wp2_with (go_at_call 70; refine (H1.out _).mono ?_; rintro e w' ⟨rfl, rfl⟩)
    go_ret
    exact ⟨ret_bool (by rw [hR.out]; rfl), hb0⟩
  | false =>
    cases c2 with
    | true =>
      go_enter Try.func71, Try.ntmps71
      go_wp2_with (go_at_call 70; first | (refine (H1.out _).mono ?_; clear H1; rintro e w' ⟨rfl, rfl⟩) | (refine (H2.out _).mono ?_; rintro e w' ⟨rfl, rfl⟩))
      go_ret
      exact ⟨ret_bool (by rw [hR.out]; rfl), hb0⟩
    | false =>
      go_enter Try.func71, Try.ntmps71
      go_wp2_with (go_at_call 70; first | (refine (H1.out _).mono ?_; clear H1; rintro e w' ⟨rfl, rfl⟩) | (refine (H2.out _).mono ?_; clear H2; rintro e w' ⟨rfl, rfl⟩) | (refine (H3.out _).mono ?_; rintro e w' ⟨rfl, rfl⟩))
      go_ret
      exact ⟨ret_bool (by rw [hR.out]; rfl), hb0⟩

theorem rspec_any (f b ev : Int) (w : World) :
    Calls Try.prog 73 #[.agg #[.int .i64 f, .int .i64 b, .int .i64 ev]] w fun e w' => e = .returned (.bool (!wrongG f b ev)) ∧ Below w.heap.size w w' := by
  have hb0 := (Below.refl w.heap.size w).alloc (Nat.le_refl _) (.cells #[.int .i64 f, .int .i64 b, .int .i64 ev] 23)
  have hR : Hid ((!wrongG f b ev) = (decide (0 ≤ f) && decide (f ≤ 16) && decide (0 ≤ b) && decide (b ≤ 16) && decide (0 ≤ ev) && decide (ev ≤ 1024))) := Lib.hid (by unfold wrongG; rw [Bool.not_not])
  by_cases hsf : 0 ≤ f
  case neg =>
    have hs' : decide (0 ≤ f) = false := by simpa using hsf
    go_enter Try.func73, Try.ntmps73
    go_wp2
    go_ret
    exact ⟨ret_bool (by rw [hR.out]; simp [*]), hb0⟩
  have hsf' : decide (0 ≤ f) = true := by simpa using hsf
  by_cases hsf : f ≤ 16
  case neg =>
    have hs' : decide (f ≤ 16) = false := by simpa using hsf
    go_enter Try.func73, Try.ntmps73
    go_wp2
    go_ret
    exact ⟨ret_bool (by rw [hR.out]; simp [*]), hb0⟩
  have hsf' : decide (f ≤ 16) = true := by simpa using hsf
  by_cases hsb : 0 ≤ b
  case neg =>
    have hs' : decide (0 ≤ b) = false := by simpa using hsb
    go_enter Try.func73, Try.ntmps73
    go_wp2
    go_ret
    exact ⟨ret_bool (by rw [hR.out]; simp [*]), hb0⟩
  have hsb' : decide (0 ≤ b) = true := by simpa using hsb
  by_cases hsb : b ≤ 16
  case neg =>
    have hs' : decide (b ≤ 16) = false := by simpa using hsb
    go_enter Try.func73, Try.ntmps73
    go_wp2
    go_ret
    exact ⟨ret_bool (by rw [hR.out]; simp [*]), hb0⟩
  have hsb' : decide (b ≤ 16) = true := by simpa using hsb
  by_cases hsev : 0 ≤ ev
  case neg =>
    have hs' : decide (0 ≤ ev) = false := by simpa using hsev
    go_enter Try.func73, Try.ntmps73
    go_wp2
    go_ret
    exact ⟨ret_bool (by rw [hR.out]; simp [*]), hb0⟩
  have hsev' : decide (0 ≤ ev) = true := by simpa using hsev
  go_enter Try.func73, Try.ntmps73
  go_wp2
  go_ret
  exact ⟨ret_bool (by rw [hR.out]; simp [*]), hb0⟩

set_option maxHeartbeats 400000 in
theorem gcheck_any (pg n f b ev : Int) (w : World) :
    Calls Try.prog 32 #[planV pg n f b ev] w fun e w' => e = .returned (.int .i64 (chkG pg n f b ev)) ∧ Below w.heap.size w w' := by
  obtain ⟨R, hR0⟩ : ∃ R : Int, chkG pg n f b ev = R := ⟨_, rfl⟩
  rw [hR0]
  have hR := Lib.hid hR0
  clear hR0
  have hb0 := (Below.refl w.heap.size w).alloc (Nat.le_refl _) (.cells (planC pg n f b ev) 25)
  have k0 := Blk.new w 25 (planC pg n f b ev)
  have hb1 := hb0.alloc hb0.size (.cells #[.int .i64 pg, .int .i64 n] 40)
  have k1 := k0.alloc (.cells #[.int .i64 pg, .int .i64 n] 40)
  have kS := Blk.new (w.alloc (.cells (planC pg n f b ev) 25)) 40 #[.int .i64 pg, .int .i64 n]
  rw [World.size_alloc] at kS
  have HC := Lib.hid (spCheck_any (some ⟨w.heap.size + 1, 0, none⟩) 1 1 [(pg, n)] _ rfl (by unfold maxLen; omega) (ru_blk1 kS))
  rw [chkS_one] at HC
  by_cases hv : vld (pg, n) = true
  case neg =>
    rw [if_neg hv] at HC
    have hE : Hid (R = 7) := Lib.hid (by rw [← hR.out, chkG, if_pos (.inl (by simpa using hv))])
    clear hv hR
    go_enter Try.func32, Try.ntmps32
    go_wp2_with (go_at_call 42; refine (HC.out).mono ?_; rintro e w1 ⟨rfl, hq⟩; have k2 := k1.call hq; have c2 := k2.cell)
    go_ret
    exact ⟨ret_int hE.out.symm, hb1.trans (hq.mono hb1.size)⟩
  case pos =>
    rw [if_pos hv] at HC
    have HW := Lib.hid (fun W => gwrong_any f b ev W)
    cases hw : wrongG f b ev with
    | true =>
      rw [hw] at HW
      have hE : Hid (R = 7) := Lib.hid (by rw [← hR.out, chkG, if_pos (.inr hw)])
      clear hv hR hw
      go_enter Try.func32, Try.ntmps32
      go_wp2_with (first
        | (go_at_call 42; refine (HC.out).mono ?_; rintro e w1 ⟨rfl, hq⟩; have k2 := k1.call hq; have c2 := k2.cell)
        | (go_at_call 71; refine (HW.out _).mono ?_; rintro e w3 ⟨rfl, hq3⟩))
      go_ret
      have hb2 := hb1.trans (hq.mono hb1.size)
      exact ⟨ret_int hE.out.symm, hb2.trans (hq3.mono hb2.size)⟩
    | false =>
      rw [hw] at HW
      have hE : Hid (R = if n ≤ f + b then 4 else 0) := Lib.hid (by rw [← hR.out, chkG, if_neg (by simp [hv, hw])])
      have hv' := vld_iff.1 hv
      have hw' := wrongG_iff.1 hw
      dsimp only at hv'
      clear hv hR hw
      by_cases hn : n ≤ f + b
      · have hn' : decide (n ≤ f + b) = true := by simpa using hn
        rw [if_pos hn] at hE
        clear hn
        go_enter Try.func32, Try.ntmps32
        go_wp2_with (first
          | (go_at_call 42; refine (HC.out).mono ?_; rintro e w1 ⟨rfl, hq⟩; have k2 := k1.call hq; have c2 := k2.cell)
          | (go_at_call 71; refine (HW.out _).mono ?_; rintro e w3 ⟨rfl, hq3⟩; have k3 := k2.call hq3; have c3 := k3.cell))
        go_ret
        have hb2 := hb1.trans (hq.mono hb1.size)
        exact ⟨ret_int hE.out.symm, hb2.trans (hq3.mono hb2.size)⟩
      · have hn' : decide (n ≤ f + b) = false := by simpa using hn
        rw [if_neg hn] at hE
        clear hn
        go_enter Try.func32, Try.ntmps32
        go_wp2_with (first
          | (go_at_call 42; refine (HC.out).mono ?_; rintro e w1 ⟨rfl, hq⟩; have k2 := k1.call hq; have c2 := k2.cell)
          | (go_at_call 71; refine (HW.out _).mono ?_; rintro e w3 ⟨rfl, hq3⟩; have k3 := k2.call hq3; have c3 := k3.cell))
        go_ret
        have hb2 := hb1.trans (hq.mono hb1.size)
        exact ⟨ret_int hE.out.symm, hb2.trans (hq3.mono hb2.size)⟩
set_option maxHeartbeats 400000 in
theorem rgcheck_any (pg n f b ev : Int) (w : World) :
    Calls Try.prog 33 #[planV pg n f b ev] w fun e w' => e = .returned (.int .i64 (chkG pg n f b ev)) ∧ Below w.heap.size w w' := by
  obtain ⟨R, hR0⟩ : ∃ R : Int, chkG pg n f b ev = R := ⟨_, rfl⟩
  rw [hR0]
  have hR := Lib.hid hR0
  clear hR0
  have hb1 := (Below.refl w.heap.size w).alloc (Nat.le_refl _) (.cells (planC pg n f b ev) 25)
  have k1 := Blk.new w 25 (planC pg n f b ev)
  have HC := Lib.hid (fun W => valid_any pg n W)
  by_cases hv : vld (pg, n) = true
  case neg =>
    have hv' : vld (pg, n) = false := by simpa using hv
    rw [hv'] at HC
    have hE : Hid (R = 7) := Lib.hid (by rw [← hR.out, chkG, if_pos (.inl (by simpa using hv))])
    clear hv hR hv'
    go_enter Try.func33, Try.ntmps33
    go_wp2_with (go_at_call 79; refine (HC.out _).mono ?_; rintro e w1 ⟨rfl, hq⟩; have k2 := k1.call hq; have c2 := k2.cell)
    go_ret
    exact ⟨ret_int hE.out.symm, hb1.trans (hq.mono hb1.size)⟩
  case pos =>
    rw [hv] at HC
    have HW := Lib.hid (fun W => rspec_any f b ev W)
    cases hw : wrongG f b ev with
    | true =>
      rw [hw] at HW
      have hE : Hid (R = 7) := Lib.hid (by rw [← hR.out, chkG, if_pos (.inr hw)])
      clear hv hR hw
      go_enter Try.func33, Try.ntmps33
      go_wp2_with (first
        | (go_at_call 79; refine (HC.out _).mono ?_; rintro e w1 ⟨rfl, hq⟩; have k2 := k1.call hq; have c2 := k2.cell)
        | (go_at_call 73; refine (HW.out _).mono ?_; rintro e w3 ⟨rfl, hq3⟩))
      go_ret
      have hb2 := hb1.trans (hq.mono hb1.size)
      exact ⟨ret_int hE.out.symm, hb2.trans (hq3.mono hb2.size)⟩
    | false =>
      rw [hw] at HW
      have hE : Hid (R = if n ≤ f + b then 4 else 0) := Lib.hid (by rw [← hR.out, chkG, if_neg (by simp [hv, hw])])
      have hv' := vld_iff.1 hv
      have hw' := wrongG_iff.1 hw
      dsimp only at hv'
      clear hv hR hw
      by_cases hn : n ≤ f + b
      · have hn' : decide (n ≤ f + b) = true := by simpa using hn
        rw [if_pos hn] at hE
        clear hn
        go_enter Try.func33, Try.ntmps33
        go_wp2_with (first
          | (go_at_call 79; refine (HC.out _).mono ?_; rintro e w1 ⟨rfl, hq⟩; have k2 := k1.call hq; have c2 := k2.cell)
          | (go_at_call 73; refine (HW.out _).mono ?_; rintro e w3 ⟨rfl, hq3⟩; have k3 := k2.call hq3; have c3 := k3.cell))
        go_ret
        have hb2 := hb1.trans (hq.mono hb1.size)
        exact ⟨ret_int hE.out.symm, hb2.trans (hq3.mono hb2.size)⟩
      · have hn' : decide (n ≤ f + b) = false := by simpa using hn
        rw [if_neg hn] at hE
        clear hn
        go_enter Try.func33, Try.ntmps33
        go_wp2_with (first
          | (go_at_call 79; refine (HC.out _).mono ?_; rintro e w1 ⟨rfl, hq⟩; have k2 := k1.call hq; have c2 := k2.cell)
          | (go_at_call 73; refine (HW.out _).mono ?_; rintro e w3 ⟨rfl, hq3⟩; have k3 := k2.call hq3; have c3 := k3.cell))
        go_ret
        have hb2 := hb1.trans (hq.mono hb1.size)
        exact ⟨ret_int hE.out.symm, hb2.trans (hq3.mono hb2.size)⟩

set_option maxHeartbeats 400000 in
theorem kind_any (pg n f b ev page : Int) (w : World) (hp : PlanOk pg n f b ev) (h0 : 0 ≤ page) (h1 : page ≤ 2000) :
    Calls Try.prog 76 #[planV pg n f b ev, .int .i64 page] w fun e w' => e = .returned (.int .i64 (kindG pg n f b ev page)) ∧ Below w.heap.size w w' := by
  obtain ⟨R, hR0⟩ : ∃ R : Int, kindG pg n f b ev page = R := ⟨_, rfl⟩
  rw [hR0]
  have hR := Lib.hid hR0
  clear hR0
  obtain ⟨p1, p2, p3, p4, p5, p6, p7, p8, p9, p10, p11⟩ := hp
  have hb1 := (Below.refl w.heap.size w).alloc (Nat.le_refl _) (.cells (planC pg n f b ev) 25)
  have k1 := Blk.new w 25 (planC pg n f b ev)
  have c1 := k1.cell
  by_cases a1 : page - pg < 0 ∨ n ≤ page - pg
  · have hE : Hid (R = 4) := Lib.hid (by rw [← hR.out, kindG, if_pos a1])
    by_cases a2 : page - pg < 0
    · have a2' : decide (page - pg < 0) = true := by simpa using a2
      go_enter Try.func76, Try.ntmps76
      go_wp2_with fail
      go_ret
      exact ⟨ret_int hE.out.symm, hb1⟩
    · have a2' : decide (page - pg < 0) = false := by simpa using a2
      have a3' : decide (n ≤ page - pg) = true := by simp; omega
      go_enter Try.func76, Try.ntmps76
      go_wp2_with fail
      go_ret
      exact ⟨ret_int hE.out.symm, hb1⟩
  · have a2' : decide (page - pg < 0) = false := by simp; omega
    have a3' : decide (n ≤ page - pg) = false := by simp; omega
    have a4 : 0 ≤ page - pg ∧ page - pg < n := by omega
    by_cases b1 : page - pg < f
    · have hE : Hid (R = 1) := Lib.hid (by rw [← hR.out, kindG, if_neg a1, if_pos b1])
      have b1' : decide (page - pg < f) = true := by simpa using b1
      clear a1
      go_enter Try.func76, Try.ntmps76
      go_wp2_with fail
      go_ret
      exact ⟨ret_int hE.out.symm, hb1⟩
    · have b1' : decide (page - pg < f) = false := by simpa using b1
      by_cases b2 : n - b ≤ page - pg
      · have hE : Hid (R = 2) := Lib.hid (by rw [← hR.out, kindG, if_neg a1, if_neg b1, if_pos b2])
        have b2' : decide (n - b ≤ page - pg) = true := by simpa using b2
        clear a1
        go_enter Try.func76, Try.ntmps76
        go_wp2_with fail
        go_ret
        exact ⟨ret_int hE.out.symm, hb1⟩
      · have b2' : decide (n - b ≤ page - pg) = false := by simpa using b2
        have hE : Hid (R = if 0 < ev ∧ (page - pg - f + 1) % (ev + 1) = 0 then 3 else 0) := Lib.hid (by rw [← hR.out, kindG, if_neg a1, if_neg b1, if_neg b2])
        by_cases b3 : 0 < ev
        · have b3' : decide (0 < ev) = true := by simpa using b3
          have hm : Int.tmod (page - pg - f + 1) (ev + 1) = (page - pg - f + 1) % (ev + 1) := Int.tmod_eq_emod_of_nonneg (by omega)
          by_cases b4 : (page - pg - f + 1) % (ev + 1) = 0
          · have b4' : ((page - pg - f + 1) % (ev + 1) == 0) = true := by simpa using b4
            have hE2 : Hid (R = 3) := Lib.hid (by rw [hE.out, if_pos ⟨b3, b4⟩])
            clear a1 hE b4
            go_enter Try.func76, Try.ntmps76
            go_wp2_with fail
            go_ret
            exact ⟨ret_int hE2.out.symm, hb1⟩
          · have b4' : ((page - pg - f + 1) % (ev + 1) == 0) = false := by simpa using b4
            have hE2 : Hid (R = 0) := Lib.hid (by rw [hE.out, if_neg (fun h => b4 h.2)])
            clear a1 hE b4
            go_enter Try.func76, Try.ntmps76
            go_wp2_with fail
            go_ret
            exact ⟨ret_int hE2.out.symm, hb1⟩
        · have b3' : decide (0 < ev) = false := by simpa using b3
          have hE2 : Hid (R = 0) := Lib.hid (by rw [hE.out, if_neg (fun h => b3 h.1)])
          clear a1 hE
          go_enter Try.func76, Try.ntmps76
          go_wp2_with fail
          go_ret
          exact ⟨ret_int hE2.out.symm, hb1⟩
end Go.Proofs.Ytfmnlpgboolpmaa
